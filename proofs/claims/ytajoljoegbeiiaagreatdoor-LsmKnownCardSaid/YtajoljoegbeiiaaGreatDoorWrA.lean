/-
  The executor: slices.Insert(s, 0, v) of one element into a slice whose capacity is not known, by its contract: in place or grown, the result is one state. slices.Insert at []api.File, at index 0, of one element: what it does in a world (InsC).
-/
import Derived.Test.YtajoljoegbeiiaaGreatDoorExT
import Derived.Test.YtajoljoegbeiiaaGreatDoorChecked
import Derived.Test.YtajoljoegbeiiaaGreatDoorSlA
import Derived.Lib.AppendZerosOnto
import Derived.Lib.Overlaps
import Derived.Laws.Externs
namespace Go.Proofs.YtajoljoegbeiiaaGreatDoor
set_option linter.all false
set_option maxRecDepth 100000
namespace Ex
open Go.RowKit
noncomputable section
def insOk (e : TypeId) (z n c : Nat) (xs ys : List AV) (k kv : Bk) : Bool :=
  (!k.ro) && (!k.st) && (!k.fx) && Nat.beq k.e e && Nat.ble (Nat.mul c z) k.n && Nat.ble n c && Nat.beq k.fz 0 && Nat.beq k.bnd 0 && (!kv.ro) && (!kv.st) && kv.fx && Nat.beq kv.fz 0 && xs.all oneA && ys.all oneA && Nat.blt 0 kv.n
def insNew (e : TypeId) (z b n : Nat) (h : Hp) (nx : Nat) (xs ys : List AV) (k : Bk) : Rs := ⟨.slice nx 0 (n + 1) (n + 1) false, setBk (h.set .dead b (elder 0 k)) nx (newer e z (n + 1) 0 0 b (cat ys xs) k), nx + 1⟩
def insY (e : TypeId) (z b n c : Nat) (h : Hp) (nx : Nat) (k kv : Bk) (xs ys : List AV) : Option Rs := bif insOk e z n c xs ys k kv then some (insNew e z b n h nx xs ys k) else none
def insX (e : TypeId) (z b n c vb vo : Nat) (h : Hp) (nx : Nat) (k kv : Bk) (xs : List AV) : Option Rs := (loadN h vb vo z).bind (insY e z b n c h nx k kv xs)
def insV (e : TypeId) (z b n c vb vo : Nat) (h : Hp) (nx : Nat) (k kv : Bk) : Option Rs := (loadN h b 0 (Nat.mul n z)).bind (insX e z b n c vb vo h nx k kv)
def insK (e : TypeId) (z b n c vb vo : Nat) (h : Hp) (nx : Nat) (k : Bk) : Option Rs := (getBk h vb).bind (insV e z b n c vb vo h nx k)
def insB (e : TypeId) (z b n c vb vo : Nat) (h : Hp) (nx : Nat) : Option Rs := (getBk h b).bind (insK e z b n c vb vo h nx)
/-- slices.Insert(s, 0, v) of one element, s neither empty nor of a known capacity. -/
def insP (e : TypeId) (z : Nat) (args : List AV) (h : Hp) (nx : Nat) : Option Rs := match args with
  | [.slice b o n c ex, .int .i64 (.ofNat i), .slice vb vo m _ _] => bif Nat.beq o 0 && (!ex) && Nat.blt 0 n && Nat.ble n 1000000 && Nat.beq i 0 && Nat.beq m 1 && (!Nat.beq vb b) then insB e z b n c vb vo h nx else none
  | _ => none
end
/-- What the function does in a world. -/
def InsC (P : Program) (f : FuncId) (e : TypeId) (z : Nat) (zero : Array Value) : Prop :=
  ∀ (w : World) (g off n c : Nat) (cs : Array Value) (fz : Nat × Nat) (vg voff vc : Nat) (vs : Array Value) (te : TypeId) (xs ys : List Value),
    w.heap[g]? = some (.cells cs e fz) → w.heap[vg]? = some (.cells vs te) → vg ≠ g → 0 < n → n ≤ 1000000 → n ≤ c → off + c * z ≤ cs.size → FzOk fz cs.size off →
    xs.length = n * z → ys.length = z → (∀ j u, xs[j]? = some u → cs[off + j]? = some u) → (∀ j u, ys[j]? = some u → vs[voff + j]? = some u) → (∀ u ∈ xs, u.oneCell' = true) → (∀ u ∈ ys, u.oneCell' = true) →
    Calls P f #[.slice (some ⟨g, off, none⟩) n c, .int .i64 0, .slice (some ⟨vg, voff, none⟩) 1 vc] w fun y w' => ∃ v, y = .returned v ∧ w'.os = w.os ∧ w'.tape = w.tape ∧ w'.output = w.output ∧
      ((∃ cap, n + 1 ≤ cap ∧ v = .slice (some ⟨w.heap.size, 0, none⟩) (n + 1) cap ∧ w'.heap = w.heap.push (.cells ((ys ++ xs).toArray ++ Builtin.zeroCells zero (cap - (n + 1))) e)) ∨
       (n + 1 ≤ c ∧ v = .slice (some ⟨g, off, none⟩) (n + 1) c ∧ ∃ cs', w'.heap = (w.setRow g cs').heap ∧ cs'.size = cs.size ∧ ∀ i, cs'[i]? = if i < off then cs[i]? else if i < off + (n + 1) * z then (ys ++ xs)[i - off]? else cs[i]?))
section
variable {P : Program}
theorem VRL.ones {m : Mz} {l : List AV} {us : List Value} (hone : l.all oneA = true) (hv : VRL m l us) : ∀ u ∈ us, u.oneCell' = true := all_one hone hv
theorem met_insert (hN : NoNum P) {f : FuncId} {fn : Func} {c0 : Code} (hf : P.funcs[f]? = some fn) (hbd : fn.body = some c0) {e : TypeId} {z : Nat} (hz : sizeT P e = some z) {zero : Array Value} (hzs : zero.size = z) (hC : InsC P f e z zero) : Met P f (insP e z) := by
  refine met_calls hN hf hbd fun args h nx r hr m w Vs hW hv => ?_
  unfold insP at hr
  split at hr
  · rename_i b o n c ex i vb vo mm vc vex
    obtain ⟨hck, hr1⟩ := cond_some hr
    clear hr
    simp only [Bool.and_eq_true, Bool.not_eq_true'] at hck
    obtain ⟨⟨⟨⟨⟨⟨q1, q2⟩, q3⟩, q4⟩, q5⟩, q6⟩, q7⟩ := hck
    have q1 : o = 0 := nbeq q1
    have q5 : i = 0 := nbeq q5
    have q6 : mm = 1 := nbeq q6
    have q3 : 0 < n := Nat.le_of_ble_eq_true q3
    have q4 : n ≤ 1000000 := Nat.le_of_ble_eq_true q4
    have q7 : vb ≠ b := fun hh => by rw [hh] at q7; have : Nat.beq b b = true := Nat.beq_refl b; rw [this] at q7; cases q7
    subst q1 q2 q5 q6
    obtain ⟨k, hk, hr⟩ := bind_some (show (getBk h b).bind (insK e z b n c vb vo h nx) = some r from hr1)
    obtain ⟨kv, hkv, hr⟩ := bind_some (show (getBk h vb).bind (insV e z b n c vb vo h nx k) = some r from hr)
    obtain ⟨xs, hxs, hr⟩ := bind_some (show (loadN h b 0 (Nat.mul n z)).bind (insX e z b n c vb vo h nx k kv) = some r from hr)
    obtain ⟨ys, hys, hr⟩ := bind_some (show (loadN h vb vo z).bind (insY e z b n c h nx k kv xs) = some r from hr)
    obtain ⟨hok, hr⟩ := cond_some (show (bif insOk e z n c xs ys k kv then some (insNew e z b n h nx xs ys k) else none) = some r from hr)
    cases hr
    unfold insOk at hok
    simp only [Bool.and_eq_true, Bool.not_eq_true'] at hok
    obtain ⟨⟨⟨⟨⟨⟨⟨⟨⟨⟨⟨⟨⟨⟨p1, p2⟩, p3⟩, p4⟩, p5⟩, p6⟩, p7⟩, p8⟩, r1⟩, r2⟩, r3⟩, r4⟩, s1⟩, s2⟩, s3⟩ := hok
    have p4 : k.e = e := nbeq p4
    have p5 : c * z ≤ k.n := Nat.le_of_ble_eq_true p5
    have p6 : n ≤ c := Nat.le_of_ble_eq_true p6
    have p7 : k.fz = 0 := nbeq p7
    have p8 : k.bnd = 0 := nbeq p8
    have r4 : kv.fz = 0 := nbeq r4
    obtain ⟨S, I, V, rfl, hS, hI, hV⟩ : ∃ S I V, Vs = #[S, I, V] ∧ VR m (.slice b 0 n c false) S ∧ VR m (.int .i64 (.ofNat 0)) I ∧ VR m (.slice vb vo 1 vc vex) V := by
      obtain ⟨L, hL⟩ : ∃ L, Vs.toList = L := ⟨_, rfl⟩
      rw [hL] at hv
      cases hv with
      | cons h1 h2 => cases h2 with
        | cons h2 h3 => cases h3 with
          | cons h3 h4 => cases h4 with
            | nil => exact ⟨_, _, _, Array.toList_inj.1 hL, h1, h2, h3⟩
    cases hI
    obtain ⟨zb, csb, fzb, hB⟩ := hW.bk hk
    obtain ⟨zv, csv, fzv, hBv⟩ := hW.bk hkv
    have hnf : k.fx = false := p3
    obtain ⟨hw1, hw2⟩ := hBv.whole r3 r1
    have hw3 := hBv.bare r3 r1 r4
    subst hw3
    obtain ⟨zz, hzz, hcase⟩ := hS.slice_inv
    have := hB.hm; rw [hzz] at this; cases this
    obtain ⟨zz2, hzz2, hcase2⟩ := hV.slice_inv
    have := hBv.hm; rw [hzz2] at this; cases this
    rcases hcase with rfl | ⟨g1, g2, g3, A, rfl⟩
    rotate_left
    · omega
    rcases hcase2 with rfl | ⟨g1, g2, g3, A, rfl⟩
    rotate_left
    · cases g1
    obtain ⟨zl, us, hzl, hul, hvu, hcu⟩ := loadN_ok hW hxs
    rw [hzz] at hzl; cases hzl
    obtain ⟨zl, vs, hzl, hvl, hvv, hcv⟩ := loadN_ok hW hys
    rw [hzz2] at hzl; cases hzl
    have hne : zv.blk ≠ zb.blk := fun heq => by
      have := hW.ap b vb zb zv (fun hh => q7 hh) hzz hzz2 (by rw [getBk_some hkv]; simp)
      rw [getBk_some hk, getBk_some hkv] at this
      obtain ⟨kx, hkx, _, hsx, _⟩ := this p1 p2 heq
      cases hkx
      rw [r2] at hsx; cases hsx
    have hsz := hB.sz
    rw [p4, cellsOf_eq hz] at hsz
    have hhp := hB.hp
    rw [p4] at hhp
    have hcm : (c + zb.ext) * z = c * z + zb.ext * z := Nat.add_mul _ _ _
    have hxe := all_one s1 hvu
    have hye := all_one s2 hvv
    have key := hC w zb.blk zb.sh n (c + zb.ext) csb fzb zv.blk (zv.sh + vo) (if vex = true then vc else vc + zv.ext) csv kv.e us vs hhp hBv.hp hne q3 q4 (by omega) (by omega) (fun j g1 g2 => hB.fr p2 j (by omega) g2) (by rw [hul]; rfl) hvl
      (fun j u hj => by have := hcu j u hj; rw [hB.cell] at this; simpa using this) (fun j u hj => by have := hcv j u hj; rw [hBv.cell] at this; exact this) hxe hye
    simp only [Bool.false_eq_true, if_false, Nat.add_zero] at key ⊢
    refine key.mono ?_
    rintro y w' ⟨v, rfl, ho, ht, hp, hcs⟩
    have hvall := hvv.append hvu
    have hlen : (vs ++ us).length = (n + 1) * z := by rw [List.length_append, hul, hvl, Nat.add_mul, Nat.one_mul]; exact Nat.add_comm _ _
    have hlen2 : (ys ++ xs).length = (n + 1) * z := by rw [hvall.length]; exact hlen
    rcases hcs with ⟨cap, hcap, rfl, hh⟩ | ⟨hroom, rfl, cs', hh, hcz, hget⟩
    · obtain ⟨m', g1, g2, g3⟩ := either_grow hW (getBk_some hk) p2 hnf 0 0 0 hvall hlen hz hzs hcap _ rfl
      refine ⟨_, m', rfl, ?_, g2, ?_⟩
      · show WR P m' (setBk (h.set .dead b (elder 0 k)) nx (newer e z (n + 1) 0 0 b (cat ys xs) k)) _ _
        rw [cat_eq]; exact g1.drew (by rw [hh]; rfl)
      · show Evo m h w m' (setBk (h.set .dead b (elder 0 k)) nx (newer e z (n + 1) 0 0 b (cat ys xs) k)) _
        rw [cat_eq]; exact g3.trans (Evo.drew (by rw [hh]; rfl) (by rw [ho]; rfl) (by rw [ht]; rfl) (by rw [hp]; rfl))
    · have hle := upd_le (⟨zb.blk, zb.sh, c + zb.ext - (n + 1)⟩ : Cz) (hW.fresh nx (Nat.le_refl _))
      have hext : (c + zb.ext - (n + 1)) * z = (c + zb.ext) * z - (n + 1) * z := Nat.sub_mul _ _ _
      have hnz : (n + 1) * z ≤ (c + zb.ext) * z := Nat.mul_le_mul_right _ hroom
      have hrow : ∀ (i : Nat) (u : Value), (vs ++ us)[i]? = some u → cs'[zb.sh + i]? = some u := fun i u hi => by
        have hlt := (List.getElem?_eq_some_iff.1 hi).1
        rw [hget, if_neg (by omega), if_pos (by omega), show zb.sh + i - zb.sh = i by omega]
        exact hi
      have hB' : BR P (upd m nx ⟨zb.blk, zb.sh, c + zb.ext - (n + 1)⟩) (w.setRow zb.blk cs') nx (newer e z (n + 1) 0 0 b (ys ++ xs) k) ⟨zb.blk, zb.sh, c + zb.ext - (n + 1)⟩ cs' fzb :=
        ⟨upd_at _ _ _, setRow_heap w zb.blk csb cs' e fzb hhp, by
          show zb.sh + (n + 1) * z + (c + zb.ext - (n + 1)) * P.cellsOf e ≤ cs'.size
          rw [cellsOf_eq hz, hcz]; omega,
         fun i hi => by
          have hi : i < (n + 1) * z := hi
          exact newer_here (m := upd m nx ⟨zb.blk, zb.sh, c + zb.ext - (n + 1)⟩) (hvall.mono hle) (rows := cs') (sh := zb.sh) hrow i (by omega),
         (fun _ j g1 g2 => hB.fr p2 j (by have g1 : zb.sh + (k.fz - 0) ≤ j := g1; omega) (by omega)), (fun hc => by cases hc), (fun hc => by cases hc), (fun hc => by cases hc)⟩
      obtain ⟨h3, h4⟩ := fork_ok hW (getBk_some hk) p1 p2 hnf hB hcz (p := 0) (fun i hi => by rw [hget, if_pos (by omega)]) (by omega) (kn := newer e z (n + 1) 0 0 b (ys ++ xs) k) (zn := ⟨zb.blk, zb.sh, c + zb.ext - (n + 1)⟩) rfl (by show zb.sh + 0 ≤ zb.sh + 0; omega) rfl rfl hB'
      have hsl := VR.slice (m := upd m nx ⟨zb.blk, zb.sh, c + zb.ext - (n + 1)⟩) (b := nx) 0 (n + 1) (n + 1) false (upd_at m nx _)
      rw [show (if false = true then n + 1 else n + 1 + (⟨zb.blk, zb.sh, c + zb.ext - (n + 1)⟩ : Cz).ext) = c + zb.ext by simp; omega] at hsl
      refine ⟨_, upd m nx ⟨zb.blk, zb.sh, c + zb.ext - (n + 1)⟩, rfl, ?_, hsl, ?_⟩
      · show WR P _ (setBk (h.set .dead b (elder 0 k)) nx (newer e z (n + 1) 0 0 b (cat ys xs) k)) _ _
        rw [cat_eq]; exact h3.drew hh
      · show Evo m h w _ (setBk (h.set .dead b (elder 0 k)) nx (newer e z (n + 1) 0 0 b (cat ys xs) k)) _
        rw [cat_eq]
        exact h4.trans (Evo.drew hh (by rw [ho]; rfl) (by rw [ht]; rfl) (by rw [hp]; rfl))
  · cases hr
end
end Ex
end Go.Proofs.YtajoljoegbeiiaaGreatDoor

namespace Go.Proofs.YtajoljoegbeiiaaGreatDoor
set_option linter.all false
set_option maxRecDepth 100000
open Go.RowKit Ex
section
variable {P : Program}
theorem wp_copy_at {o : Oper} {a : Act} {w : World} {K : Act → World → Prop} {Q : Exit → Act → World → Prop} (s x : Operand) (t sT : TypeId)
    (ho : o.op = .call { callee := .builtin .copy, args := #[s, x], argTypes := #[t, sT] }) (v u : Value) (hd : a.eval s = v) (hs : a.eval x = u) {v' : Value} {w' : World}
    (hr : (Builtin.copy_ #[t, sT] o.type #[v, u]).run P w = .ok v' w') (h : K (a.put o.dst v') w') : o.wp P a w K Q := by
  unfold Oper.wp execOp
  simp only [ho, resolve, invoke, builtin, Sem.run_bind, Sem.run_pure, Result.andThen_ok, List.map_toArray, List.map_cons, List.map_nil, hd, hs, hr]
  exact h
theorem step_copy_at {ops : Array Oper} {o : Oper} {a : Act} {w : World} {K : Act → World → Prop} {Q : Exit → Act → World → Prop} {F : Prop} (hgd : o.guard = none) (s x : Operand) (t sT : TypeId)
    (ho : o.op = .call { callee := .builtin .copy, args := #[s, x], argTypes := #[t, sT] }) (v u : Value) (hd : a.eval s = v) (hs : a.eval x = u) {v' : Value} {w' : World}
    (hr : (Builtin.copy_ #[t, sT] o.type #[v, u]).run P w = .ok v' w') (h : K (a.put o.dst v') w') :
    if Region.wanted o (yielded ops a.tmps) = true then Oper.wp P o a w K Q else F := by
  have hw : Region.wanted o (yielded ops a.tmps) = true := by simp [Region.wanted, hgd]
  rw [if_pos hw]
  exact wp_copy_at s x t sT ho v u hd hs hr h
theorem wp_append_at {o : Oper} {a : Act} {w : World} {K : Act → World → Prop} {Q : Exit → Act → World → Prop} (s x : Operand) (t sT : TypeId)
    (ho : o.op = .call { callee := .builtin .append, args := #[s, x], argTypes := #[t, sT] }) (v u : Value) (hd : a.eval s = v) (hs : a.eval x = u) {v' : Value} {w' : World}
    (hr : (Builtin.append_ #[t, sT] o.type #[v, u]).run P w = .ok v' w') (h : K (a.put o.dst v') w') : o.wp P a w K Q := by
  unfold Oper.wp execOp
  simp only [ho, resolve, invoke, builtin, Sem.run_bind, Sem.run_pure, Result.andThen_ok, List.map_toArray, List.map_cons, List.map_nil, hd, hs, hr]
  exact h
theorem wpList_append_at {ops : Array Oper} {rest : List Oper} {o : Oper} {a : Act} {w : World} {Q : Exit → Act → World → Prop} (hgd : o.guard = none) (s x : Operand) (t sT : TypeId)
    (ho : o.op = .call { callee := .builtin .append, args := #[s, x], argTypes := #[t, sT] }) (v u : Value) (hd : a.eval s = v) (hs : a.eval x = u) {v' : Value} {w' : World}
    (hr : (Builtin.append_ #[t, sT] o.type #[v, u]).run P w = .ok v' w') (h : wpList P ops Q rest (a.put o.dst v') w') : wpList P ops Q (o :: rest) a w :=
  wpList_plain hgd fun _ hK => wp_append_at s x t sT ho v u hd hs hr (hK _ _ h)
/-- A row, some cells of it turned. -/
def spl (cs : Array Value) (oo : Nat) (us : List Value) : Array Value := (cs.toList.take oo ++ us ++ cs.toList.drop (oo + us.length)).toArray
theorem spl_size (cs : Array Value) (oo : Nat) (us : List Value) (hl : oo + us.length ≤ cs.size) : (spl cs oo us).size = cs.size := by
  simp [spl]; omega
theorem spl_get (cs : Array Value) (oo : Nat) (us : List Value) (hl : oo + us.length ≤ cs.size) (i : Nat) : (spl cs oo us)[i]? = if i < oo then cs[i]? else if i < oo + us.length then us[i - oo]? else cs[i]? := by
  have hcl : cs.toList.length = cs.size := Array.length_toList
  rw [spl, List.getElem?_toArray, seg_get cs.toList us oo i (by omega)]
  simp only [Array.getElem?_toList]
/-- 'copy', told of the row. -/
theorem run_copy_raw {t sT ty e : TypeId} {i : TypeInfo} (ht : P.underlying t = some (.slice e)) (hi : P.info? e = some i) {w : World} {g oo dn dc : Nat} {cs : Array Value} {e' : TypeId} {fz : Nat × Nat} (hg : w.heap[g]? = some (.cells cs e' fz))
    {xg xo xn xc m : Nat} {us : List Value} (hm : Nat.min xn dn = m) (hul : us.length = m * i.size) (hu : ∀ j u, us[j]? = some u → w.cell? ⟨xg, xo + j, none⟩ = some u) (hfz : FzOk fz cs.size oo) (hl : oo + us.length ≤ cs.size) (h1 : ∀ u ∈ us, u.oneCell' = true) :
    (Builtin.copy_ #[t, sT] ty #[.slice (some ⟨g, oo, none⟩) dn dc, .slice (some ⟨xg, xo, none⟩) xn xc]).run P w = .ok (goInt m) (w.setRow g (spl cs oo us)) := by
  have hrun := run_storeCells_z P g oo e' fz us 0 cs w hg (fun j h1 h2 => hfz j (by omega) h2) (by omega) h1
  simp only [Nat.add_zero] at hrun
  have hf := run_firstCells_some (P := P) w i.size m ⟨xg, xo, none⟩ xn xc us (by rw [hul]) (fun j u hj => by rw [Addr.add_lit]; exact hu j u hj)
  simp [Builtin.copy_, run_underlying ht, sizeOf, typeInfo, hi, Builtin.lenOf, hm]
  rw [hf]
  simp [hrun, spl]
theorem setRow_push {w W : World} {cs cs' : Array Value} {e : TypeId} (hW : W.heap = w.heap.push (.cells cs e)) : (W.setRow w.heap.size cs').heap = w.heap.push (.cells cs' e) := by
  have hsz : W.heap.size = w.heap.size + 1 := by rw [hW]; simp
  have h1 : W.heap[w.heap.size]? = some (.cells cs e) := by rw [hW]; simp
  have h2 := setRow_heap W w.heap.size cs cs' e (0, 0) h1
  have h3 : (W.setRow w.heap.size cs').heap.size = w.heap.size + 1 := by rw [← hsz]; simp [World.setRow]
  refine Array.ext (by rw [h3]; simp) fun i hi hi2 => ?_
  by_cases hi3 : i = w.heap.size
  · subst hi3
    have := (Array.getElem?_eq_some_iff.1 h2).2
    rw [this]; simp
  · have h4 := setRow_other W w.heap.size i cs' hi3
    rw [hW] at h4
    have h5 : i < w.heap.size := by omega
    rw [Array.getElem?_eq_getElem hi, Array.getElem?_eq_getElem (by simp; omega)] at h4
    have h4 := Option.some.inj h4
    rw [h4, Array.getElem_push_lt h5, Array.getElem_push_lt h5]
end
theorem lfElem : Elem Tryz.prog 72 89 (.agg #[.int .u64 0, .string ⟨#[]⟩, .string ⟨#[]⟩, .int .i64 0]) 4 48 :=
  ⟨Tryz.underlying72, by kernel_rfl, rfl, by decide, by simp [Value.cells, Value.oneCell']⟩
def z4 : Array Value := #[.int .u64 0, .string ⟨#[]⟩, .string ⟨#[]⟩, .int .i64 0]
theorem zc_size (k : Nat) : (Builtin.zeroCells z4 k).size = k * 4 := zeroCells_size z4 k
section
variable {w : World} {g off n c vg voff vc : Nat} {cs vs : Array Value} {fz : Nat × Nat} {te : TypeId} {xs ys : List Value}
set_option maxHeartbeats 4000000 in
/-- There was no room. -/
theorem insGrow (hg : w.heap[g]? = some (.cells cs 89 fz)) (hv : w.heap[vg]? = some (.cells vs te)) (hne : vg ≠ g) (h0 : 0 < n) (hn : n ≤ 1000000) (hnc : n ≤ c) (hroom : c < n + 1) (hsz : off + c * 4 ≤ cs.size) (hxl : xs.length = n * 4) (hyl : ys.length = 4)
    (hx : ∀ j u, xs[j]? = some u → cs[off + j]? = some u) (hy : ∀ j u, ys[j]? = some u → vs[voff + j]? = some u) (hx1 : ∀ u ∈ xs, u.oneCell' = true) (hy1 : ∀ u ∈ ys, u.oneCell' = true) :
    Calls Tryz.prog 63 #[.slice (some ⟨g, off, none⟩) n c, .int .i64 0, .slice (some ⟨vg, voff, none⟩) 1 vc] w fun y w' => ∃ v, y = .returned v ∧ w'.os = w.os ∧ w'.tape = w.tape ∧ w'.output = w.output ∧
      ∃ cap, n + 1 ≤ cap ∧ v = .slice (some ⟨w.heap.size, 0, none⟩) (n + 1) cap ∧ w'.heap = w.heap.push (.cells ((ys ++ xs).toArray ++ Builtin.zeroCells z4 (cap - (n + 1))) 89) := by
  have hcn : c = n := by omega
  subst hcn
  have b1 : (c : Int) ≤ 1000000 := by omega
  have b0 : (0 : Int) < (c : Int) := by omega
  have b2 : ¬ ((0 : Int) = (c : Int)) := by omega
  have b3 : (c : Int) < (c : Int) + 1 := by omega
  have m1 : IntKind.i64.wrap ((c : Int) + 1) = (c : Int) + 1 := IntWalk.i64_in _ (by omega)
  have m2 : IntKind.i64.wrap ((c : Int) + 1 - 0) = (c : Int) + 1 := IntWalk.i64_in _ (by omega)
  go_enter Tryz.func63, Tryz.ntmps63
  obtain ⟨i0, hi0, hz0, hz1, hz2⟩ := info_parts lfElem.info
  obtain ⟨cap, hcap⟩ : ∃ cap, grownCap w (c + 1) c 89 = cap := ⟨_, rfl⟩
  have hcl : c + 1 ≤ cap := by rw [← hcap]; have := grownCap_ge w (c + 1) c 89; omega
  have hap : ∀ ty, (Builtin.append_ #[72, 3] ty #[.slice (some ⟨g, off, none⟩) 0 c, .int .i64 ((c : Int) + 1)]).run Tryz.prog w = .ok (.slice (some ⟨w.heap.size, 0, none⟩) (c + 1) cap)
      (w.drew.alloc (.cells (Builtin.zeroCells z4 (c + 1) ++ Builtin.zeroCells z4 (cap - (c + 1))) 89)) := fun ty => by
    have := Lib.run_append_grow_zeros (P := Tryz.prog) w 72 3 ty 89 i0 _ .i64 .i64 lfElem.ht Tryz.underlying3 hi0 hz0 (some ⟨g, off, none⟩) 0 c [] (by
      rw [hz1]
      exact run_firstCells_some w.drew 4 0 ⟨g, off, none⟩ 0 c [] rfl (by intro _ _ h; simp at h)) (c + 1) (by omega) (by rw [hz1]; decide) (by omega) (by omega) (by rw [hz2]; omega) (by
      rw [hz2]
      have := growslice_fits (old := c) (need := 0 + (c + 1)) (bytes := 48) (by omega) (by omega)
      exact this)
    simpa [hcap, Value.cells, z4] using this
  have hzz := zc_size (c + 1)
  have hzz2 := zc_size (cap - (c + 1))
  obtain ⟨Z, hZ⟩ : ∃ Z, Builtin.zeroCells z4 (c + 1) ++ Builtin.zeroCells z4 (cap - (c + 1)) = Z := ⟨_, rfl⟩
  have hZs : Z.size = cap * 4 := by rw [← hZ, Array.size_append, hzz, hzz2]; omega
  have hgl : g < w.heap.size := (Array.getElem?_eq_some_iff.1 hg).1
  have hvl : vg < w.heap.size := (Array.getElem?_eq_some_iff.1 hv).1
  have hcp1 : ∀ (W : World) ty, W.heap = w.heap.push (.cells Z 89) → (Builtin.copy_ #[72, 72] ty #[.slice (some ⟨w.heap.size, 0, none⟩) (c + 1) cap, .slice (some ⟨vg, voff, none⟩) 1 vc]).run Tryz.prog W = .ok (goInt 1) (W.setRow w.heap.size (spl Z 0 ys)) := fun W ty hW =>
    run_copy_raw (cs := Z) (e' := 89) (fz := (0, 0)) lfElem.ht hi0 (by rw [hW]; simp) (by simp only [Nat.min_def]; split <;> omega) (by rw [hz1, hyl]) (fun j u hj => by
      rw [World.cell?_of_block (w := w) (by rw [hW]; exact (Array.getElem?_push_lt hvl).trans (Array.getElem?_eq_getElem hvl).symm)]
      rw [cell_of_row w vg (voff + j) vs te (0, 0) hv]; exact hy j u hj) (fun _ _ _ h => by omega) (by omega) hy1
  rw [hZ] at hap
  go_wp2_with (at_builtin; refine wpList_append_at rfl (.tmp 34) (.tmp 39) 72 3 rfl _ _ rfl rfl (hap _) ?_)
  have hZ2 : (spl Z 0 ys).size = cap * 4 := by rw [spl_size _ _ _ (by omega), hZs]
  have hcp2 : ∀ (W : World) ty, W.heap = w.heap.push (.cells (spl Z 0 ys) 89) → (Builtin.copy_ #[72, 72] ty #[.slice (some ⟨w.heap.size, 4, none⟩) c (cap - 1), .slice (some ⟨g, off, none⟩) c c]).run Tryz.prog W = .ok (goInt c) (W.setRow w.heap.size (spl (spl Z 0 ys) 4 xs)) := fun W ty hW =>
    run_copy_raw (cs := spl Z 0 ys) (e' := 89) (fz := (0, 0)) lfElem.ht hi0 (by rw [hW]; simp) (Nat.min_self c) (by rw [hz1, hxl]) (fun j u hj => by
      rw [World.cell?_of_block (w := w) (by rw [hW]; exact (Array.getElem?_push_lt hgl).trans (Array.getElem?_eq_getElem hgl).symm)]
      rw [cell_of_row w g (off + j) cs 89 fz hg]; exact hx j u hj) (fun _ _ _ h => by omega) (by omega) hx1
  have m3 : IntKind.i64.wrap 1 = 1 := by decide
  have b5 : (1 : Int) ≤ (c : Int) + 1 := by omega
  have b6 : ¬ (cap = 1) := by omega
  have b7 : (0 : Int) ≤ (c : Int) := by omega
  have hcells : spl (spl Z 0 ys) 4 xs = (ys ++ xs).toArray ++ Builtin.zeroCells z4 (cap - (c + 1)) := by
    have hyx : (ys ++ xs).length = (c + 1) * 4 := by rw [List.length_append, hxl, hyl]; omega
    refine Array.ext_getElem? fun i => ?_
    rw [spl_get _ _ _ (by omega), spl_get _ _ _ (by omega), Array.getElem?_append, List.size_toArray, hyx]
    have hta : (ys ++ xs).toArray[i]? = (ys ++ xs)[i]? := by simp
    rw [hta]
    by_cases h1 : i < 4
    · rw [if_pos h1, if_neg (by omega), if_pos (by omega), if_pos (by omega), List.getElem?_append_left (by omega), Nat.sub_zero]
    · rw [if_neg h1]
      by_cases h2 : i < 4 + xs.length
      · rw [if_pos h2, if_pos (by omega), List.getElem?_append_right (by omega), hyl]
      · rw [if_neg h2, if_neg (by omega), if_neg (by omega), if_neg (by omega), ← hZ, Array.getElem?_append, if_neg (by omega), hzz]
  rw [hcp1 _ _ rfl]
  go_wp2_with fail
  go_region_law (refine step_copy_at rfl _ _ 72 72 rfl _ _ (by simp [Act.eval, Act.put]) (by simp [Act.eval, Act.put]) (hcp2 _ _ (setRow_push rfl)) ?_)
  go_wp2_with fail
  go_ret
  refine ⟨_, rfl, rfl, rfl, rfl, cap, hcl, rfl, ?_⟩
  rw [← hcells]
  exact setRow_push (setRow_push rfl)
theorem setRow_two {W w : World} (hW : W.heap = w.heap) {A C : Array Value} {e : TypeId} (hg : w.heap[g]? = some (.cells cs e fz)) : ((W.setRow g A).setRow g C).heap = (w.setRow g C).heap := by
  have h1 := setRow_heap W g cs A e fz (by rw [hW]; exact hg)
  have h2 := setRow_heap (W.setRow g A) g A C e fz h1
  have h3 := setRow_heap w g cs C e fz hg
  refine Array.ext_getElem? fun i => ?_
  by_cases hi : i = g
  · subst hi; rw [h2, h3]
  · rw [setRow_other _ g i C hi, setRow_other _ g i A hi, setRow_other _ g i C hi, hW]
set_option maxHeartbeats 4000000 in
/-- There was room. -/
theorem insRoom (hg : w.heap[g]? = some (.cells cs 89 fz)) (hv : w.heap[vg]? = some (.cells vs te)) (hne : vg ≠ g) (h0 : 0 < n) (hn : n ≤ 1000000) (hroom : n + 1 ≤ c) (hsz : off + c * 4 ≤ cs.size) (hfz : FzOk fz cs.size off) (hxl : xs.length = n * 4) (hyl : ys.length = 4)
    (hx : ∀ j u, xs[j]? = some u → cs[off + j]? = some u) (hy : ∀ j u, ys[j]? = some u → vs[voff + j]? = some u) (hx1 : ∀ u ∈ xs, u.oneCell' = true) (hy1 : ∀ u ∈ ys, u.oneCell' = true) :
    Calls Tryz.prog 63 #[.slice (some ⟨g, off, none⟩) n c, .int .i64 0, .slice (some ⟨vg, voff, none⟩) 1 vc] w fun y w' => ∃ v, y = .returned v ∧ w'.os = w.os ∧ w'.tape = w.tape ∧ w'.output = w.output ∧
      v = .slice (some ⟨g, off, none⟩) (n + 1) c ∧ ∃ cs', w'.heap = (w.setRow g cs').heap ∧ cs'.size = cs.size ∧ ∀ i, cs'[i]? = if i < off then cs[i]? else if i < off + (n + 1) * 4 then (ys ++ xs)[i - off]? else cs[i]? := by
  have b1 : (n : Int) ≤ 1000000 := by omega
  have b0 : (0 : Int) < (n : Int) := by omega
  have b2 : ¬ ((0 : Int) = (n : Int)) := by omega
  have b3 : ¬ ((c : Int) < (n : Int) + 1) := by omega
  have m1 : IntKind.i64.wrap ((n : Int) + 1) = (n : Int) + 1 := IntWalk.i64_in _ (by omega)
  have m3 : IntKind.i64.wrap 1 = 1 := by decide
  have b5 : (1 : Int) ≤ (n : Int) + 1 := by omega
  have b6 : ¬ (c = 1) := by omega
  have b7 : (0 : Int) ≤ (n : Int) := by omega
  have b8 : (n : Int) + 1 ≤ (c : Int) := by omega
  have b9 : (0 : Int) ≤ (n : Int) + 1 := by omega
  have b10 : ((n : Int) + 1).toNat = n + 1 := by omega
  have b11 : ¬ (c = 0) := by omega
  obtain ⟨i0, hi0, hz0, hz1, hz2⟩ := info_parts lfElem.info
  have hsa : w.shape? vg = some (te, vs.size) := by simp [World.shape?, hv]
  have hsb : w.shape? g = some (89, cs.size) := by simp [World.shape?, hg]
  have hfr : ∀ j, w.frozen? ⟨vg, j, none⟩ = false := fun j => by simp [World.frozen?, hv]
  have hov : ∀ lb cb, (callFunc 134 #[.slice (some ⟨vg, voff, none⟩) 1 vc, .slice (some ⟨g, off + 4, none⟩) lb cb]).run Tryz.prog w = .ok (.value (.bool false)) w := fun lb cb => by
    rw [run_callFunc_extern Tryz.func134 (by kernel_rfl) (by kernel_rfl) (by kernel_rfl) (e := Extern.SlicesOverlaps.overlaps #[72, 72] #[4]) (by kernel_rfl),
      Lib.run_overlaps_apart w 72 4 89 lfElem.ht i0.size (fun w => by simp [sizeOf, typeInfo, hi0]) ⟨vg, voff, none⟩ ⟨g, off + 4, none⟩ 1 vc lb cb hne te _ _ _ hsa hsb (by omega) (hfr _) (hfr _)]
    rfl
  have hcp1 : ∀ (W : World) ty, W.heap = w.heap → (Builtin.copy_ #[72, 72] ty #[.slice (some ⟨g, off + 4, none⟩) n (c - 1), .slice (some ⟨g, off, none⟩) (n + 1) c]).run Tryz.prog W = .ok (goInt n) (W.setRow g (spl cs (off + 4) xs)) := fun W ty hW =>
    run_copy_raw (cs := cs) (e' := 89) (fz := fz) lfElem.ht hi0 (by rw [hW]; exact hg) (by simp only [Nat.min_def]; split <;> omega) (by rw [hz1, hxl]) (fun j u hj => by
      rw [World.cell?_of_block (w := w) (by rw [hW])]
      rw [cell_of_row w g (off + j) cs 89 fz hg]; exact hx j u hj) (fun j h1 h2 => hfz j (by omega) h2) (by omega) hx1
  have hs1 : (spl cs (off + 4) xs).size = cs.size := spl_size _ _ _ (by omega)
  have hcp2 : ∀ (W : World) ty dc, W.heap[g]? = some (.cells (spl cs (off + 4) xs) 89 fz) → W.heap[vg]? = some (.cells vs te) → (Builtin.copy_ #[72, 72] ty #[.slice (some ⟨g, off, none⟩) (n + 1) dc, .slice (some ⟨vg, voff, none⟩) 1 vc]).run Tryz.prog W = .ok (goInt 1) (W.setRow g (spl (spl cs (off + 4) xs) off ys)) := fun W ty dc hW hWv =>
    run_copy_raw (cs := spl cs (off + 4) xs) (e' := 89) (fz := fz) lfElem.ht hi0 hW (by simp only [Nat.min_def]; split <;> omega) (by rw [hz1, hyl]) (fun j u hj => by
      rw [cell_of_row W vg (voff + j) vs te (0, 0) hWv]; exact hy j u hj) (fun j h1 h2 => hfz j h1 (by omega)) (by omega) hy1
  have hget : ∀ i, (spl (spl cs (off + 4) xs) off ys)[i]? = if i < off then cs[i]? else if i < off + (n + 1) * 4 then (ys ++ xs)[i - off]? else cs[i]? := by
    intro i
    rw [spl_get _ _ _ (by omega), spl_get _ _ _ (by omega)]
    by_cases h1 : i < off
    · rw [if_pos h1, if_pos (by omega), if_pos h1]
    · rw [if_neg h1, if_neg h1]
      by_cases h2 : i < off + ys.length
      · rw [if_pos h2, if_pos (by omega), List.getElem?_append_left (by omega)]
      · rw [if_neg h2, if_neg (by omega)]
        by_cases h3 : i < off + 4 + xs.length
        · rw [if_pos h3, if_pos (by omega), List.getElem?_append_right (by omega)]
          congr 1; omega
        · rw [if_neg h3, if_neg (by omega)]
  go_enter Tryz.func63, Tryz.ntmps63
  go_wp2_with (simp only [hov])
  go_region_law (refine step_copy_at rfl _ _ 72 72 rfl _ _ (by simp [Act.eval, Act.put]) (by simp [Act.eval, Act.put]) (hcp1 _ _ rfl) ?_)
  have hg1 := setRow_heap w.drew g cs (spl cs (off + 4) xs) 89 fz hg
  have hv1 : (w.drew.setRow g (spl cs (off + 4) xs)).heap[vg]? = some (.cells vs te) := (setRow_other w.drew g vg _ hne).trans hv
  have hcp3 := fun ty dc => hcp2 _ ty dc hg1 hv1
  go_wp2_with fail
  go_ret
  exact ⟨_, rfl, rfl, rfl, rfl, rfl, _, setRow_two rfl hg, by rw [spl_size _ _ _ (by omega)]; exact hs1, hget⟩
theorem insC : Ex.InsC Tryz.prog 63 89 4 z4 := by
  intro w g off n c cs fz vg voff vc vs te xs ys hg hv hne h0 hn hnc hsz hfz hxl hyl hx hy hx1 hy1
  by_cases hroom : n + 1 ≤ c
  · refine (insRoom hg hv hne h0 hn hroom hsz hfz hxl hyl hx hy hx1 hy1).mono ?_
    rintro y w' ⟨v, h1, h2, h3, h4, h5, h6⟩
    exact ⟨v, h1, h2, h3, h4, .inr ⟨hroom, h5, h6⟩⟩
  · refine (insGrow hg hv hne h0 hn hnc (by omega) hsz hxl hyl hx hy hx1 hy1).mono ?_
    rintro y w' ⟨v, h1, h2, h3, h4, cap, h5, h6, h7⟩
    exact ⟨v, h1, h2, h3, h4, .inl ⟨cap, h5, h6, h7⟩⟩
theorem met_ins (hN : NoNum Tryz.prog) : Ex.Met Tryz.prog 63 (insP 89 4) := met_insert hN Tryz.func63 rfl (by kernel_rfl) rfl insC
end
end Go.Proofs.YtajoljoegbeiiaaGreatDoor
