/-
  The executor: append.
-/
import Derived.Test.YtajoljoegbeiiaaGreatDoorExC
import Derived.Deep.AppendSrc
namespace Go.Proofs.YtajoljoegbeiiaaGreatDoor
set_option linter.all false
namespace Ex
open Go.RowKit
section
variable {P : Program} {m : Mz} {h : Hp} {nx : Nat} {w : World} {fr : Fm} {a : Act} {sz : Nat} {o : Oper} {r : Rs}
/-! ### A block that may lie in two arrays -/
theorem elder_live {p : Nat} {k : Bk} (hd : elder p k ≠ .dead) : p = k.n ∧ elder p k = .cells { k with st := true } := by
  unfold elder at *
  cases hb : Nat.beq p k.n with
  | true => rw [hb] at hd; exact ⟨Nat.eq_of_beq_eq_true hb, rfl⟩
  | false => rw [hb] at hd; exact absurd rfl hd
theorem elder_own {p : Nat} {k : Bk} (ho : ownO (elder p k)) : k.ro = false := by
  have hd : elder p k ≠ .dead := fun e => by rw [e] at ho; exact ho
  rw [(elder_live hd).2] at ho; exact ho
/-- No one else that may be written shares with 'b'. -/
theorem WR.alone (hW : WR P m h nx w) {b : Nat} {k : Bk} (hb : h.get .dead b = .cells k) (hst : k.st = false) {y : Nat} {zy z : Cz} (hy : y ≠ b) (hmy : m y = some zy) (hmb : m b = some z) (nx' : Nat) (zx : Cz) (ox : AO) (hzx : zx.blk = z.blk) : Apart (h.get .dead y) y nx' zy zx ox := by
  have := hW.ap y b zy z (Ne.symm hy) hmy hmb (by rw [hb]; simp)
  rw [hb] at this
  cases hoy : h.get .dead y with
  | cells ky =>
    rw [hoy] at this
    intro a1 a2 a3
    obtain ⟨kx, hkx, _, hsx, _⟩ := this a1 a2 (by omega)
    cases hkx; rw [hst] at hsx; cases hsx
  | dead => trivial
  | map es cl => rw [hoy] at this; have this : z.blk ≠ zy.blk := this; show zx.blk ≠ zy.blk; omega
  | siter s pos => rw [hoy] at this; have this : z.blk ≠ zy.blk := this; show zx.blk ≠ zy.blk; omega
  | loop lp => rw [hoy] at this; have this : z.blk ≠ zy.blk := this; show zx.blk ≠ zy.blk; omega
  | deferred => rw [hoy] at this; have this : z.blk ≠ zy.blk := this; show zx.blk ≠ zy.blk; omega
/-- The elder version, nothing written. -/
theorem elder_ok (hW : WR P m h nx w) {b : Nat} {k : Bk} (hb : h.get .dead b = .cells k) (hst : k.st = false) (hfx : k.fx = false) (p : Nat) :
    WR P m (h.set .dead b (elder p k)) nx w ∧ Evo m h w m (h.set .dead b (elder p k)) w := by
  refine ⟨⟨hW.gl, hW.fresh, fun y => ?_, ?_⟩, Le.refl m, rfl, rfl, rfl, Nat.le_refl _, fun _ _ _ => rfl, ?_, ?_⟩
  · rw [Tr.get_set]
    by_cases hy : y = b
    · rw [if_pos hy]; subst hy
      by_cases hd : elder p k = .dead
      · rw [hd]; trivial
      · rw [(elder_live hd).2]
        have := hW.rel y
        rw [hb] at this
        obtain ⟨z, cs, fz, hB⟩ := this
        exact ⟨z, cs, fz, hB.hm, hB.hp, hB.sz, hB.here, (fun hc => by cases hc), (fun hc => by rw [show ({ k with st := true } : Bk).fx = k.fx from rfl, hfx] at hc; cases hc), (fun hc => by rw [show ({ k with st := true } : Bk).fx = k.fx from rfl, hfx] at hc; cases hc), (fun hc => by rw [show ({ k with st := true } : Bk).fx = k.fx from rfl, hfx] at hc; cases hc)⟩
    · rw [if_neg hy]; exact hW.rel y
  · intro y x zy zx hx hmy hmx hlive
    rw [Tr.get_set] at hlive
    rw [Tr.get_set, Tr.get_set]
    by_cases hy : y = b
    · rw [if_pos hy]
      by_cases hd : elder p k = .dead
      · rw [hd]; trivial
      · rw [(elder_live hd).2]; intro _ hc; cases hc
    · rw [if_neg hy]
      by_cases hxb : x = b
      · subst hxb
        exact hW.alone hb hst hy hmy hmx x zx _ rfl
      · rw [if_neg hxb] at hlive ⊢
        exact hW.ap y x zy zx hx hmy hmx hlive
  · rintro j hj ⟨y, zy, hmy, hyj, hoy⟩
    rw [Tr.get_set] at hoy
    by_cases hy : y = b
    · rw [if_pos hy] at hoy; subst hy
      exact ⟨y, zy, hmy, hyj, by rw [hb]; exact elder_own hoy⟩
    · rw [if_neg hy] at hoy; exact ⟨y, zy, hmy, hyj, hoy⟩
  · rintro j hj ⟨y, zy, hmy, hyj, hoy⟩
    rw [Tr.get_set] at hoy
    by_cases hy : y = b
    · rw [if_pos hy] at hoy; subst hy
      exact ⟨y, zy, hmy, hyj, by rw [hb]; simp⟩
    · rw [if_neg hy] at hoy; exact ⟨y, zy, hmy, hyj, hoy⟩
/-- The old array has room: the younger version lies in it. -/
theorem fork_ok (hW : WR P m h nx w) {b : Nat} {k : Bk} {z : Cz} {cs cs' : Array Value} {fz : Nat × Nat} (hb : h.get .dead b = .cells k) (hro : k.ro = false) (hst : k.st = false) (hfx : k.fx = false) (hB : BR P m w b k z cs fz)
    (hcs : cs'.size = cs.size) {p : Nat} (hkeep : ∀ i, i < z.sh + p → cs'[i]? = cs[i]?) (hbnd : k.bnd ≤ p) {kn : Bk} {zn : Cz} (hzb : zn.blk = z.blk) (hsh : z.sh + p ≤ zn.sh + kn.bnd) (hanc : kn.anc = b :: k.anc) (hro' : kn.ro = false)
    (hB' : BR P (upd m nx zn) (w.setRow z.blk cs') nx kn zn cs' fz) :
    WR P (upd m nx zn) ((h.set .dead b (elder p k)).set .dead nx (.cells kn)) (nx + 1) (w.setRow z.blk cs') ∧ Evo m h w (upd m nx zn) ((h.set .dead b (elder p k)).set .dead nx (.cells kn)) (w.setRow z.blk cs') := by
  have hn := hW.fresh nx (Nat.le_refl _)
  have hle := upd_le zn hn
  have hbn : b ≠ nx := fun e => by rw [← e, hB.hm] at hn; cases hn
  have hrow := setRow_heap w z.blk cs cs' k.e fz hB.hp
  have hapb : ∀ x zx, x ≠ b → m x = some zx → h.get .dead x ≠ .dead → zx.blk = z.blk → ∃ kx, h.get .dead x = .cells kx ∧ x ∈ k.anc ∧ kx.st = true ∧ kx.fx = false ∧ zx.sh + kx.n ≤ z.sh + k.bnd := fun x zx hx hmx hd e => by
    have := hW.ap b x z zx hx hB.hm hmx hd
    rw [hb] at this
    exact this hro hst e
  refine ⟨⟨fun g hg => hle _ _ (hW.gl g hg), fun x hx => by rw [upd_ne m zn (by omega)]; exact hW.fresh x (by omega), fun y => ?_, ?_⟩, hle, rfl, rfl, rfl, by simp, ?_, ?_, ?_⟩
  · rw [Tr.get_set]
    by_cases hyn : y = nx
    · rw [if_pos hyn]; subst hyn; exact ⟨zn, cs', fz, hB'⟩
    · rw [if_neg hyn, Tr.get_set]
      by_cases hy : y = b
      · rw [if_pos hy]; subst hy
        by_cases hd : elder p k = .dead
        · rw [hd]; trivial
        · obtain ⟨hp, he⟩ := elder_live hd
          rw [he]
          exact ⟨z, cs', fz, hle _ _ hB.hm, hrow, by rw [hcs]; exact hB.sz, fun i hi => by
            obtain ⟨u, hu, hv⟩ := hB.here i hi
            have hi : i < k.n := hi
            exact ⟨u, by rw [hkeep _ (by omega)]; exact hu, hv.mono hle⟩, (fun hc => by cases hc), (fun hc => by rw [show ({ k with st := true } : Bk).fx = k.fx from rfl, hfx] at hc; cases hc), (fun hc => by rw [show ({ k with st := true } : Bk).fx = k.fx from rfl, hfx] at hc; cases hc), (fun hc => by rw [show ({ k with st := true } : Bk).fx = k.fx from rfl, hfx] at hc; cases hc)⟩
      · rw [if_neg hy]
        by_cases hd : h.get .dead y = .dead
        · rw [hd]; trivial
        · obtain ⟨zy, hmy, _⟩ := (hW.rel y).there hd
          by_cases hs : zy.blk = z.blk
          · obtain ⟨kx, hkx, _, hsx, hfxx, hlex⟩ := hapb y zy hy hmy hd hs
            have hrx := hW.rel y
            rw [hkx] at hrx
            obtain ⟨zx', csx, fzx, hX⟩ := hrx
            have hm2 := hX.hm; rw [hmy] at hm2; cases hm2
            have hpx := hX.hp
            rw [hs, hB.hp] at hpx
            obtain ⟨rfl, he1, rfl⟩ : cs = csx ∧ k.e = kx.e ∧ fz = fzx := by simpa using hpx
            rw [hkx]
            refine ⟨zy, cs', fz, hle _ _ hmy, ?_, by rw [hcs]; exact hX.sz, fun i hi => ?_, ?_, ?_, ?_, ?_⟩
            · rw [hs, hrow, he1]
            · obtain ⟨u, hu, hv⟩ := hX.here i hi
              exact ⟨u, by rw [hkeep _ (by omega)]; exact hu, hv.mono hle⟩
            · intro hc; rw [hsx] at hc; cases hc
            · intro hc; rw [hfxx] at hc; cases hc
            · intro hc; rw [hfxx] at hc; cases hc
            · intro hc; rw [hfxx] at hc; cases hc
          · refine (hW.rel y).mono hle fun z' hm' _ => setRow_other w z.blk z'.blk cs' ?_
            rw [hmy] at hm'; cases hm'; exact hs
  · intro y x zy zx hx hmy hmx hlive
    rw [Tr.get_set, Tr.get_set] at hlive
    rw [Tr.get_set, Tr.get_set, Tr.get_set, Tr.get_set]
    by_cases hyn : y = nx
    · rw [if_pos hyn]; subst hyn
      rw [if_neg hx] at hlive ⊢
      rw [upd_at] at hmy; cases hmy
      rw [upd_ne m zn hx] at hmx
      intro _ _ e
      by_cases hxb : x = b
      · subst hxb
        rw [if_pos rfl] at hlive ⊢
        obtain ⟨hp, he⟩ := elder_live hlive
        rw [hB.hm] at hmx; cases hmx
        exact ⟨_, he, by rw [hanc]; exact List.mem_cons_self, rfl, hfx, by show z.sh + k.n ≤ _; omega⟩
      · rw [if_neg hxb] at hlive ⊢
        obtain ⟨kx, hkx, hancx, hsx, hfxx, hlex⟩ := hapb x zx hxb hmx hlive (by omega)
        exact ⟨kx, hkx, by rw [hanc]; exact List.mem_cons_of_mem _ hancx, hsx, hfxx, by omega⟩
    · rw [if_neg hyn]
      rw [upd_ne m zn hyn] at hmy
      by_cases hy : y = b
      · rw [if_pos hy]
        by_cases hd : elder p k = .dead
        · rw [hd]; trivial
        · rw [(elder_live hd).2]; intro _ hc; cases hc
      · rw [if_neg hy]
        by_cases hxn : x = nx
        · subst hxn
          rw [if_pos rfl]
          rw [upd_at] at hmx; cases hmx
          exact hW.alone hb hst hy hmy hB.hm x zn _ hzb
        · rw [if_neg hxn] at hlive ⊢
          rw [upd_ne m zn hxn] at hmx
          by_cases hxb : x = b
          · subst hxb
            rw [hB.hm] at hmx; cases hmx
            exact hW.alone hb hst hy hmy hB.hm x z _ rfl
          · rw [if_neg hxb] at hlive ⊢
            exact hW.ap y x zy zx hx hmy hmx hlive
  · intro j hj hnot
    refine setRow_other w z.blk j cs' fun e => hnot ⟨b, z, hB.hm, e.symm, by rw [hb]; exact hro⟩
  · rintro j hj ⟨y, zy, hmy, hyj, hoy⟩
    rw [Tr.get_set] at hoy
    by_cases hyn : y = nx
    · subst hyn
      rw [upd_at] at hmy; cases hmy
      exact ⟨b, z, hB.hm, by omega, by rw [hb]; exact hro⟩
    · rw [if_neg hyn, Tr.get_set] at hoy
      rw [upd_ne m zn hyn] at hmy
      by_cases hy : y = b
      · rw [if_pos hy] at hoy; subst hy
        exact ⟨y, zy, hmy, hyj, by rw [hb]; exact hro⟩
      · rw [if_neg hy] at hoy; exact ⟨y, zy, hmy, hyj, hoy⟩
  · rintro j hj ⟨y, zy, hmy, hyj, hoy⟩
    rw [Tr.get_set] at hoy
    by_cases hyn : y = nx
    · subst hyn
      rw [upd_at] at hmy; cases hmy
      exact ⟨b, z, hB.hm, by omega, by rw [hb]; simp⟩
    · rw [if_neg hyn, Tr.get_set] at hoy
      rw [upd_ne m zn hyn] at hmy
      by_cases hy : y = b
      · rw [if_pos hy] at hoy; subst hy
        exact ⟨y, zy, hmy, hyj, by rw [hb]; simp⟩
      · rw [if_neg hy] at hoy; exact ⟨y, zy, hmy, hyj, hoy⟩
/-! ### What is appended -/
theorem byteA_ok (m : Mz) (b : UInt8) : VR m (byteA b) (.int .u8 b.toNat) := by
  have : byteA b = .int .u8 b.toNat := rfl
  rw [this]; exact .int _ _
theorem bytesA_eq (s : List UInt8) : bytesA s = s.map byteA := by
  induction s with
  | nil => rfl
  | cons b s ih => show byteA b :: bytesA s = _; rw [ih]; rfl
theorem bytes_vr (m : Mz) : ∀ s : List UInt8, VRL m (bytesA s) (s.map fun b => Value.int .u8 b.toNat)
  | [] => .nil
  | b :: s => .cons (byteA_ok m b) (bytes_vr m s)
theorem news_ok (hW : WR P m h nx w) {z n k : Nat} {x : AV} {l : List AV} (hn : newsA h z n x = some l) (hk : lenA x = some k) (hnk : n ≤ k) {y : Value} (hv : VR m x y) :
    ∃ us : List Value, us.length = n * z ∧ VRL m l us ∧ (∀ w' : World, w'.heap = w.heap → (Builtin.firstCells z n y).run P w' = .ok us.toArray w') ∧ ∀ (b oo n' c : Nat) (ex : Bool), x = .slice b oo n' c ex → ∀ zz, m b = some zz → ∀ (j : Nat) (u : Value), us[j]? = some u → w.cell? ⟨zz.blk, zz.sh + oo + j, none⟩ = some u := by
  cases n with
  | zero =>
    cases hn
    refine ⟨[], by simp, .nil, fun w' _ => ?_, fun _ _ _ _ _ _ _ _ j u hj => by simp at hj⟩
    cases hv <;> first | (cases hk; done) | simp [Builtin.firstCells, loadCells, loadCellsFrom]
  | succ n =>
    cases x with
    | slice b oo nn c ex =>
      have hn : loadN h b oo ((n + 1) * z) = some l := hn
      have hkn : nn = k := by cases hk; rfl
      obtain ⟨zz, us, hz, hlen, hvr, hc⟩ := loadN_ok hW hn
      obtain ⟨z2, hz2, hcase⟩ := hv.slice_inv
      rw [hz] at hz2; cases hz2
      rcases hcase with rfl | ⟨h0, _⟩
      · refine ⟨us, hlen, hvr, fun w' hh => ?_, fun b' oo' n' c' ex' he z' hz' j u hj => by cases he; rw [hz] at hz'; cases hz'; exact hc j u hj⟩
        refine run_firstCells_some w' z (n + 1) ⟨zz.blk, zz.sh + oo, none⟩ _ _ us hlen fun j v hj => ?_
        rw [addr_add]
        have := hc j v hj
        unfold World.cell? at this ⊢
        rw [hh]; exact this
      · omega
    | str s =>
      obtain ⟨hz1, hn⟩ := cond_some (show (bif Nat.beq z 1 then some (bytesA (s.take (n + 1))) else none) = some l from hn)
      cases hn
      have hz1 : z = 1 := Nat.eq_of_beq_eq_true hz1
      subst hz1
      have hks : lenL s = k := by cases hk; rfl
      rw [lenL_eq] at hks
      cases hv
      refine ⟨(s.take (n + 1)).map fun b => Value.int .u8 b.toNat, by simp; omega, bytes_vr m _, fun w' _ => ?_, fun b' oo' n' c' ex' he => by cases he⟩
      have e : (⟨s.toArray⟩ : ByteArray).extract 0 (n + 1) = ⟨(s.take (n + 1)).toArray⟩ := by rw [extract_toArray, List.drop_zero]
      simp only [Builtin.firstCells, e, Sem.run_pure]
      congr 1
      simp
    | _ => cases hn
theorem lenOf_ok {x : AV} {k : Nat} (hk : lenA x = some k) {y : Value} (hv : VR m x y) (w : World) : (Builtin.lenOf y).run P w = .ok k w := by
  cases hv <;> first | (cases hk; rfl) | (cases hk; done) | skip
  rename_i s
  have hks : lenL s = k := by cases hk; rfl
  rw [lenL_eq] at hks
  simp [Builtin.lenOf, ByteArray.size, hks]
theorem src_ok (hW : WR P m h nx w) {z n : Nat} {x : AV} {l : List AV} (hn : newsA h z n x = some l) (hk : lenA x = some n) {y : Value} (hv : VR m x y) (hone : l.all oneA = true) {tx : TypeId} (htx : ((P.underlying tx).map srcD).getD false = true) :
    ∃ us, VRL m l us ∧ Src P z tx y n us w := by
  obtain ⟨us, h1, h2, h3, _⟩ := news_ok (P := P) hW hn hk (Nat.le_refl _) hv
  refine ⟨us, h2, ?_, fun w' => lenOf_ok hk hv w', h3 w rfl, h3 w.drew rfl, h1, all_one hone h2⟩
  obtain ⟨d, hd, hs⟩ := map_some (getD_true htx)
  cases d <;> first | (cases hs; done) | skip
  · exact .inr hd
  · exact .inl ⟨_, hd⟩
/-- An element type's table. -/
theorem elemOk_ok {e : TypeId} {z : Nat} (hz : sizeT P e = some z) (he : elemOk P e z = true) : ∃ i zv, P.info? e = some i ∧ i.size = z ∧ i.zero = some zv ∧ zv.cells.size = z ∧ 0 < z ∧ i.bytes ≤ 65536 := by
  unfold elemOk at he
  simp only [Bool.and_eq_true] at he
  obtain ⟨⟨h1, h2⟩, h3⟩ := he
  obtain ⟨i, hi, hb⟩ := bytes_ok h1
  obtain ⟨i', hi', hzs⟩ := sizeT_some hz
  rw [hi] at hi'; cases hi'
  rw [blt_eq] at h2
  obtain ⟨v, hv, h3⟩ := map_some (getD_true h3)
  obtain ⟨i', zv, hi', hz0, hov, _⟩ := run_zero hv
  rw [hi] at hi'; cases hi'
  rw [lenL_eq] at h3
  have h3 : v.cells.length = z := Nat.eq_of_beq_eq_true h3
  have := (ofV_ok (fun _ => none) 10 zv v hov).cells.length
  exact ⟨i, zv, hi, hzs, hz0, by rw [← Array.length_toList, ← this, h3], of_decide_eq_true h2, hb⟩
theorem zeroCells_size (zero : Array Value) (n : Nat) : (Builtin.zeroCells zero n).size = n * zero.size := by simp [Builtin.zeroCells]
/-- Grown: a new array. -/
theorem grown_ok (hW : WR P m h nx w) {e : TypeId} {z n : Nat} {cs : List AV} {us : List Value} (hv : VRL m cs us) (hlen : us.length = n * z) (hz : sizeT P e = some z) {zero : Array Value} (hzs : zero.size = z) {cap : Nat} (hcap : n ≤ cap) :
    ∃ m', WR P m' (newCells h nx cs (n * z) e false) (nx + 1) (w.drew.alloc (.cells (us.toArray ++ Builtin.zeroCells zero (cap - n)) e)) ∧ VR m' (.slice nx 0 n n false) (.slice (some ⟨w.heap.size, 0, none⟩) n cap) ∧
      Evo m h w m' (newCells h nx cs (n * z) e false) (w.drew.alloc (.cells (us.toArray ++ Builtin.zeroCells zero (cap - n)) e)) := by
  have hWd : WR P m h nx w.drew := hW.drew rfl
  have hcl := hv.length
  have hnew := newBk_ok hWd hv (n := n * z) (by omega) (us.toArray ++ Builtin.zeroCells zero (cap - n)) (fun i u hi => by
    have hlt := (List.getElem?_eq_some_iff.1 hi).1
    rw [Array.getElem?_append_left (by simpa using hlt)]
    simpa using hi) e false (cap - n) (by rw [cellsOf_eq hz, Array.size_append, zeroCells_size, hzs, List.size_toArray]; omega) (fun hc => by cases hc) (0, 0) (fz_none _ _) (fun _ => rfl)
  refine ⟨_, hnew.1, ?_, (Evo.drew (h := h) (m := m) (w := w) (w' := w.drew) rfl rfl rfl rfl).trans hnew.2⟩
  have := VR.slice (m := upd m nx ⟨w.heap.size, 0, cap - n⟩) (b := nx) 0 n n false (upd_at m nx _)
  rw [show (if false = true then n else n + (⟨w.heap.size, 0, cap - n⟩ : Cz).ext) = cap by simp; omega] at this
  exact this
end
end Ex
end Go.Proofs.YtajoljoegbeiiaaGreatDoor
