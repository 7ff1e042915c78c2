/-
  The executor: worlds: what its heap stands for; blocks laid, blocks turned.
-/
import Derived.Test.YtajoljoegbeiiaaGreatDoorEx4
import Derived.RangeFuncRecord
namespace Go.Proofs.YtajoljoegbeiiaaGreatDoor
set_option linter.all false
namespace Ex
open Go.RowKit

/-- None of the cells from 'a' on is frozen. -/
def FzOk (fz : Nat × Nat) (size a : Nat) : Prop := ∀ j, a ≤ j → j < size → ¬ (fz.1 ≤ j ∧ j < fz.2)
structure BR (P : Program) (m : Mz) (w : World) (b : Nat) (k : Bk) (z : Cz) (cs : Array Value) (fz : Nat × Nat) : Prop where
  hm : m b = some z
  hp : w.heap[z.blk]? = some (.cells cs k.e fz)
  sz : z.sh + k.n + z.ext * P.cellsOf k.e ≤ cs.size
  here : ∀ i, i < k.n → ∃ u, cs[z.sh + i]? = some u ∧ VR m (k.t.get k.d i) u
  fr : k.st = false → FzOk fz cs.size (z.sh + k.fz)
  fx : k.fx = true → z.ext = 0
  whole : k.fx = true → k.ro = false → z.sh = 0 ∧ cs.size = k.n
  bare : k.fx = true → k.ro = false → k.fz = 0 → fz = (0, 0)
structure FR (m : Mz) (fr : Fm) (tmps : Array Value) (sz : Nat) : Prop where
  size : tmps.size = sz
  slot : ∀ t, VR m (fr.get un t) (tmps.getD t undef)
theorem FR.mono {m m' : Mz} (hm : Le m m') {fr : Fm} {tmps : Array Value} {sz : Nat} (h : FR m fr tmps sz) : FR m' fr tmps sz := ⟨h.size, fun t => (h.slot t).mono hm⟩
inductive ER (m : Mz) : List Ent → List MapEntry → Prop
  | nil : ER m [] []
  | cons {k v : AV} {n : Nat} {k' v' : Value} {es : List Ent} {es' : List MapEntry} (hk : VR m k k') (hv : VR m v v') (h : ER m es es') : ER m ((k, v, n) :: es) ({ key := k', val := v', born := n } :: es')
theorem ER.mono {m m' : Mz} (hm : Le m m') {es : List Ent} {es' : List MapEntry} (h : ER m es es') : ER m' es es' := by
  induction h with
  | nil => exact .nil
  | cons hk hv _ ih => exact .cons (hk.mono hm) (hv.mono hm) ih
/-- The jump by which a round was left. -/
def jumpOf (x : X) : Option Code := match x with
  | .nm => none
  | .ret => some .ret
  | .ex id => some (.exit id)
  | .gt l => some (.goto l)
def stateOf (rdy : Bool) (x : X) : LoopState := if rdy = true then .ready else if isNm x = true then .busy else .done
/-- What a block of the executor's stands for. -/
def OR (P : Program) (m : Mz) (w : World) (b : Nat) (o : AO) : Prop := match o with
  | .cells k => ∃ z cs fz, BR P m w b k z cs fz
  | .map es cl => ∃ (z : Cz) (es' : Array MapEntry), m b = some z ∧ w.heap[z.blk]? = some (.map es' cl) ∧ ER m es es'.toList
  | .siter s pos => ∃ z : Cz, m b = some z ∧ w.heap[z.blk]? = some (.stringIter ⟨s.toArray⟩ pos)
  | .loop lp => ∃ (z zd : Cz) (fn : FuncId) (tmps : Array Value), m b = some z ∧ m lp.df = some zd ∧ FR m lp.fr tmps lp.sz ∧
      w.heap[z.blk]? = some (.loop { state := stateOf lp.rdy lp.left, pending := jumpOf lp.left, fn := fn, tmps := tmps, params := lp.ps.toArray, assign := lp.assign, body := lp.body, defers := zd.blk })
  | .deferred => ∃ z : Cz, m b = some z ∧ w.heap[z.blk]? = some (.deferred (some []))
  | .dead => True
theorem OR.mono {P : Program} {m m' : Mz} {w w' : World} {b : Nat} {o : AO} (h : OR P m w b o) (hm : Le m m') (hw : ∀ z, m b = some z → o ≠ .dead → w'.heap[z.blk]? = w.heap[z.blk]?) : OR P m' w' b o := by
  cases o with
  | cells k =>
    obtain ⟨z, cs, fz, hB⟩ := h
    have e := hw z hB.hm (by simp)
    exact ⟨z, cs, fz, hm _ _ hB.hm, e.trans hB.hp, hB.sz, fun i hi => by obtain ⟨u, hu, hv⟩ := hB.here i hi; exact ⟨u, hu, hv.mono hm⟩, hB.fr, hB.fx, hB.whole, hB.bare⟩
  | map es cl =>
    obtain ⟨z, es', h1, h2, h3⟩ := h
    exact ⟨z, es', hm _ _ h1, (hw z h1 (by simp)).trans h2, h3.mono hm⟩
  | siter s pos =>
    obtain ⟨z, h1, h2⟩ := h
    exact ⟨z, hm _ _ h1, (hw z h1 (by simp)).trans h2⟩
  | loop lp =>
    obtain ⟨z, zd, fn, tmps, h1, h2, h3, h4⟩ := h
    exact ⟨z, zd, fn, tmps, hm _ _ h1, hm _ _ h2, h3.mono hm, (hw z h1 (by simp)).trans h4⟩
  | deferred =>
    obtain ⟨z, h1, h2⟩ := h
    exact ⟨z, hm _ _ h1, (hw z h1 (by simp)).trans h2⟩
  | dead => trivial
/-- What lives lies somewhere. -/
theorem OR.there {P : Program} {m : Mz} {w : World} {b : Nat} {o : AO} (h : OR P m w b o) (ho : o ≠ .dead) : ∃ z, m b = some z ∧ ∃ x, w.heap[z.blk]? = some x := by
  cases o with
  | cells k => obtain ⟨z, cs, fz, hB⟩ := h; exact ⟨z, hB.hm, _, hB.hp⟩
  | map es cl => obtain ⟨z, es', h1, h2, _⟩ := h; exact ⟨z, h1, _, h2⟩
  | siter s pos => obtain ⟨z, h1, h2⟩ := h; exact ⟨z, h1, _, h2⟩
  | loop lp => obtain ⟨z, zd, fn, tmps, h1, _, _, h4⟩ := h; exact ⟨z, h1, _, h4⟩
  | deferred => obtain ⟨z, h1, h2⟩ := h; exact ⟨z, h1, _, h2⟩
  | dead => exact absurd rfl ho
/-- May the executor write what this stands for, or did it lay it? -/
def ownO (o : AO) : Prop := match o with
  | .cells k => k.ro = false
  | .dead => False
  | _ => True
/-- What 'b', that may be written, may share with 'x'. -/
def Apart (o : AO) (b x : Nat) (z zx : Cz) (ox : AO) : Prop := match o with
  | .cells k => k.ro = false → k.st = false → zx.blk = z.blk → ∃ kx, ox = .cells kx ∧ x ∈ k.anc ∧ kx.st = true ∧ kx.fx = false ∧ zx.sh + kx.n ≤ z.sh + k.bnd
  | .dead => True
  | _ => zx.blk ≠ z.blk
structure WR (P : Program) (m : Mz) (h : Hp) (nx : Nat) (w : World) : Prop where
  gl : ∀ g, g < 1000 → m g = some ⟨g, 0, 0⟩
  fresh : ∀ b, nx ≤ b → m b = none
  rel : ∀ b, OR P m w b (h.get .dead b)
  ap : ∀ b x z zx, x ≠ b → m b = some z → m x = some zx → h.get .dead x ≠ .dead → Apart (h.get .dead b) b x z zx (h.get .dead x)
/-- The executor lays or may write the model's block 'j'. -/
def Owns (m : Mz) (h : Hp) (j : Nat) : Prop := ∃ b z, m b = some z ∧ z.blk = j ∧ ownO (h.get .dead b)
/-- Some living block of the executor's lies in the model's block 'j'. -/
def Lives (m : Mz) (h : Hp) (j : Nat) : Prop := ∃ b z, m b = some z ∧ z.blk = j ∧ h.get .dead b ≠ .dead
structure Evo (m : Mz) (h : Hp) (w : World) (m' : Mz) (h' : Hp) (w' : World) : Prop where
  le : Le m m'
  os : w'.os = w.os
  tape : w'.tape = w.tape
  output : w'.output = w.output
  size : w.heap.size ≤ w'.heap.size
  keep : ∀ j, j < w.heap.size → ¬ Owns m h j → w'.heap[j]? = w.heap[j]?
  own : ∀ j, j < w.heap.size → Owns m' h' j → Owns m h j
  liv : ∀ j, j < w.heap.size → Lives m' h' j → Lives m h j
theorem Evo.refl (m : Mz) (h : Hp) (w : World) : Evo m h w m h w := ⟨Le.refl m, rfl, rfl, rfl, Nat.le_refl _, fun _ _ _ => rfl, fun _ _ h => h, fun _ _ h => h⟩
theorem Evo.trans {m m' m'' : Mz} {h h' h'' : Hp} {w w' w'' : World} (a : Evo m h w m' h' w') (b : Evo m' h' w' m'' h'' w'') : Evo m h w m'' h'' w'' :=
  ⟨a.le.trans b.le, b.os.trans a.os, b.tape.trans a.tape, b.output.trans a.output, Nat.le_trans a.size b.size,
   fun j hj hn => by
     rw [b.keep j (Nat.lt_of_lt_of_le hj a.size) (fun ho => hn (a.own j hj ho))]
     exact a.keep j hj hn,
   fun j hj ho => a.own j hj (b.own j (Nat.lt_of_lt_of_le hj a.size) ho),
   fun j hj ho => a.liv j hj (b.liv j (Nat.lt_of_lt_of_le hj a.size) ho)⟩
/-- Only the draws' count has turned. -/
theorem WR.drew {P : Program} {m : Mz} {h : Hp} {nx : Nat} {w w' : World} (hW : WR P m h nx w) (hh : w'.heap = w.heap) : WR P m h nx w' :=
  ⟨hW.gl, hW.fresh, fun b => (hW.rel b).mono (Le.refl m) fun z _ _ => by rw [hh], hW.ap⟩
theorem Evo.drew {m : Mz} {h : Hp} {w w' : World} (hh : w'.heap = w.heap) (ho : w'.os = w.os) (ht : w'.tape = w.tape) (hp : w'.output = w.output) : Evo m h w m h w' :=
  ⟨Le.refl m, ho, ht, hp, by rw [hh]; exact Nat.le_refl _, fun j _ _ => by rw [hh], fun _ _ h => h, fun _ _ h => h⟩
theorem WR.lt {P : Program} {m : Mz} {h : Hp} {nx : Nat} {w : World} (hW : WR P m h nx w) {b : Nat} {z : Cz} (hb : h.get .dead b ≠ .dead) (hz : m b = some z) : z.blk < w.heap.size := by
  obtain ⟨z', h1, x, h2⟩ := (hW.rel b).there hb
  rw [hz] at h1; cases h1
  exact (Array.getElem?_eq_some_iff.1 h2).1
def upd (m : Mz) (b : Nat) (z : Cz) : Mz := fun x => if x = b then some z else m x
theorem upd_at (m : Mz) (b : Nat) (z : Cz) : upd m b z b = some z := if_pos rfl
theorem upd_ne (m : Mz) {b x : Nat} (z : Cz) (h : x ≠ b) : upd m b z x = m x := if_neg h
theorem upd_le {m : Mz} {b : Nat} (z : Cz) (h : m b = none) : Le m (upd m b z) := fun x y hx => by
  have : x ≠ b := fun e => by rw [e, h] at hx; cases hx
  rw [upd_ne m z this]; exact hx
theorem Apart.symm_none {o : AO} {b x : Nat} {z zx : Cz} {ox : AO} (h : zx.blk ≠ z.blk) : Apart o b x z zx ox := by
  cases o with
  | cells k => intro _ _ e; exact absurd e h
  | dead => trivial
  | _ => exact h
/-- A new block. -/
theorem WR.alloc {P : Program} {m : Mz} {h : Hp} {nx : Nat} {w : World} (hW : WR P m h nx w) (o : Obj) (ao : AO) (z : Cz) (hz : z.blk = w.heap.size)
    (hr : OR P (upd m nx z) (w.alloc o) nx ao) : WR P (upd m nx z) (h.set .dead nx ao) (nx + 1) (w.alloc o) ∧ Evo m h w (upd m nx z) (h.set .dead nx ao) (w.alloc o) := by
  have hn := hW.fresh nx (Nat.le_refl _)
  have hle := upd_le z hn
  have hold : ∀ j, j < w.heap.size → (w.alloc o).heap[j]? = w.heap[j]? := fun j hj => by
    show (w.heap.push o)[j]? = _
    rw [Array.getElem?_push, if_neg (by omega)]
  have hlt : ∀ b z', h.get .dead b ≠ .dead → m b = some z' → z'.blk < w.heap.size := fun b z' hb hm => hW.lt hb hm
  refine ⟨⟨fun g hg => hle _ _ (hW.gl g hg), fun b hb => ?_, fun b => ?_, ?_⟩, hle, rfl, rfl, rfl, ?_, fun j hj _ => hold j hj, ?_, ?_⟩
  · rw [upd_ne m z (by omega)]; exact hW.fresh b (by omega)
  · rw [Tr.get_set]
    by_cases hb : b = nx
    · rw [if_pos hb]; subst hb; exact hr
    · rw [if_neg hb]
      exact (hW.rel b).mono hle fun z' hm hd => hold _ (hlt b z' hd hm)
  · intro b x zb zx hx hmb hmx hlive
    rw [Tr.get_set] at hlive
    rw [Tr.get_set, Tr.get_set]
    by_cases hb : b = nx
    · subst hb
      have hxn : x ≠ b := hx
      rw [if_neg hxn] at hlive
      rw [upd_at] at hmb; cases hmb
      rw [upd_ne m _ hxn] at hmx
      have := hlt x zx hlive hmx
      exact Apart.symm_none (by omega)
    · rw [if_neg hb]
      rw [upd_ne m z hb] at hmb
      by_cases hxn : x = nx
      · subst hxn
        rw [upd_at] at hmx; cases hmx
        by_cases hd : h.get .dead b = .dead
        · rw [hd]; trivial
        · have := hlt b zb hd hmb
          exact Apart.symm_none (by omega)
      · rw [if_neg hxn] at hlive ⊢
        rw [upd_ne m z hxn] at hmx
        exact hW.ap b x zb zx hx hmb hmx hlive
  · show w.heap.size ≤ (w.heap.push o).size
    simp
  · rintro j hj ⟨b, zb, hmb, hbj, ho⟩
    rw [Tr.get_set] at ho
    by_cases hb : b = nx
    · subst hb; rw [upd_at] at hmb; cases hmb; omega
    · rw [if_neg hb] at ho; rw [upd_ne m z hb] at hmb
      exact ⟨b, zb, hmb, hbj, ho⟩
  · rintro j hj ⟨b, zb, hmb, hbj, ho⟩
    rw [Tr.get_set] at ho
    by_cases hb : b = nx
    · subst hb; rw [upd_at] at hmb; cases hmb; omega
    · rw [if_neg hb] at ho; rw [upd_ne m z hb] at hmb
      exact ⟨b, zb, hmb, hbj, ho⟩
/-- A block that may be written has turned. -/
theorem WR.turn {P : Program} {m : Mz} {h : Hp} {nx : Nat} {w w' : World} (hW : WR P m h nx w) {b : Nat} {k k' : Bk} {z : Cz} {cs cs' : Array Value} {fz fz' : Nat × Nat}
    (hb : h.get .dead b = .cells k) (hro : k.ro = false) (hst : k.st = false) (hB : BR P m w b k z cs fz)
    (hw1 : w'.heap[z.blk]? = some (.cells cs' k.e fz')) (hw2 : ∀ j, j ≠ z.blk → w'.heap[j]? = w.heap[j]?) (hsz : w'.heap.size = w.heap.size)
    (ho : w'.os = w.os) (ht : w'.tape = w.tape) (hp : w'.output = w.output) (hcs : cs'.size = cs.size) (keep : Nat) (hkeep : ∀ p, p < z.sh + keep → cs'[p]? = cs[p]?)
    (hB' : BR P m w' b k' z cs' fz') (hro' : k'.ro = false) (hst' : k'.st = false) {h' : Hp} (hgb : h'.get .dead b = .cells k')
    (hg : ∀ x, x ≠ b → h'.get .dead x = h.get .dead x ∨ h'.get .dead x = .dead)
    (hsh : ∀ x, x ≠ b → h'.get .dead x ≠ .dead → x ∈ k.anc → k.bnd ≤ keep ∧ x ∈ k'.anc ∧ k.bnd ≤ k'.bnd) : WR P m h' nx w' ∧ Evo m h w m h' w' := by
  have hlive : ∀ x, x ≠ b → h'.get .dead x ≠ .dead → h'.get .dead x = h.get .dead x := fun x hx hd => (hg x hx).resolve_right hd
  have hapb : ∀ x zx, x ≠ b → m x = some zx → h.get .dead x ≠ .dead → zx.blk = z.blk → ∃ kx, h.get .dead x = .cells kx ∧ x ∈ k.anc ∧ kx.st = true ∧ kx.fx = false ∧ zx.sh + kx.n ≤ z.sh + k.bnd := fun x zx hx hmx hd e => by
    have := hW.ap b x z zx hx hB.hm hmx hd
    rw [hb] at this
    exact this hro hst e
  refine ⟨⟨hW.gl, hW.fresh, fun x => ?_, ?_⟩, Le.refl m, ho, ht, hp, by rw [hsz]; exact Nat.le_refl _, ?_, ?_, ?_⟩
  · by_cases hx : x = b
    · subst hx; rw [hgb]; exact ⟨z, cs', fz', hB'⟩
    · by_cases hd : h'.get .dead x = .dead
      · rw [hd]; trivial
      · have e := hlive x hx hd
        have hd0 : h.get .dead x ≠ .dead := e ▸ hd
        obtain ⟨zx, hmx, _⟩ := (hW.rel x).there hd0
        by_cases hs : zx.blk = z.blk
        · obtain ⟨kx, hkx, hanc, hsx, hfx, hle⟩ := hapb x zx hx hmx hd0 hs
          have h3 := hsh x hx hd hanc
          have hrx := hW.rel x
          rw [hkx] at hrx
          obtain ⟨zx', csx, fzx, hX⟩ := hrx
          have hm2 := hX.hm; rw [hmx] at hm2; cases hm2
          have hpx := hX.hp
          rw [hs, hB.hp] at hpx
          obtain ⟨rfl, he1, rfl⟩ : cs = csx ∧ k.e = kx.e ∧ fz = fzx := by simpa using hpx
          rw [e, hkx]
          refine ⟨zx, cs', fz', hmx, ?_, by rw [hcs]; exact hX.sz, fun i hi => ?_, ?_, ?_, ?_, ?_⟩
          · rw [hs, hw1, he1]
          · obtain ⟨u, hu, hv⟩ := hX.here i hi
            refine ⟨u, ?_, hv⟩
            rw [hkeep _ (by omega)]; exact hu
          · intro hc; rw [hsx] at hc; cases hc
          · intro hc; rw [hfx] at hc; cases hc
          · intro hc; rw [hfx] at hc; cases hc
          · intro hc; rw [hfx] at hc; cases hc
        · rw [e]
          refine (hW.rel x).mono (Le.refl m) fun z' hm' _ => hw2 _ ?_
          rw [hmx] at hm'; cases hm'; exact hs
  · intro y x zy zx hx hmy hmx hd
    by_cases hyb : y = b
    · subst hyb
      rw [hgb]
      rw [hB.hm] at hmy; cases hmy
      intro _ _ e
      have e2 := hlive x hx hd
      have hd0 : h.get .dead x ≠ .dead := e2 ▸ hd
      obtain ⟨kx, hkx, hanc, hsx, hfx, hle⟩ := hapb x zx hx hmx hd0 e
      have h3 := hsh x hx hd hanc
      exact ⟨kx, by rw [e2]; exact hkx, h3.2.1, hsx, hfx, by omega⟩
    · by_cases hdy : h'.get .dead y = .dead
      · rw [hdy]; trivial
      · have ey := hlive y hyb hdy
        rw [ey]
        by_cases hxb : x = b
        · subst hxb
          have h4 := hW.ap y x zy zx hx hmy hmx (by rw [hb]; simp)
          rw [hb] at h4
          rw [hgb]
          rw [hB.hm] at hmx; cases hmx
          cases hoy : h.get .dead y with
          | cells ky =>
            rw [hoy] at h4
            intro a1 a2 a3
            obtain ⟨kx, hkx, hanc, hsx, _⟩ := h4 a1 a2 a3
            cases hkx; rw [hst] at hsx; cases hsx
          | dead => trivial
          | map es cl => rw [hoy] at h4; exact h4
          | siter s pos => rw [hoy] at h4; exact h4
          | loop lp => rw [hoy] at h4; exact h4
          | deferred => rw [hoy] at h4; exact h4
        · rw [hlive x hxb hd]
          exact hW.ap y x zy zx hx hmy hmx (by rw [← hlive x hxb hd]; exact hd)
  · intro j hj hn
    refine hw2 j fun e => hn ?_
    exact ⟨b, z, hB.hm, e.symm, by rw [hb]; exact hro⟩
  · rintro j hj ⟨y, zy, hmy, hyj, hoy⟩
    by_cases hyb : y = b
    · subst hyb
      exact ⟨y, zy, hmy, hyj, by rw [hb]; exact hro⟩
    · rcases hg y hyb with e | e
      · rw [e] at hoy; exact ⟨y, zy, hmy, hyj, hoy⟩
      · rw [e] at hoy; exact hoy.elim
  · rintro j hj ⟨y, zy, hmy, hyj, hoy⟩
    by_cases hyb : y = b
    · subst hyb
      exact ⟨y, zy, hmy, hyj, by rw [hb]; simp⟩
    · rcases hg y hyb with e | e
      · rw [e] at hoy; exact ⟨y, zy, hmy, hyj, hoy⟩
      · exact absurd e hoy
end Ex
end Go.Proofs.YtajoljoegbeiiaaGreatDoor
