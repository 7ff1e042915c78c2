/-
  What came in, as the separation logic reads it: a row of bytes. What came in, as the separation logic reads it: a slice of structs (or of strings) of one-cell fields. Wal: what comes in: a slice of texts, two numbers.
-/
import Derived.Test.YtdngjkjoahgelaaGreatDoorSlA
import Derived.ProofKit
import Derived.Deep.Slices
import Derived.Lib.SmallJoins
import Derived.Test.YtdngjkjoahgelaaGreatDoorRows
import Derived.Lib.LaidTab
import Derived.Stop.LaidErr
namespace Go.Proofs.YtdngjkjoahgelaaGreatDoor
open Go.RowKit

/-- A slice of integers of one kind that came in: nil, or a row of 'cap' cells that hold 'zs', each number of its kind. -/
def IsRow (k : IntKind) (w : World) (a : Option Addr) (len cap : Nat) (zs : List Int) : Prop :=
  (a = none ∧ len = 0 ∧ cap = 0 ∧ zs = []) ∨
  ∃ x, a = some x ∧ len ≤ cap ∧ cap ≤ maxLen ∧ zs.length = cap ∧ (∀ i, i < zs.length → w.cell? (x.add i) = some (.int k (zs.getD i 0))) ∧ ∀ n ∈ zs, (Lit.int k n).wf = true

/-- A row of bytes that came in, as the separation logic reads it. -/
theorem reads_of_row {w : World} {a : Option Addr} {len cap : Nat} {zs : List Int} (h : IsRow .u8 w a len cap zs) : ∃ bs : List UInt8, bs.length = len ∧ reads w (.slice a len cap) len (u8s bs) := by
  rcases h with ⟨rfl, rfl, rfl, rfl⟩ | ⟨x, rfl, hl, hm, hz, hc, hwf⟩
  · exact ⟨[], rfl, _, _, rfl, fun _ => ⟨rfl, rfl⟩, Nat.le_refl _, Nat.zero_le _, fun j u e => by simp [u8s] at e⟩
  · refine ⟨(zs.take len).map fun z => UInt8.ofNat z.toNat, by simp; omega, _, _, rfl, (fun e => by cases e), hl, hm, fun j u e => ?_⟩
    have hj : j < len := by
      have := (List.getElem?_eq_some_iff.1 e).1
      simp [u8s] at this; omega
    have hcj := hc j (by omega)
    have hx : x = ⟨x.block, x.off, none⟩ := by
      have h0 := hc 0 (by omega)
      rw [show x.add 0 = x from rfl] at h0
      obtain ⟨bl, o, sp⟩ := x
      cases sp with
      | none => rfl
      | some s =>
        simp only [World.cell?] at h0
        split at h0 <;> simp at h0
    refine ⟨x.block, x.off, by rw [← hx], ?_⟩
    rw [hx, addr_add] at hcj
    rw [hcj]
    have hzj : zs.getD j 0 = zs[j]'(by omega) := by simp [List.getD, List.getElem?_eq_getElem (show j < zs.length by omega)]
    have hw := hwf (zs[j]'(by omega)) (List.getElem_mem _)
    simp [Lit.wf, IntKind.min, IntKind.max, IntKind.signed, IntKind.bits] at hw
    simp only [u8s, List.getElem?_map, List.getElem?_take, hj, if_true, List.getElem?_eq_getElem (show j < zs.length by omega), Option.map_some] at e
    cases e
    rw [hzj, UInt8.toNat_ofNat']
    congr 2
    omega
end Go.Proofs.YtdngjkjoahgelaaGreatDoor

namespace Go.Proofs.YtdngjkjoahgelaaGreatDoor
open Go.RowKit Go.ChangeAt Go.ChangeShapes Go.Deep

theorem flatMap_get {α : Type} {R : α → List Value} {size : Nat} : ∀ (xs : List α), (∀ x ∈ xs, (R x).length = size) → ∀ (k : Nat) (u : Value), (xs.flatMap R)[k]? = some u → ∃ i j x, xs[i]? = some x ∧ (R x)[j]? = some u ∧ k = i * size + j ∧ j < size
  | [], _, k, u, h => by simp at h
  | x :: xs, hl, k, u, h => by
    have hx := hl x (by simp)
    simp only [List.flatMap_cons] at h
    by_cases hk : k < size
    · rw [List.getElem?_append_left (by omega)] at h
      exact ⟨0, k, x, rfl, h, by omega, hk⟩
    · rw [List.getElem?_append_right (by omega), hx] at h
      obtain ⟨i, j, y, h1, h2, h3, h4⟩ := flatMap_get xs (fun y hy => hl y (by simp [hy])) _ _ h
      exact ⟨i + 1, j, y, by simpa using h1, h2, by rw [Nat.add_mul, Nat.one_mul]; omega, h4⟩

/-- A slice that came in: each element's cells by 'R', with what else is known of it. -/
theorem reads_of_slice {H : Type} {enc : TypeId × Value → H} {P : Program} {w : World} {base : Nat} {held : Bool} {t e : TypeId} {size fuel : Nat} {a : Option Addr} {len cap : Nat} {x : DataW H × List MemPlace}
    (ht : P.underlying t = some (.slice e)) (hc : P.cellsOf e = size) (hs : 0 < size) {α : Type} (R : α → List Value) (Φ : α → Prop)
    (hR : ∀ n cs y, cs.length = size → DataW.trod enc P w base (fun _ => true) held n e cs = some y → ∃ z : α, cs = R z ∧ Φ z)
    (h : DataW.trod enc P w base (fun _ => true) held fuel t [.slice a len cap] = some x) :
    ∃ xs : List α, xs.length = len ∧ reads w (.slice a len cap) len (xs.flatMap R) ∧ ∀ z ∈ xs, Φ z := by
  rcases open_slice ht h with ⟨hcs, _⟩ | ⟨b, l, c, m, n, D, Pl, hcs, hb, hl, hm, hmm, _, hx⟩
  · simp at hcs
    obtain ⟨rfl, rfl, rfl⟩ := hcs
    exact ⟨[], rfl, ⟨none, 0, rfl, fun _ => ⟨rfl, rfl⟩, Nat.le_refl _, Nat.zero_le _, fun j u e => by simp at e⟩, fun z hz => by simp at hz⟩
  · simp at hcs
    obtain ⟨rfl, rfl, rfl⟩ := hcs
    rw [if_pos rfl] at hmm
    subst hmm
    have hall : ∀ i, i < len → ∃ z : α, w.cells? base (b.add (i * size)) size = some (R z) ∧ Φ z := fun i hi => by
      obtain ⟨cs', h1, h2⟩ := hx i (by omega)
      rw [hc] at h1
      obtain ⟨_, hlen, _⟩ := World.cells?_some h1
      obtain ⟨z, rfl, hz⟩ := hR _ _ _ hlen h2
      exact ⟨z, h1, hz⟩
    have key : ∀ k, k ≤ len → ∃ xs : List α, xs.length = k ∧ (∀ i z, xs[i]? = some z → w.cells? base (b.add (i * size)) size = some (R z)) ∧ ∀ z ∈ xs, Φ z := by
      intro k
      induction k with
      | zero => exact fun _ => ⟨[], rfl, fun i z e => by simp at e, fun z hz => by simp at hz⟩
      | succ k ih =>
        intro hk
        obtain ⟨xs, h1, h2, h3⟩ := ih (by omega)
        obtain ⟨z, hz1, hz2⟩ := hall k (by omega)
        refine ⟨xs ++ [z], by simp [h1], fun i y e => ?_, fun y hy => ?_⟩
        · rcases Nat.lt_trichotomy i k with hik | hik | hik
          · rw [List.getElem?_append_left (by omega)] at e
            exact h2 i y e
          · subst hik
            rw [List.getElem?_append_right (by omega), h1, Nat.sub_self] at e
            cases e
            exact hz1
          · rw [List.getElem?_append_right (by omega), h1] at e
            have := (List.getElem?_eq_some_iff.1 e).1
            simp at this; omega
        · rcases List.mem_append.1 hy with hy | hy
          · exact h3 y hy
          · simp at hy; subst hy; exact hz2
    obtain ⟨xs, h1, h2, h3⟩ := key len (Nat.le_refl _)
    refine ⟨xs, h1, ⟨some b, _, rfl, (fun e => by cases e), hl, hm, fun k u hu => ?_⟩, h3⟩
    have hlen : ∀ z ∈ xs, (R z).length = size := fun z hz => by
      obtain ⟨i, hi⟩ := List.getElem?_of_mem hz
      exact (World.cells?_some (h2 i z hi)).2.1
    obtain ⟨i, j, z, e1, e2, rfl, hj⟩ := flatMap_get xs hlen k u hu
    have h4 := (World.cells?_some (h2 i z e1)).2.2 j hj
    rw [e2] at h4
    have hbb : b = ⟨b.block, b.off, none⟩ := by
      have hx0 : 0 < xs.length := Nat.lt_of_le_of_lt (Nat.zero_le _) (List.getElem?_eq_some_iff.1 e1).1
      have h0 := (World.cells?_some (h2 0 xs[0] (List.getElem?_eq_getElem hx0))).2.2 0 hs
      have hl0 := hlen xs[0] (List.getElem_mem _)
      rw [Nat.zero_mul, show (b.add 0).add 0 = b from rfl, List.getElem?_eq_getElem (by omega)] at h0
      obtain ⟨bl, o, sp⟩ := b
      cases sp with
      | none => rfl
      | some s =>
        simp only [World.cell?] at h0
        split at h0 <;> simp at h0
    refine ⟨b.block, b.off, by rw [← hbb], ?_⟩
    rw [hbb, addr_add, addr_add] at h4
    rw [Nat.add_assoc] at h4
    exact h4
end Go.Proofs.YtdngjkjoahgelaaGreatDoor

namespace Go.Proofs.YtdngjkjoahgelaaGreatDoor
set_option linter.all false
open Go.Joins Go.ChangeShapes Go.WideShapes Go.RowKit Go.Deep Go.ChangeAt
section
variable {H : Type} {enc : TypeId × Value → H} {P : Program} {w : World} {base : Nat} {spare : Nat → Bool} {held : Bool}
theorem strs_map (ks : List ByteArray) : ks.flatMap (fun s => [Value.string s]) = ks.map Value.string := by
  induction ks with
  | nil => rfl
  | cons s ks ih => rw [List.flatMap_cons, ih]; rfl
theorem texts_of_trod {t e : TypeId} {a : Option Addr} {len cap : Nat} {d : DataW H} {ps : List MemPlace}
    (ht : P.underlying t = some (.slice e)) (he : P.underlying e = some .string) (hc : P.cellsOf e = 1) (h : DataW.Trod enc P w base (fun _ => true) held t (.slice a len cap) d ps) :
    ∃ ks : List ByteArray, ks.length = len ∧ (∀ s ∈ ks, s.size ≤ 9223372036854775807) ∧ reads w (.slice a len cap) len (ks.map Value.string) := by
  obtain ⟨fuel, hf⟩ := h
  have hf' : DataW.trod enc P w base (fun _ => true) held fuel t [.slice a len cap] = some (d, ps) := by simpa [Value.cells] using hf
  obtain ⟨xs, h1, h2, h3⟩ := reads_of_slice (size := 1) ht hc (by decide) (fun s : ByteArray => [Value.string s]) (fun s => s.size ≤ 9223372036854775807) (fun n cs y hl hy => by
    obtain ⟨s, h1, _, h3⟩ := DataW.trod_string he hy
    exact ⟨s, h1, by simpa [maxLen] using h3⟩) hf'
  rw [strs_map] at h2
  exact ⟨xs, h1, h3, h2⟩
theorem trod_arr {t e : TypeId} {n fuel : Nat} {cs : List Value} {x : DataW H × List MemPlace} (ht : P.underlying t = some (.array n e)) (hce : P.cellsOf e = 1)
    (h : DataW.trod enc P w base spare held fuel t cs = some x) :
    ∃ (xs : List (DataW H × List MemPlace)) (m : Nat), xs.length = n ∧ ∀ i, i < n → DataW.trod enc P w base spare held m e ((cs.drop i).take 1) = xs[i]? := by
  cases fuel with
  | zero => simp [DataW.trod] at h
  | succ m =>
    unfold DataW.trod at h
    rw [ht] at h
    have h2 := h
    simp only at h2
    split at h2
    · simp only [Option.map_eq_some_iff] at h2
      obtain ⟨xs, hp, hd⟩ := h2
      refine ⟨xs, m, by simpa using mapM_some_length hp, fun i hi => ?_⟩
      have := mapM_some_get hp i i (by simp [hi])
      simpa [hce] using this
    · cases h2
theorem okWide_arr {r : Reach} {b0 : Nat} {t e : TypeId} {n : Nat} {v : Value} (ht : P.underlying t = some (.array n e)) (h : Value.okWide P w r b0 t v) : ∃ cs, v = .agg cs ∧ cs.size = P.cellsOf t := by
  simp only [Value.okWide, ht] at h
  obtain ⟨cs, h1, h2, _⟩ := h
  exact ⟨cs, h1, h2⟩
theorem cells2 : Tryz.prog.cellsOf 23 = 2 := by kernel_rfl
theorem cellsInt : Tryz.prog.cellsOf 3 = 1 := by kernel_rfl
theorem i64_in {z : Int} (h : (Lit.int .i64 z).wf = true) : -9223372036854775808 ≤ z ∧ z ≤ 9223372036854775807 := by
  simpa [Lit.wf, IntKind.wrap, IntKind.min, IntKind.max, IntKind.signed, IntKind.bits] using h
set_option maxRecDepth 100000 in
theorem open_two {r : Reach} {b0 : Nat} {v : Value} {d : DataW H} {p : List MemPlace} (hv : Value.okWide Tryz.prog w r b0 23 v) (h : DataW.Trod enc Tryz.prog w base spare held 23 v d p) :
    ∃ a b : Int, v = .agg #[.int .i64 a, .int .i64 b] ∧ (-9223372036854775808 ≤ a ∧ a ≤ 9223372036854775807) ∧ (-9223372036854775808 ≤ b ∧ b ≤ 9223372036854775807) := by
  obtain ⟨cs, rfl, hsz⟩ := okWide_arr Tryz.underlying23 hv
  obtain ⟨l⟩ := cs
  match l, hsz.trans cells2 with
  | [c0, c1], _ =>
    obtain ⟨fuel, hf⟩ := h
    obtain ⟨xs, n, hlen, hg⟩ := trod_arr Tryz.underlying23 cellsInt hf
    have e : ∀ (c : Value) (y : DataW H × List MemPlace), DataW.trod enc Tryz.prog w base spare held n 3 [c] = some y → ∃ z : Int, c = .int .i64 z ∧ (-9223372036854775808 ≤ z ∧ z ≤ 9223372036854775807) := fun c y h => by
      obtain ⟨z, hc, _, hw⟩ := DataW.trod_int Tryz.underlying3 h
      exact ⟨z, by simpa using hc, i64_in hw⟩
    match xs, hlen with
    | [y0, y1], _ =>
      obtain ⟨z0, rfl, h0⟩ := e c0 y0 (by simpa [Value.cells] using hg 0 (by omega))
      obtain ⟨z1, rfl, h1⟩ := e c1 y1 (by simpa [Value.cells] using hg 1 (by omega))
      exact ⟨z0, z1, rfl, h0, h1⟩
end
end Go.Proofs.YtdngjkjoahgelaaGreatDoor
