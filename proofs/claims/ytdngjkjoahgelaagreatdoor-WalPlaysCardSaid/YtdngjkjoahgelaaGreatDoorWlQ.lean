/-
  WalPlays: what comes in: the beginning (two numbers, pairs of texts), the acts.
-/
import Derived.Test.YtdngjkjoahgelaaGreatDoorRdA
import Derived.Test.YtdngjkjoahgelaaGreatDoorQsC
namespace Go.Proofs.YtdngjkjoahgelaaGreatDoor
set_option linter.all false
open Go.Joins Go.ChangeShapes Go.WideShapes Go.RowKit Go.Deep Go.ChangeAt
theorem cellsStr1 : Tryz.prog.cellsOf 9 = 1 := by kernel_rfl
theorem cellsStr2 : Tryz.prog.cellsOf 107 = 2 := by kernel_rfl
theorem cellsPairs : Tryz.prog.cellsOf 48 = 1 := by kernel_rfl
theorem cellsInts : Tryz.prog.cellsOf 33 = 1 := by kernel_rfl
theorem cellsU64' : Tryz.prog.cellsOf 35 = 1 := by kernel_rfl
theorem cellsBegin : Tryz.prog.cellsOf 50 = 3 := by kernel_rfl
theorem cellsAct : Tryz.prog.cellsOf 63 = 4 := by kernel_rfl
section
variable {H : Type} {enc : TypeId × Value → H} {w : World} {base : Nat} {spare : Nat → Bool} {held : Bool}
theorem ints_map (ks : List Int) : ks.flatMap (fun s => [Value.int .i64 s]) = ints64 ks := by
  induction ks with
  | nil => rfl
  | cons s ks ih => rw [List.flatMap_cons, ih]; rfl
/-- A cell of a slice's type is a slice. -/
theorem slice_cell {P : Program} {t e : TypeId} {fuel : Nat} {c : Value} {x : DataW H × List MemPlace} (ht : P.underlying t = some (.slice e)) (h : DataW.trod enc P w base spare held fuel t [c] = some x) :
    ∃ a n k, c = .slice a n k := by
  rcases open_slice ht h with ⟨e, _⟩ | ⟨b, l, k, m, n, D, Pl, e, _⟩
  · exact ⟨none, 0, 0, by simpa using e⟩
  · exact ⟨some b, l, k, by simpa using e⟩
theorem trod_pair {n : Nat} {cs : List Value} {x : DataW H × List MemPlace} (hl : cs.length = 2) (h : DataW.trod enc Tryz.prog w base spare held n 107 cs = some x) :
    ∃ z : Pair, cs = pairC z ∧ True := by
  match cs, hl with
  | [c0, c1], _ =>
    obtain ⟨xs, m, hlen, hg⟩ := trod_arr Tryz.underlying107 cellsStr1 h
    match xs, hlen with
    | [y0, y1], _ =>
      obtain ⟨z0, h0, _, _⟩ := DataW.trod_string (x := y0) Tryz.underlying9 (by simpa [Value.cells] using hg 0 (by omega))
      obtain ⟨z1, h1, _, _⟩ := DataW.trod_string (x := y1) Tryz.underlying9 (by simpa [Value.cells] using hg 1 (by omega))
      simp only [List.drop_zero, List.drop_succ_cons, List.take_succ_cons, List.take_zero, List.cons.injEq, and_true] at h0 h1
      exact ⟨(z0, z1), by rw [pairC, h0, h1], trivial⟩
theorem okWide_structQ {r : Reach} {b0 : Nat} {P : Program} {t : TypeId} {fs : Array Field} {v : Value} (ht : P.underlying t = some (.struct fs)) (h : Value.okWide P w r b0 t v) : ∃ cs, v = .agg cs ∧ cs.size = P.cellsOf t := by
  simp only [Value.okWide, ht] at h
  obtain ⟨cs, h1, h2, _⟩ := h
  exact ⟨cs, h1, h2⟩
set_option maxRecDepth 100000 in
theorem open_begin {r : Reach} {b0 : Nat} {v : Value} {d : DataW H} {p : List MemPlace} (hv : Value.okWide Tryz.prog w r b0 50 v) (h : DataW.Trod enc Tryz.prog w base (fun _ => true) held 50 v d p) :
    ∃ (room most : Int) (fs : List Pair) (a : Option Addr) (n c : Nat), v = .agg #[.int .i64 room, .int .i64 most, .slice a n c] ∧ (-9223372036854775808 ≤ room ∧ room ≤ 9223372036854775807) ∧ (-9223372036854775808 ≤ most ∧ most ≤ 9223372036854775807) ∧
      fs.length = n ∧ reads w (.slice a n c) n (fs.flatMap pairC) := by
  obtain ⟨cs, rfl, hsz⟩ := okWide_structQ Tryz.underlying50 hv
  obtain ⟨l⟩ := cs
  match l, hsz.trans cellsBegin with
  | [c0, c1, c2], _ =>
    obtain ⟨fuel, hf⟩ := h
    obtain ⟨xs, n, _, hx, _, hlen, hg⟩ := DataW.trod_struct Tryz.underlying50 hf
    match xs, hlen with
    | [y0, y1, y2], _ =>
      have g0 : DataW.trod enc Tryz.prog w base (fun _ => true) held n 3 [c0] = some y0 := by simpa [Value.cells, cellsInt] using hg 0 _ rfl
      have g1 : DataW.trod enc Tryz.prog w base (fun _ => true) held n 3 [c1] = some y1 := by simpa [Value.cells, cellsInt] using hg 1 _ rfl
      have g2 : DataW.trod enc Tryz.prog w base (fun _ => true) held n 48 [c2] = some y2 := by simpa [Value.cells, cellsPairs] using hg 2 _ rfl
      obtain ⟨z0, h0, _, w0⟩ := DataW.trod_int Tryz.underlying3 g0
      obtain ⟨z1, h1, _, w1⟩ := DataW.trod_int Tryz.underlying3 g1
      obtain ⟨a, k, c, rfl⟩ := slice_cell Tryz.underlying48 g2
      obtain ⟨fs, e1, e2, _⟩ := reads_of_slice (size := 2) Tryz.underlying48 cellsStr2 (by decide) pairC (fun _ => True) (fun n cs y hl hy => trod_pair hl hy) g2
      simp only [List.cons.injEq, and_true] at h0 h1
      subst h0 h1
      exact ⟨z0, z1, fs, a, k, c, rfl, i64_in w0, i64_in w1, e1, e2⟩
theorem u64_inQ {z : Int} (h : (Lit.int .u64 z).wf = true) : 0 ≤ z ∧ z ≤ 18446744073709551615 := by
  simpa [Lit.wf, IntKind.wrap, IntKind.min, IntKind.max, IntKind.signed, IntKind.bits] using h
set_option maxRecDepth 100000 in
theorem trod_act {n : Nat} {cs : List Value} {x : DataW H × List MemPlace} (hl : cs.length = 4) (hf : DataW.trod enc Tryz.prog w base (fun _ => true) held n 63 cs = some x) :
    ∃ z : ActV, cs = z.cells ∧ z.Ok w := by
  match cs, hl with
  | [c0, c1, c2, c3], _ =>
    obtain ⟨xs, m, _, hx, _, hlen, hg⟩ := DataW.trod_struct Tryz.underlying63 hf
    match xs, hlen with
    | [y0, y1, y2, y3], _ =>
      have g0 : DataW.trod enc Tryz.prog w base (fun _ => true) held m 3 [c0] = some y0 := by simpa [Value.cells, cellsInt] using hg 0 _ rfl
      have g1 : DataW.trod enc Tryz.prog w base (fun _ => true) held m 35 [c1] = some y1 := by simpa [Value.cells, cellsU64'] using hg 1 _ rfl
      have g2 : DataW.trod enc Tryz.prog w base (fun _ => true) held m 9 [c2] = some y2 := by simpa [Value.cells, cellsStr1] using hg 2 _ rfl
      have g3 : DataW.trod enc Tryz.prog w base (fun _ => true) held m 33 [c3] = some y3 := by simpa [Value.cells, cellsInts] using hg 3 _ rfl
      obtain ⟨z0, h0, _, w0⟩ := DataW.trod_int Tryz.underlying3 g0
      obtain ⟨z1, h1, _, w1⟩ := DataW.trod_int Tryz.underlying35 g1
      obtain ⟨z2, h2, _, _⟩ := DataW.trod_string Tryz.underlying9 g2
      obtain ⟨a, k, c, rfl⟩ := slice_cell Tryz.underlying33 g3
      obtain ⟨ks, e1, e2, _⟩ := reads_of_slice (size := 1) Tryz.underlying33 cellsInt (by decide) (fun z : Int => [Value.int .i64 z]) (fun _ => True) (fun n cs y hl hy => by
        obtain ⟨z, h1, _, _⟩ := DataW.trod_int Tryz.underlying3 hy
        exact ⟨z, h1, trivial⟩) g3
      rw [ints_map] at e2
      simp only [List.cons.injEq, and_true] at h0 h1 h2
      subst h0 h1 h2
      have u1 := u64_inQ w1
      obtain ⟨u, rfl⟩ : ∃ u : Nat, z1 = (u : Int) := ⟨z1.toNat, by omega⟩
      exact ⟨⟨z0, u, z2, a, k, c, ks⟩, rfl, i64_in w0, by show u ≤ _; omega, e1, e2⟩
theorem open_acts {a : Option Addr} {len cap : Nat} {d : DataW H} {p : List MemPlace} (h : DataW.Trod enc Tryz.prog w base (fun _ => true) held 51 (.slice a len cap) d p) :
    ∃ acts : List ActV, acts.length = len ∧ reads w (.slice a len cap) len (acts.flatMap ActV.cells) ∧ ∀ x ∈ acts, x.Ok w := by
  obtain ⟨fuel, hf⟩ := h
  have hf' : DataW.trod enc Tryz.prog w base (fun _ => true) held fuel 51 [.slice a len cap] = some (d, p) := by simpa [Value.cells] using hf
  exact reads_of_slice (size := 4) Tryz.underlying51 cellsAct (by decide) ActV.cells (ActV.Ok w) (fun n cs y hl hy => trod_act hl hy) hf'
end
end Go.Proofs.YtdngjkjoahgelaaGreatDoor
