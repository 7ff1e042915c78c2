/-
  Script: nine small numbers, and an operation by small numbers, that came in; the table of blanks.
-/
import Derived.Test.YtcjindifdghpgaaGreatDoorScrO
import Derived.Test.YtcjindifdghpgaaGreatDoorOps3
import Derived.Test.YtcjindifdghpgaaGreatDoorOpsA
namespace Go.Proofs.YtcjindifdghpgaaGreatDoor
set_option linter.all false
open Go.Joins Go.ChangeShapes Go.WideShapes Go.RowKit Go.Deep
theorem cells9 : Tryz.prog.cellsOf 22 = 9 := by kernel_rfl
theorem cellsU8 : Tryz.prog.cellsOf 5 = 1 := by kernel_rfl
theorem cellsBl : Tryz.prog.cellsOf 4 = 1 := by kernel_rfl
theorem cellsSpot : Tryz.prog.cellsOf 25 = 6 := by kernel_rfl
theorem cells256 : Tryz.prog.cellsOf 161 = 256 := by kernel_rfl
theorem gSp : Tryz.prog.globalNamed "strings.asciiSpace" = some 1 := by kernel_rfl
theorem gSpT : (Tryz.prog.globals[1]?).map (·.type) = some 161 := by kernel_rfl
set_option maxRecDepth 100000 in
theorem envF_of {W : World} {r1 : List (String × DataW Unit)} (hP : laidMet Tryz.prog (("strings.asciiSpace", Rows.laid_strings_asciiSpace) :: r1) W) : EnvF W :=
  Lib.tabIs_of_head (k := .u8) (zs := Lib.asciiSpaceTab) gSp gSpT Tryz.underlying161 Tryz.underlying5 cellsU8 cells256 hP
section
variable {H : Type} {enc : TypeId × Value → H} {P : Program} {w : World} {base : Nat} {spare : Nat → Bool} {held : Bool}
theorem trod_arr {t e : TypeId} {n fuel : Nat} {cs : List Value} {x : DataW H × List MemPlace} (ht : P.underlying t = some (.array n e)) (hce : P.cellsOf e = 1)
    (h : DataW.trod enc P w base spare held fuel t cs = some x) :
    ∃ (xs : List (DataW H × List MemPlace)) (m : Nat), xs.length = n ∧ ∀ i, i < n → DataW.trod enc P w base spare held m e ((cs.drop i).take 1) = xs[i]? := by
  cases fuel with
  | zero => simp [DataW.trod] at h
  | succ m =>
    unfold DataW.trod at h
    rw [ht] at h
    have h2 := h
    simp only at h2
    split at h2
    · simp only [Option.map_eq_some_iff] at h2
      obtain ⟨xs, hp, hd⟩ := h2
      refine ⟨xs, m, by simpa using mapM_some_length hp, fun i hi => ?_⟩
      have := mapM_some_get hp i i (by simp [hi])
      simpa [hce] using this
    · cases h2
theorem okWide_arr {r : Reach} {b0 : Nat} {t e : TypeId} {n : Nat} {v : Value} (ht : P.underlying t = some (.array n e)) (h : Value.okWide P w r b0 t v) : ∃ cs, v = .agg cs ∧ cs.size = P.cellsOf t := by
  simp only [Value.okWide, ht] at h
  obtain ⟨cs, h1, h2, _⟩ := h
  exact ⟨cs, h1, h2⟩
theorem u8_nat {z : Int} (h : (Lit.int .u8 z).wf = true) : ∃ n : Nat, z = (n : Int) ∧ n < 256 := by
  have : 0 ≤ z ∧ z ≤ 255 := by simpa [Lit.wf, IntKind.wrap, IntKind.min, IntKind.max, IntKind.signed, IntKind.bits] using h
  exact ⟨z.toNat, by omega, by omega⟩
theorem u8_byte {z : Int} (h : (Lit.int .u8 z).wf = true) : ∃ b : UInt8, z = (b.toNat : Int) := by
  obtain ⟨n, rfl, hn⟩ := u8_nat h
  exact ⟨UInt8.ofNat n, by simp; omega⟩
set_option maxRecDepth 100000 in
theorem open_nine {r : Reach} {b0 : Nat} {v : Value} {d : DataW H} {p : List MemPlace} (hv : Value.okWide Tryz.prog w r b0 22 v) (h : DataW.Trod enc Tryz.prog w base spare held 22 v d p) :
    ∃ a b c d e f g i j : Nat, v = .agg #[.int .u8 a, .int .u8 b, .int .u8 c, .int .u8 d, .int .u8 e, .int .u8 f, .int .u8 g, .int .u8 i, .int .u8 j] ∧ g < 256 ∧ i < 256 ∧ j < 256 := by
  obtain ⟨cs, rfl, hsz⟩ := okWide_arr Tryz.underlying22 hv
  obtain ⟨l⟩ := cs
  match l, hsz.trans cells9 with
  | [c0, c1, c2, c3, c4, c5, c6, c7, c8], _ =>
    obtain ⟨fuel, hf⟩ := h
    obtain ⟨xs, n, hlen, hg⟩ := trod_arr Tryz.underlying22 cellsU8 hf
    have e : ∀ (c : Value) (y : DataW H × List MemPlace), DataW.trod enc Tryz.prog w base spare held n 5 [c] = some y → ∃ z : Nat, c = .int .u8 z ∧ z < 256 := fun c y h => by
      obtain ⟨z, hc, _, hw⟩ := DataW.trod_int Tryz.underlying5 h
      obtain ⟨m, rfl, hm⟩ := u8_nat hw
      exact ⟨m, by simpa using hc, hm⟩
    match xs, hlen with
    | [y0, y1, y2, y3, y4, y5, y6, y7, y8], _ =>
      obtain ⟨z0, rfl, _⟩ := e c0 y0 (by simpa [Value.cells] using hg 0 (by omega))
      obtain ⟨z1, rfl, _⟩ := e c1 y1 (by simpa [Value.cells] using hg 1 (by omega))
      obtain ⟨z2, rfl, _⟩ := e c2 y2 (by simpa [Value.cells] using hg 2 (by omega))
      obtain ⟨z3, rfl, _⟩ := e c3 y3 (by simpa [Value.cells] using hg 3 (by omega))
      obtain ⟨z4, rfl, _⟩ := e c4 y4 (by simpa [Value.cells] using hg 4 (by omega))
      obtain ⟨z5, rfl, _⟩ := e c5 y5 (by simpa [Value.cells] using hg 5 (by omega))
      obtain ⟨z6, rfl, h6⟩ := e c6 y6 (by simpa [Value.cells] using hg 6 (by omega))
      obtain ⟨z7, rfl, h7⟩ := e c7 y7 (by simpa [Value.cells] using hg 7 (by omega))
      obtain ⟨z8, rfl, h8⟩ := e c8 y8 (by simpa [Value.cells] using hg 8 (by omega))
      exact ⟨z0, z1, z2, z3, z4, z5, z6, z7, z8, rfl, h6, h7, h8⟩
set_option maxRecDepth 100000 in
theorem open_spot {r : Reach} {b0 : Nat} {v : Value} {d : DataW H} {p : List MemPlace} (hv : Value.okWide Tryz.prog w r b0 25 v) (h : DataW.Trod enc Tryz.prog w base spare held 25 v d p) :
    ∃ (k : Nat) (ro co : UInt8) (va ex : ByteArray) (has : Bool), v = .agg (spotC k ro co va ex has) ∧ k < 256 := by
  obtain ⟨cs, rfl, hsz⟩ := okWide_struct Tryz.underlying25 hv
  obtain ⟨l⟩ := cs
  match l, hsz.trans cellsSpot with
  | [c0, c1, c2, c3, c4, c5], _ =>
    obtain ⟨fuel, hf⟩ := h
    obtain ⟨xs, n, _, hx, _, hlen, hg⟩ := DataW.trod_struct Tryz.underlying25 hf
    match xs, hlen with
    | [y0, y1, y2, y3, y4, y5], _ =>
      have g0 : DataW.trod enc Tryz.prog w base spare held n 5 [c0] = some y0 := by simpa [Value.cells, cellsU8] using hg 0 _ rfl
      have g1 : DataW.trod enc Tryz.prog w base spare held n 5 [c1] = some y1 := by simpa [Value.cells, cellsU8] using hg 1 _ rfl
      have g2 : DataW.trod enc Tryz.prog w base spare held n 5 [c2] = some y2 := by simpa [Value.cells, cellsU8] using hg 2 _ rfl
      have g3 : DataW.trod enc Tryz.prog w base spare held n 9 [c3] = some y3 := by simpa [Value.cells, cellsStr] using hg 3 _ rfl
      have g4 : DataW.trod enc Tryz.prog w base spare held n 9 [c4] = some y4 := by simpa [Value.cells, cellsStr] using hg 4 _ rfl
      have g5 : DataW.trod enc Tryz.prog w base spare held n 4 [c5] = some y5 := by simpa [Value.cells, cellsBl] using hg 5 _ rfl
      obtain ⟨z0, h0, _, w0⟩ := DataW.trod_int Tryz.underlying5 g0
      obtain ⟨z1, h1, _, w1⟩ := DataW.trod_int Tryz.underlying5 g1
      obtain ⟨z2, h2, _, w2⟩ := DataW.trod_int Tryz.underlying5 g2
      obtain ⟨z3, h3, _, _⟩ := DataW.trod_string Tryz.underlying9 g3
      obtain ⟨z4, h4, _, _⟩ := DataW.trod_string Tryz.underlying9 g4
      obtain ⟨z5, h5, _⟩ := DataW.trod_bool Tryz.underlying4 g5
      obtain ⟨k, rfl, hk⟩ := u8_nat w0
      obtain ⟨b1, rfl⟩ := u8_byte w1
      obtain ⟨b2, rfl⟩ := u8_byte w2
      simp only [List.cons.injEq, and_true] at h0 h1 h2 h3 h4 h5
      subst h0 h1 h2 h3 h4 h5
      exact ⟨k, b1, b2, z3, z4, z5, rfl, hk⟩
end
end Go.Proofs.YtcjindifdghpgaaGreatDoor
