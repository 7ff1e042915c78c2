/-
  Script: what a row's condition gives the walks: the tables, the two errors; a setup and bytes that came in.
-/
import Derived.Test.YtcjindifdghpgaaGreatDoorRows
import Derived.Test.YtcjindifdghpgaaGreatDoorScrW
import Derived.Test.YtcjindifdghpgaaGreatDoorReadIn
import Derived.Lib.SmallJoins
import Derived.Lib.LaidTab
import Derived.Stop.LaidErr
namespace Go.Proofs.YtcjindifdghpgaaGreatDoor
open Go.Joins Go.ChangeShapes Go.WideShapes Go.RowKit Go.Deep
theorem gPow : Tryz.prog.globalNamed "internal/strconv.uint64pow10" = some 3 := by kernel_rfl
theorem gPowT : (Tryz.prog.globals[3]?).map (·.type) = some 197 := by kernel_rfl
theorem gES : Tryz.prog.globalNamed "strconv.ErrSyntax" = some 5 := by kernel_rfl
theorem gEST : (Tryz.prog.globals[5]?).map (·.type) = some 33 := by kernel_rfl
theorem gER : Tryz.prog.globalNamed "strconv.ErrRange" = some 6 := by kernel_rfl
theorem gERT : (Tryz.prog.globals[6]?).map (·.type) = some 33 := by kernel_rfl
theorem cellsPow : Tryz.prog.cellsOf 197 = 20 := by kernel_rfl
theorem cellsU64 : Tryz.prog.cellsOf 49 = 1 := by kernel_rfl
theorem cellsEr : Tryz.prog.cellsOf 223 = 1 := by kernel_rfl
theorem cellsStr : Tryz.prog.cellsOf 9 = 1 := by kernel_rfl
theorem cellsInt : Tryz.prog.cellsOf 3 = 1 := by kernel_rfl
theorem cellsSet : Tryz.prog.cellsOf 28 = 9 := by kernel_rfl
theorem starE : "*" ++ "errors.errorString" = "*errors.errorString" := by decide
theorem rowES (u : TypeId) (h : Tryz.prog.typeName? 3 u = some "*errors.errorString") : u = 221 :=
  typeName_ptr_named (nm := "errors.errorString") (by rw [starE]; kernel_rfl) (by kernel_rfl) (by decide) u (by rw [starE]; exact h)
theorem env_of {W : World} {r1 r2 r3 : List (String × DataW Unit)} (hP : laidMet Tryz.prog (("internal/strconv.uint64pow10", Rows.laid_internal_strconv_uint64pow10) :: r1) W)
    (hR : laidMet Tryz.prog (("strconv.ErrRange", Rows.laid_strconv_ErrRange) :: r2) W) (hS : laidMet Tryz.prog (("strconv.ErrSyntax", Rows.laid_strconv_ErrSyntax) :: r3) W) (hsh : W.ShapedOpen Tryz.prog) : Env W := by
  obtain ⟨a0, s0, hv0, -, -, -⟩ := laid_sentinel hS gES gEST Tryz.underlying33 rowES Tryz.underlying221 Tryz.underlying223 rfl rfl Tryz.underlying9 cellsEr cellsStr
  obtain ⟨a1, s1, hv1, -, -, -⟩ := laid_sentinel hR gER gERT Tryz.underlying33 rowES Tryz.underlying221 Tryz.underlying223 rfl rfl Tryz.underlying9 cellsEr cellsStr
  exact {
    pow := Lib.tabIs_of_head (k := .u64) (zs := Lib.pow10Tab) gPow gPowT Tryz.underlying197 Tryz.underlying49 cellsU64 cellsPow hP
    synt := ⟨_, _, by have h0 := World.var?_cell gES hv0 0; simpa using h0⟩
    rng := ⟨_, _, by have h0 := World.var?_cell gER hv1 0; simpa using h0⟩
    mlen := Tryz.laysM146.s1_3 W hsh }
section
variable {H : Type} {enc : TypeId × Value → H} {w : World} {base : Nat} {spare : Nat → Bool} {held : Bool}
set_option maxRecDepth 100000 in
theorem open_setup {r : Reach} {b0 : Nat} {v : Value} {d : DataW H} {p : List MemPlace} (hv : Value.okWide Tryz.prog w r b0 28 v) (h : DataW.Trod enc Tryz.prog w base spare held 28 v d p) :
    ∃ a b c d e f g i j : Int, v = .agg #[.int .i64 a, .int .i64 b, .int .i64 c, .int .i64 d, .int .i64 e, .int .i64 f, .int .i64 g, .int .i64 i, .int .i64 j] := by
  obtain ⟨cs, rfl, hsz⟩ := okWide_struct Tryz.underlying28 hv
  obtain ⟨l⟩ := cs
  match l, hsz.trans cellsSet with
  | [c0, c1, c2, c3, c4, c5, c6, c7, c8], _ =>
    obtain ⟨fuel, hf⟩ := h
    obtain ⟨xs, n, _, hx, _, hlen, hg⟩ := DataW.trod_struct Tryz.underlying28 hf
    have e : ∀ (c : Value) (y : DataW H × List MemPlace), DataW.trod enc Tryz.prog w base spare held n 3 [c] = some y → ∃ z, c = .int .i64 z := fun c y h => by
      obtain ⟨z, hc, _⟩ := DataW.trod_int Tryz.underlying3 h
      exact ⟨z, by simpa using hc⟩
    match xs, hlen with
    | [y0, y1, y2, y3, y4, y5, y6, y7, y8], _ =>
      obtain ⟨z0, rfl⟩ := e c0 y0 (by simpa [Value.cells, cellsInt] using hg 0 _ rfl)
      obtain ⟨z1, rfl⟩ := e c1 y1 (by simpa [Value.cells, cellsInt] using hg 1 _ rfl)
      obtain ⟨z2, rfl⟩ := e c2 y2 (by simpa [Value.cells, cellsInt] using hg 2 _ rfl)
      obtain ⟨z3, rfl⟩ := e c3 y3 (by simpa [Value.cells, cellsInt] using hg 3 _ rfl)
      obtain ⟨z4, rfl⟩ := e c4 y4 (by simpa [Value.cells, cellsInt] using hg 4 _ rfl)
      obtain ⟨z5, rfl⟩ := e c5 y5 (by simpa [Value.cells, cellsInt] using hg 5 _ rfl)
      obtain ⟨z6, rfl⟩ := e c6 y6 (by simpa [Value.cells, cellsInt] using hg 6 _ rfl)
      obtain ⟨z7, rfl⟩ := e c7 y7 (by simpa [Value.cells, cellsInt] using hg 7 _ rfl)
      obtain ⟨z8, rfl⟩ := e c8 y8 (by simpa [Value.cells, cellsInt] using hg 8 _ rfl)
      exact ⟨z0, z1, z2, z3, z4, z5, z6, z7, z8, rfl⟩
set_option maxRecDepth 100000 in
/-- A slice of bytes that came in. -/
theorem open_bytes {r : Reach} {b0 : Nat} {v : Value} {d : DataW H} {p : List MemPlace} {W : World} (hv : Value.okWide Tryz.prog W r b0 23 v) (h : DataW.Trod enc Tryz.prog W 0 (fun _ => true) true 23 v d p) :
    ∃ (a : Option Addr) (n c : Nat) (bs : Bs), v = .slice a n c ∧ bs.length = n ∧ reads W (.slice a n c) n (u8s bs) := by
  obtain ⟨a, n, c, rfl⟩ := okWide_slice Tryz.underlying23 hv
  have hr : ∃ zs, IsRow .u8 W a n c zs := by
    obtain ⟨fuel, hf⟩ := h
    rcases open_ints Tryz.underlying23 Tryz.underlying5 (by kernel_rfl) hf with ⟨hcs, _⟩ | ⟨x, l, c, zs, hcs, _, hl, hm, hz, _, hcell, hwz⟩
    · simp [Value.cells] at hcs
      obtain ⟨rfl, rfl, rfl⟩ := hcs
      exact ⟨[], .inl ⟨rfl, rfl, rfl, rfl⟩⟩
    · simp [Value.cells] at hcs
      obtain ⟨rfl, rfl, rfl⟩ := hcs
      exact ⟨zs, .inr ⟨_, rfl, hl, hm, by simpa using hz, hcell, hwz⟩⟩
  obtain ⟨zs, hz⟩ := hr
  obtain ⟨bs, hl, hb⟩ := reads_of_row hz
  exact ⟨a, n, c, bs, rfl, hl, hb⟩
end
end Go.Proofs.YtcjindifdghpgaaGreatDoor
