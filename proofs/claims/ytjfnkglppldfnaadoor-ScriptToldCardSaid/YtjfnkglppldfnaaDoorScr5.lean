/-
  Script: a setup's line, a script's text: the document's.
-/
import Derived.Test.YtjfnkglppldfnaaDoorScr1
import Derived.Test.YtjfnkglppldfnaaDoorScr4
import Derived.Test.YtjfnkglppldfnaaDoorSlMark
namespace Go.Proofs.YtjfnkglppldfnaaDoor
open Go.RowKit
section
variable {B w : World} {L : List HP}
def i64L (l : List Int) : List Value := l.map (Value.int .i64)
set_option maxHeartbeats 1000000 in
set_option maxRecDepth 100000 in
theorem rhead (a b c d e f g i j : Int) (hm : mayL [a, b, c, d, e, f, g, i, j] = true) (h : Sat B L w) :
    Calls Tryd.prog 19 #[.agg #[.int .i64 a, .int .i64 b, .int .i64 c, .int .i64 d, .int .i64 e, .int .i64 f, .int .i64 g, .int .i64 i, .int .i64 j]] w fun y w' =>
      y = .returned (.string ⟨(lineL [a, b, c, d, e, f, g, i, j]).toArray⟩) ∧ Sat B L w' := by
  have hbd := may_bounds hm
  have hS : Sat B (pt (w.heap.size + 1) (.cells (i64L [a, b, c, d, e, f, g, i, j]).toArray 3) :: L) ((w.alloc (.cells #[.int .i64 a, .int .i64 b, .int .i64 c, .int .i64 d, .int .i64 e, .int .i64 f, .int .i64 g, .int .i64 i, .int .i64 j] 23)).alloc (.cells #[.int .i64 a, .int .i64 b, .int .i64 c, .int .i64 d, .int .i64 e, .int .i64 f, .int .i64 g, .int .i64 i, .int .i64 j] 3)) := by
    have := ((h.alloc (.cells #[.int .i64 a, .int .i64 b, .int .i64 c, .int .i64 d, .int .i64 e, .int .i64 f, .int .i64 g, .int .i64 i, .int .i64 j] 23)).drop).alloc' (.cells #[.int .i64 a, .int .i64 b, .int .i64 c, .int .i64 d, .int .i64 e, .int .i64 f, .int .i64 g, .int .i64 i, .int .i64 j] 3) (n := w.heap.size + 1) (by simp)
    exact this
  obtain ⟨xs, hxs⟩ : ∃ xs, [a, b, c, d, e, f, g, i, j] = xs := ⟨_, rfl⟩
  rw [hxs] at hbd hS
  have hl : xs.length = 9 := by rw [← hxs]; rfl
  have Hx := Lib.hid hxs
  have Hb := Lib.hid hbd
  have Hl := Lib.hid hl
  clear hm h hxs hbd hl
  go_enter Tryd.func19, Tryd.ntmps19
  go_wp2_with fail
  go_loopg [4, 5] 9 (fun gh v i wr => ∃ (k : Nat) (o : ByteArray), k + gh ≤ 9 ∧ 9 ≤ k + gh ∧ i = .int .i64 k ∧ v = .string o ∧ Hid (o = ⟨(lineL (xs.take k)).toArray⟩) ∧ Sat B (pt (w.heap.size + 1) (.cells (i64L xs).toArray 3) :: L) wr)
  case atStart => exact ⟨0, _, by omega, by omega, rfl, rfl, Lib.hid rfl, hS⟩
  case round =>
    obtain ⟨k, o, hg1, hg2, rfl, rfl, Ho, hs1⟩ := hrel
    clear hS
    by_cases hk : k < 9
    · have hk2 : k < xs.length := by rw [Hl.out]; exact hk
      obtain ⟨h0, h1⟩ := Hb.out xs[k] (List.getElem_mem hk2)
      obtain ⟨x, hx⟩ : ∃ x, xs[k].toNat = x := ⟨_, rfl⟩
      have hxk : xs[k] = (x : Int) := by omega
      have c0 : wr.cell? ⟨w.heap.size + 1, k, none⟩ = some (.int .i64 x) := by
        rw [hs1.pt_cell k]; simp [i64L, hk2, hxk]
      have hx2 : x < 18446744073709551616 := by omega
      have e1 : IntKind.u64.wrap (x : Int) = x := by rw [IntKind.wrap_u64]; omega
      have hos : o.size ≤ 5 + 21 * 9 := by
        have h2 := lineL_len (xs.take k) (fun y hy => (Hb.out y (List.mem_of_mem_take hy)).2)
        have h3 : o.size = (lineL (xs.take k)).length := by rw [Ho.out]; rfl
        rw [List.length_take] at h2
        omega
      have hk3 : (k : Int) < 9 := by omega
      have Hxx := Lib.hid (show xs.take (k + 1) = xs.take k ++ [(x : Int)] by rw [List.take_succ_eq_append_getElem hk2, hxk])
      clear hx hxk hk2 h0 h1
      obtain ⟨dd, hdd⟩ : ∃ dd : ByteArray, (⟨(Lib.decDigits x).toArray⟩ : ByteArray) = dd := ⟨_, rfl⟩
      have hds : dd.size ≤ 20 := by rw [← hdd]; exact dec_len x hx2
      have hdig := rdigits x hx2
      rw [hdd] at hdig
      have Hd := Lib.hid hdd
      clear hdd
      go_wp2_with (go_at_call 35; refine (hdig _).mono ?_; rintro e w2 ⟨rfl, hb⟩)
      go_roundg (gk - 1)
      case measure => omega
      case rel =>
        refine ⟨k + 1, _, by omega, by omega, by go_num, rfl, ?_, hs1.of_below hb⟩
        refine Lib.hid ?_
        rw [Hxx.out, lineL_snoc, Int.toNat_natCast, Ho.out, ← Hd.out]
        rw [show (⟨#[32]⟩ : ByteArray) = ⟨([32] : Bs).toArray⟩ from rfl, bcat, bcat]
        simp
    · obtain rfl : k = 9 := by omega
      go_wp2_with fail
      go_ret
      refine ⟨?_, hs1.drop⟩
      rw [Ho.out, List.take_of_length_le (by rw [Hl.out]; exact Nat.le_refl _), ← Hx.out]
      rfl
end
end Go.Proofs.YtjfnkglppldfnaaDoor
