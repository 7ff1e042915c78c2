/-
  Script: ScriptPrints' walk.
-/
import Derived.Test.YtjfnkglppldfnaaDoorScrW
import Derived.Test.YtjfnkglppldfnaaDoorScr7
namespace Go.Proofs.YtjfnkglppldfnaaDoor
open Go.RowKit
section
variable {B w : World} {L : List HP}
theorem printE_bad {l : List Int} {raw : Bs} (h : mayL l = false) : printE l raw = 2 ∧ printT l raw = [] := by
  have : printE l raw = 2 := by rw [printE, if_pos h]
  exact ⟨this, by rw [printT, this, if_neg (by decide)]⟩
theorem printE_long {l : List Int} {raw : Bs} (h : mayL l = true) (hn : 16384 < raw.length) : printE l raw = 3 ∧ printT l raw = [] := by
  have : printE l raw = 3 := by rw [printE, if_neg (by simp [h]), if_pos hn]
  exact ⟨this, by rw [printT, this, if_neg (by decide)]⟩
theorem printE_ok {l : List Int} {raw : Bs} (h : mayL l = true) (hn : ¬ 16384 < raw.length) : printE l raw = 0 ∧ printT l raw = printL l raw := by
  have : printE l raw = 0 := by rw [printE, if_neg (by simp [h]), if_neg hn]
  exact ⟨this, by rw [printT, this, if_pos rfl]⟩
theorem pprint_all (hE : Env w) (a b c d e f g i j : Int) (va : Option Addr) (n cc : Nat) (raw : Bs) (hl : raw.length = n) (hr : reads w (.slice va n cc) n (u8s raw)) :
    Calls Tryd.prog 5 #[.agg #[.int .i64 a, .int .i64 b, .int .i64 c, .int .i64 d, .int .i64 e, .int .i64 f, .int .i64 g, .int .i64 i, .int .i64 j], .slice va n cc] w fun y w' =>
      y = .returned (.tuple #[.string ⟨(printT [a, b, c, d, e, f, g, i, j] raw).toArray⟩, .int .i64 (printE [a, b, c, d, e, f, g, i, j] raw)]) ∧ Below w.heap.size w w' := by
  by_cases hm : mayL [a, b, c, d, e, f, g, i, j] = true
  · by_cases hn : 16384 < n
    · obtain ⟨e1, e2⟩ := printE_long (raw := raw) hm (by omega)
      rw [e1, e2]; exact pprint_long a b c d e f g i j va n cc hm hn
    · obtain ⟨e1, e2⟩ := printE_ok (raw := raw) hm (by omega)
      rw [e1, e2]; exact pprint_ok hE a b c d e f g i j va n cc raw hm (by omega) hl hr
  · have hm : mayL [a, b, c, d, e, f, g, i, j] = false := by simpa using hm
    obtain ⟨e1, e2⟩ := printE_bad (raw := raw) hm
    rw [e1, e2]; exact pprint_bad a b c d e f g i j _ hm
theorem rprint_all (a b c d e f g i j : Int) (va : Option Addr) (n cc : Nat) (raw : Bs) (hl : raw.length = n) (hr : reads w (.slice va n cc) n (u8s raw)) :
    Calls Tryd.prog 6 #[.agg #[.int .i64 a, .int .i64 b, .int .i64 c, .int .i64 d, .int .i64 e, .int .i64 f, .int .i64 g, .int .i64 i, .int .i64 j], .slice va n cc] w fun y w' =>
      y = .returned (.tuple #[.string ⟨(printT [a, b, c, d, e, f, g, i, j] raw).toArray⟩, .int .i64 (printE [a, b, c, d, e, f, g, i, j] raw)]) ∧ Below w.heap.size w w' := by
  by_cases hm : mayL [a, b, c, d, e, f, g, i, j] = true
  · by_cases hn : 16384 < n
    · obtain ⟨e1, e2⟩ := printE_long (raw := raw) hm (by omega)
      rw [e1, e2]; exact rprint_long a b c d e f g i j va n cc hm hn
    · obtain ⟨e1, e2⟩ := printE_ok (raw := raw) hm (by omega)
      rw [e1, e2]; exact rprint_ok a b c d e f g i j va n cc raw hm (by omega) hl hr
  · have hm : mayL [a, b, c, d, e, f, g, i, j] = false := by simpa using hm
    obtain ⟨e1, e2⟩ := printE_bad (raw := raw) hm
    rw [e1, e2]; exact rprint_bad a b c d e f g i j _ hm
set_option maxHeartbeats 4000000 in
set_option maxRecDepth 100000 in
theorem prints_law (hE : Env w) (a b c d e f g i j : Int) (va : Option Addr) (n cc : Nat) (raw : Bs) (hl : raw.length = n) (hr : reads w (.slice va n cc) n (u8s raw)) :
    Calls Tryd.prog 3 #[.agg #[.int .i64 a, .int .i64 b, .int .i64 c, .int .i64 d, .int .i64 e, .int .i64 f, .int .i64 g, .int .i64 i, .int .i64 j], .slice va n cc] w fun y w' =>
      y = .returned (.bool true) ∧ Below w.heap.size w w' := by
  obtain ⟨hr0, hr1, hr2⟩ := reads_len hr
  obtain ⟨k, hk⟩ : ∃ k, (min (n : Int) 17000).toNat = k := ⟨_, rfl⟩
  have hkn : k ≤ n := by omega
  have hr3 := reads_take hr k k hkn
  rw [show (u8s raw).take k = u8s (raw.take k) from by simp [u8s]] at hr3
  have hlk : (raw.take k).length = k := by simp; omega
  have _hB1 : Below w.heap.size w (w.alloc (.cells #[.int .i64 a, .int .i64 b, .int .i64 c, .int .i64 d, .int .i64 e, .int .i64 f, .int .i64 g, .int .i64 i, .int .i64 j] 23)) := ((Sat.start w).alloc _).below
  have hp := pprint_all (hE.at ((Sat.start w).alloc (.cells #[.int .i64 a, .int .i64 b, .int .i64 c, .int .i64 d, .int .i64 e, .int .i64 f, .int .i64 g, .int .i64 i, .int .i64 j] 23))) a b c d e f g i j va k cc (raw.take k) hlk (((Sat.start w).alloc _).reads hr3)
  obtain ⟨T, hT⟩ : ∃ T : ByteArray, (⟨(printT [a, b, c, d, e, f, g, i, j] (raw.take k)).toArray⟩ : ByteArray) = T := ⟨_, rfl⟩
  obtain ⟨E, hEE⟩ : ∃ E, printE [a, b, c, d, e, f, g, i, j] (raw.take k) = E := ⟨_, rfl⟩
  rw [hT, hEE] at hp
  have hq := fun (w' : World) (h' : reads w' (.slice va k cc) k (u8s (raw.take k))) => rprint_all a b c d e f g i j va k cc (raw.take k) hlk h'
  rw [hT, hEE] at hq
  clear hT hEE
  go_enter Tryd.func3, Tryd.ntmps3
  go_wp2_with (first
    | (go_at_call 5; refine hp.mono ?_; rintro y w2 ⟨rfl, hb2⟩; have h2 := ((Sat.start w).alloc _).of_below hb2; have q0 := h2.pt_cell 0; have q1 := h2.pt_cell 1; have q2 := h2.pt_cell 2; have q3 := h2.pt_cell 3; have q4 := h2.pt_cell 4; have q5 := h2.pt_cell 5; have q6 := h2.pt_cell 6; have q7 := h2.pt_cell 7; have q8 := h2.pt_cell 8)
    | (go_at_call 6; refine (hq _ (h2.reads hr3)).mono ?_; rintro y w3 ⟨rfl, hb3⟩; have h3 := h2.of_below hb3)
    | (go_at_call 7; refine (pworks (hE.at h3)).mono ?_; rintro y w4 ⟨rfl, hb4⟩; have h4 := h3.of_below hb4))
  go_ret
  exact ⟨rfl, h4.below⟩
end
end Go.Proofs.YtjfnkglppldfnaaDoor
