/-
  Script: ScriptReads' walk.
-/
import Derived.Test.YtjfnkglppldfnaaGreatDoorScrY
import Derived.Test.YtjfnkglppldfnaaGreatDoorScrW
import Derived.Test.YtjfnkglppldfnaaGreatDoorScrI
import Derived.Test.YtjfnkglppldfnaaGreatDoorScrH
namespace Go.Proofs.YtjfnkglppldfnaaGreatDoor
set_option linter.all false
open Go.RowKit
section
variable {B w : World} {L : List HP}
set_option maxHeartbeats 4000000 in
set_option maxRecDepth 100000 in
theorem pfault_ok (h : Sat B L w) : Calls Tryz.prog 9 #[.nilIface, .agg #[.int .i64 0, .int .i64 0]] w fun y w' => y = .returned (.bool true) ∧ Sat B L w' := by
  have h2 := h.alloc' zF (n := w.heap.size) rfl
  go_enter Tryz.func9, Tryz.ntmps9
  go_wp2_with fail
  go_ret
  exact ⟨rfl, h2.drop⟩
set_option maxHeartbeats 4000000 in
set_option maxRecDepth 100000 in
theorem pfault_bad (hg : B.cell? ⟨0, 0, none⟩ = some (.iface 122 (.agg #[.pointer (some ⟨12, 26, none⟩)]))) (p : Nat) (c k : Int) (hc : c = 15 ∨ c = 3)
    (h : Sat B (pt p (.cells #[.int .i64 c, .int .i64 k] 46) :: L) w) :
    Calls Tryz.prog 9 #[.iface 43 (.pointer (some ⟨p, 0, none⟩)), .agg #[.int .i64 c, .int .i64 k]] w fun y w' => y = .returned (.bool true) ∧ Sat B (pt p (.cells #[.int .i64 c, .int .i64 k] 46) :: L) w' := by
  have h2 := (h.alloc' (.cells #[.int .i64 c, .int .i64 k] 31) (n := w.heap.size) rfl).alloc' (.cells #[.pointer none] 43) (n := w.heap.size + 1) (by simp)
  have hAs := pas ⟨p, 0, none⟩ _ (.pointer none) hg h2.drew
  have hc0 : (c == 0) = false := by rcases hc with rfl | rfl <;> rfl
  have hc1 : ¬ c = 0 := by rcases hc with rfl | rfl <;> omega
  have his := fun (w' : World) (M : List HP) (h' : Sat B (pt p (.cells #[.int .i64 c, .int .i64 k] 46) :: M) w') => pis c k hc p h'
  have Hc := Lib.hid hc
  clear hc
  go_enter Tryz.func9, Tryz.ntmps9
  go_wp2_with fail
  go_region_with (first
    | (go_at_call 12; refine hAs.mono ?_; rintro e w6 ⟨rfl, h6⟩; have c6 := h6.pt_cell 0; have hp6 := h6.p2; have p60 : w6.cell? ⟨p, 0, none⟩ = some (.int .i64 c) := hp6.pt_cell 0; have p61 : w6.cell? ⟨p, 1, none⟩ = some (.int .i64 k) := hp6.pt_cell 1; have hr6 := h6.swap; have r60 : w6.cell? ⟨w.heap.size, 0, none⟩ = some (.int .i64 c) := hr6.pt_cell 0; have r61 : w6.cell? ⟨w.heap.size, 1, none⟩ = some (.int .i64 k) := hr6.pt_cell 1)
    | (go_at_call 20; refine (his _ _ hp6).mono ?_; rintro e w7 ⟨rfl, rfl⟩))
  all_goals go_wp2_with fail
  all_goals go_ret
  all_goals exact ⟨rfl, hp6.swap.drop.swap.drop⟩
theorem conv_nil (w : World) : (convert 24 9 (.slice none 0 0)).run Tryz.prog w = .ok (.string ⟨#[]⟩) w := by kernel_rfl
set_option maxHeartbeats 8000000 in
set_option maxRecDepth 100000 in
theorem reads_walk (hE : Env w) (hg : w.cell? ⟨0, 0, none⟩ = some (.iface 122 (.agg #[.pointer (some ⟨12, 26, none⟩)]))) (s : ByteArray) :
    Calls Tryz.prog 3 #[.string s] w fun y w' => y = .returned (.bool true) ∧ Below w.heap.size w w' := by
  have hP := pparse hE (Sat.start w) s
  go_enter Tryz.func3, Tryz.ntmps3
  go_wp2_with fail
  refine hP.mono ?_
  rintro y w1 hp
  clear hP
  rcases hp with ⟨a, b, c, d, e, f, g, i, j, raw, ra, m, rc, hpe, rfl, hm, h1⟩ | ⟨c, i, p, hpe, rfl, h1⟩
  · have h2 := h1.alloc' (.cells #[.int .i64 a, .int .i64 b, .int .i64 c, .int .i64 d, .int .i64 e, .int .i64 f, .int .i64 g, .int .i64 i, .int .i64 j] 23) (n := w1.heap.size) rfl
    have hR := rparse s h2
    have Hpe := Lib.hid (And.intro hpe hm)
    clear hpe hm
    go_wp2_with fail
    refine hR.mono ?_
    rintro y w3 hq
    clear hR
    rcases hq with ⟨a', b', c', d', e', f', g', i', j', raw', ra', m', rc', hpe', rfl, hm', h3⟩ | ⟨c', i', hpe', rfl, h3⟩
    · rw [Hpe.out.1] at hpe'
      cases hpe'
      have h4 := (h3.alloc' (.cells #[.int .i64 a, .int .i64 b, .int .i64 c, .int .i64 d, .int .i64 e, .int .i64 f, .int .i64 g, .int .i64 i, .int .i64 j] 23) (n := w3.heap.size) rfl).alloc' zF (n := w3.heap.size + 1) (by simp)
      have p5 := h4.p3.pt_cell
      have q0 := p5 0; have q1 := p5 1; have q2 := p5 2; have q3 := p5 3; have q4 := p5 4; have q5 := p5 5; have q6 := p5 6; have q7 := p5 7; have q8 := p5 8
      simp only [List.getElem?_toArray, List.getElem?_cons_zero, List.getElem?_cons_succ] at q0 q1 q2 q3 q4 q5 q6 q7 q8
      have k1 := conv_row (h4.p4.row_reads) Hpe.out.2
      have k2 := conv_row (h4.p2.row_reads) hm'
      clear p5 hm'
      have hf := pfault_ok h4
      go_wp2_with (first
        | (go_at_call 9; refine hf.mono ?_; rintro e w5 ⟨rfl, h5⟩)
        | (go_at_call 10; refine (pworks (hE.at h5)).mono ?_; rintro e w8 ⟨rfl, hb8⟩; have h8 := h5.of_below hb8))
      go_ret
      exact ⟨rfl, h8.below⟩
    · rw [Hpe.out.1] at hpe'
      cases hpe'
  · have h2 := h1.alloc' zC (n := w1.heap.size) rfl
    have hR := rparse s h2
    have Hpe := Lib.hid hpe
    clear hpe
    go_wp2_with fail
    refine hR.mono ?_
    rintro y w3 hq
    clear hR
    rcases hq with ⟨a', b', c', d', e', f', g', i', j', raw', ra', m', rc', hpe', rfl, hm', h3⟩ | ⟨c', i', hpe', rfl, h3⟩
    · rw [Hpe.out] at hpe'
      cases hpe'
    · rw [Hpe.out] at hpe'
      cases hpe'
      have h4 := (h3.alloc' zC (n := w3.heap.size) rfl).alloc' (.cells #[.int .i64 c, .int .i64 i] 31) (n := w3.heap.size + 1) (by simp)
      have p5 := h4.p2.pt_cell
      have q0 := p5 0; have q1 := p5 1; have q2 := p5 2; have q3 := p5 3; have q4 := p5 4; have q5 := p5 5; have q6 := p5 6; have q7 := p5 7; have q8 := p5 8
      simp only [List.getElem?_toArray, List.getElem?_cons_zero, List.getElem?_cons_succ] at q0 q1 q2 q3 q4 q5 q6 q7 q8
      clear p5
      have k1 := conv_nil
      have hc : c = 15 ∨ c = 3 := by
        have := Hpe.out
        rw [parseL] at this
        split at this
        · cases this; exact .inr rfl
        · exact parse_code _ _ _ this
      have hf := pfault_bad hg p c i hc h4.p3
      go_wp2_with (first
        | (go_at_call 9; refine hf.mono ?_; rintro e w5 ⟨rfl, h5⟩)
        | (go_at_call 10; refine (pworks (hE.at h5)).mono ?_; rintro e w8 ⟨rfl, hb8⟩; have h8 := h5.of_below hb8))
      go_ret
      exact ⟨rfl, h8.below⟩
end
end Go.Proofs.YtjfnkglppldfnaaGreatDoor
