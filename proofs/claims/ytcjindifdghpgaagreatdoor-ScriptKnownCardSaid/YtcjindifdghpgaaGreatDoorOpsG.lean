/-
  Script: ScriptLines' walk.
-/
import Derived.Test.YtcjindifdghpgaaGreatDoorOpsB
import Derived.Test.YtcjindifdghpgaaGreatDoorOpsF
import Derived.Test.YtcjindifdghpgaaGreatDoorEvB
import Derived.Deep.RegionWith
namespace Go.Proofs.YtcjindifdghpgaaGreatDoor
set_option linter.all false
open Go.RowKit
section
variable {B w : World} {L : List HP}
set_option maxHeartbeats 4000000 in
set_option maxRecDepth 100000 in
theorem pfault_line (hg : B.cell? ⟨0, 0, none⟩ = some (.iface 114 (.agg #[.pointer (some ⟨12, 33, none⟩)]))) (p : Nat) (c k : Int) (hc : c = 15 ∨ c = 3)
    (h : Sat B (pt p (.cells #[.int .i64 c, .int .i64 k] 40) :: L) w) :
    Calls Tryz.prog 17 #[.iface 36 (.pointer (some ⟨p, 0, none⟩)), .agg #[.int .i64 c, .int .i64 k]] w fun y w' => y = .returned (.bool true) ∧ Sat B (pt p (.cells #[.int .i64 c, .int .i64 k] 40) :: L) w' := by
  have h2 := (h.alloc' (.cells #[.int .i64 c, .int .i64 k] 58) (n := w.heap.size) rfl).alloc' (.cells #[.pointer none] 36) (n := w.heap.size + 1) (by simp)
  have hAs := pas ⟨p, 0, none⟩ _ (.pointer none) hg h2.drew
  have hc0 : (c == 0) = false := by rcases hc with rfl | rfl <;> rfl
  have hc1 : ¬ c = 0 := by rcases hc with rfl | rfl <;> omega
  have his := fun (w' : World) (M : List HP) (h' : Sat B (pt p (.cells #[.int .i64 c, .int .i64 k] 40) :: M) w') => pis c k hc p h'
  have Hc := Lib.hid hc
  clear hc
  go_enter Tryz.func17, Tryz.ntmps17
  go_wp2_with fail
  go_region_with (first
    | (go_at_call 8; refine hAs.mono ?_; rintro e w6 ⟨rfl, h6⟩; have c6 := h6.pt_cell 0; have hp6 := h6.p2; have p60 : w6.cell? ⟨p, 0, none⟩ = some (.int .i64 c) := hp6.pt_cell 0; have p61 : w6.cell? ⟨p, 1, none⟩ = some (.int .i64 k) := hp6.pt_cell 1; have hr6 := h6.swap; have r60 : w6.cell? ⟨w.heap.size, 0, none⟩ = some (.int .i64 c) := hr6.pt_cell 0; have r61 : w6.cell? ⟨w.heap.size, 1, none⟩ = some (.int .i64 k) := hr6.pt_cell 1)
    | (go_at_call 18; refine (his _ _ hp6).mono ?_; rintro e w7 ⟨rfl, rfl⟩))
  all_goals go_wp2_with fail
  all_goals go_ret
  all_goals exact ⟨rfl, hp6.swap.drop.swap.drop⟩
abbrev zO : Array Value := opC 0 (bA []) (bA []) (bA []) false (bA [])
/-- What both OpTexts answer. -/
def otV (k : Int) (r c v : ByteArray) (has : Bool) (e : ByteArray) : ByteArray × Int := if mayOp k r.data.toList c.data.toList v.data.toList has e.data.toList = true then (⟨(opLine k r.data.toList c.data.toList v.data.toList has e.data.toList).toArray⟩, 0) else (⟨#[]⟩, 2)
theorem popText3 (hF : EnvF B) (k : Int) (r c v : ByteArray) (has : Bool) (e : ByteArray) (hS : Sat B L w) :
    Calls Tryz.prog 10 #[.agg (opC k r c v has e)] w fun y w' => y = .returned (.tuple #[.string (otV k r c v has e).1, .int .i64 (otV k r c v has e).2]) ∧ Sat B L w' := by
  refine (popText hF k r c v has e hS).mono ?_
  rintro y w' ⟨rfl, h⟩
  refine ⟨?_, h⟩
  unfold otV
  split <;> rfl
theorem ropText3 (k : Int) (r c v : ByteArray) (has : Bool) (e : ByteArray) (hS : Sat B L w) :
    Calls Tryz.prog 13 #[.agg (opC k r c v has e)] w fun y w' => y = .returned (.tuple #[.string (otV k r c v has e).1, .int .i64 (otV k r c v has e).2]) ∧ Sat B L w' := by
  refine (ropText k r c v has e hS).mono ?_
  rintro y w' ⟨rfl, h⟩
  refine ⟨?_, h⟩
  unfold otV
  split <;> rfl
set_option maxHeartbeats 8000000 in
set_option maxRecDepth 100000 in
theorem lines_walk (hE : Env w) (hF : EnvF w) (hg : w.cell? ⟨0, 0, none⟩ = some (.iface 114 (.agg #[.pointer (some ⟨12, 33, none⟩)])))
    (k : Int) (r c v : ByteArray) (has : Bool) (e : ByteArray) (cl : Int) (sq : Nat) (call : Bool) (k2 : Int) (r2 c2 v2 : ByteArray) (has2 : Bool) (e2 : ByteArray) (er : Int) (found : Bool) (rr rv : ByteArray) (ver : Nat) (s : ByteArray) (hs : s.size ≤ 2000000) :
    Calls Tryz.prog 4 #[.agg (opC k r c v has e), .agg (evC cl sq call k2 r2 c2 v2 has2 e2 er found rr rv ver), .string s] w
      fun y w' => y = .returned (.bool true) ∧ Below w.heap.size w w' := by
  have h0 := Sat.start w
  have h1 := (h0.alloc' (.cells (opC k r c v has e) 42) (n := w.heap.size) rfl).alloc' (.cells (evC cl sq call k2 r2 c2 v2 has2 e2 er found rr rv ver) 53) (n := w.heap.size + 1) (by simp)
  have hp1 := popText3 hF k r c v has e h1
  have hp2 := fun (M : List HP) (w' : World) (h' : Sat w M w') => ropText3 k r c v has e h'
  have hp3 := fun (M : List HP) (w' : World) (h' : Sat w M w') => pevent hE hF cl sq call k2 r2 c2 v2 has2 e2 er found rr rv ver h'
  have hp4 := fun (M : List HP) (w' : World) (h' : Sat w M w') => revent cl sq call k2 r2 c2 v2 has2 e2 er found rr rv ver h'
  unfold evV at hp3 hp4
  generalize otV k r c v has e = ot at hp1 hp2
  generalize evT cl sq call k2 r2 c2 v2 has2 e2 er found rr rv ver = ev at hp3 hp4
  obtain ⟨o1, o2⟩ := ot
  obtain ⟨v1, v2x⟩ := ev
  dsimp only at hp1 hp2 hp3 hp4
  obtain ⟨vs, hvs⟩ : ∃ vs : ByteArray, (⟨v1.toArray⟩ : ByteArray) = vs := ⟨_, rfl⟩
  rw [hvs] at hp3 hp4
  clear hvs h0
  have hp5 := fun (M : List HP) (w' : World) (h' : Sat w M w') => pOp hE hF s hs h'
  have hp6 := fun (M : List HP) (w' : World) (h' : Sat w M w') => rOp (B := w) (L := M) (w := w') s h'
  have hrd := opR_read s.data.toList
  go_enter Tryz.func4, Tryz.ntmps4
  go_wp2_with (first
    | (go_at_call 10; refine hp1.mono ?_; rintro y w2 ⟨rfl, h2⟩; have p9 := h2.swap.pt_cell; have x0 := p9 0; have x1 := p9 1; have x2 := p9 2; have x3 := p9 3; have x4 := p9 4; have x5 := p9 5; simp only [List.getElem?_toArray, List.getElem?_cons_zero, List.getElem?_cons_succ] at x0 x1 x2 x3 x4 x5; clear p9)
    | (go_at_call 13; refine (hp2 _ _ h2).mono ?_; rintro y w3 ⟨rfl, h3⟩; have p9 := h3.pt_cell; have x0 := p9 0; have x1 := p9 1; have x2 := p9 2; have x3 := p9 3; have x4 := p9 4; have x5 := p9 5; have x6 := p9 6; have x7 := p9 7; have x8 := p9 8; have x9 := p9 9; have x10 := p9 10; have x11 := p9 11; have x12 := p9 12; have x13 := p9 13; simp only [List.getElem?_toArray, List.getElem?_cons_zero, List.getElem?_cons_succ] at x0 x1 x2 x3 x4 x5 x6 x7 x8 x9 x10 x11 x12 x13; clear p9)
    | (go_at_call 14; refine (hp3 _ _ h3).mono ?_; rintro y w4 ⟨rfl, h4⟩; have p9 := h4.pt_cell; have x0 := p9 0; have x1 := p9 1; have x2 := p9 2; have x3 := p9 3; have x4 := p9 4; have x5 := p9 5; have x6 := p9 6; have x7 := p9 7; have x8 := p9 8; have x9 := p9 9; have x10 := p9 10; have x11 := p9 11; have x12 := p9 12; have x13 := p9 13; simp only [List.getElem?_toArray, List.getElem?_cons_zero, List.getElem?_cons_succ] at x0 x1 x2 x3 x4 x5 x6 x7 x8 x9 x10 x11 x12 x13; clear p9)
    | (go_at_call 15; refine (hp4 _ _ h4).mono ?_; rintro y w5 ⟨rfl, h5⟩))
  refine (hp5 _ _ h5).mono ?_
  rintro y w6 ho
  clear hp1 hp2 hp3 hp4 hp5
  rcases ho with ⟨k', r', c', v', has', e', hr, rfl, h6⟩ | ⟨hr, p, rfl, h6⟩
  · have hR := hp6 _ _ (h6.alloc' (.cells (opC k' (bA r') (bA c') (bA v') has' (bA e')) 42) (n := w6.heap.size) rfl)
    have Hr := Lib.hid (And.intro hr hrd)
    clear hr hrd hp6
    go_wp2_with fail
    refine hR.mono ?_
    rintro y w7 ho
    rcases ho with ⟨k3, r3, c3, v3, has3, e3, hr3, rfl, h7⟩ | ⟨hr3, rfl, h7⟩
    · rw [Hr.out.2, Hr.out.1] at hr3
      cases hr3
      have h8 := h7.alloc' (.cells (opC k' (bA r') (bA c') (bA v') has' (bA e')) 42) (n := w7.heap.size) rfl
      have p9 := h8.pt_cell
      have i0 := p9 0; have i1 := p9 1; have i2 := p9 2; have i3 := p9 3; have i4 := p9 4; have i5 := p9 5
      have p8 := h8.swap.pt_cell
      have j0 := p8 0; have j1 := p8 1; have j2 := p8 2; have j3 := p8 3; have j4 := p8 4; have j5 := p8 5
      simp only [List.getElem?_toArray, List.getElem?_cons_zero, List.getElem?_cons_succ] at i0 i1 i2 i3 i4 i5 j0 j1 j2 j3 j4 j5
      clear p9 p8 hR
      go_wp2_with (go_at_call 12; refine (pworks (hE.at h8)).mono ?_; rintro y w13 ⟨rfl, hb13⟩; have h13 := h8.of_below hb13)
      go_ret
      exact ⟨rfl, h13.below⟩
    · rw [Hr.out.2, Hr.out.1] at hr3
      cases hr3
  · have hR := hp6 _ _ (h6.alloc' (.cells zO 42) (n := w6.heap.size) rfl)
    have Hr := Lib.hid (And.intro hr hrd)
    clear hr hrd hp6
    go_wp2_with fail
    refine hR.mono ?_
    rintro y w7 ho
    rcases ho with ⟨k3, r3, c3, v3, has3, e3, hr3, rfl, h7⟩ | ⟨hr3, rfl, h7⟩
    · rw [Hr.out.2, Hr.out.1] at hr3
      cases hr3
    · have h8 := h7.alloc' (.cells zO 42) (n := w7.heap.size) rfl
      have p9 := h8.pt_cell
      have i0 := p9 0; have i1 := p9 1; have i2 := p9 2; have i3 := p9 3; have i4 := p9 4; have i5 := p9 5
      have p8 := h8.swap.pt_cell
      have j0 := p8 0; have j1 := p8 1; have j2 := p8 2; have j3 := p8 3; have j4 := p8 4; have j5 := p8 5
      simp only [List.getElem?_toArray, List.getElem?_cons_zero, List.getElem?_cons_succ] at i0 i1 i2 i3 i4 i5 j0 j1 j2 j3 j4 j5
      clear p9 p8 hR
      have hf := pfault_line hg p 15 0 (.inl rfl) h8.p2
      go_wp2_with (first
        | (go_at_call 17; refine hf.mono ?_; rintro y w9 ⟨rfl, h9⟩)
        | (go_at_call 12; refine (pworks (hE.at h9)).mono ?_; rintro y w13 ⟨rfl, hb13⟩; have h13 := h9.of_below hb13))
      go_ret
      exact ⟨rfl, h13.below⟩
end
end Go.Proofs.YtcjindifdghpgaaGreatDoor
