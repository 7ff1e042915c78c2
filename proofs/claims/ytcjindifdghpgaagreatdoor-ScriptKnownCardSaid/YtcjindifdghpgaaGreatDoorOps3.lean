/-
  script.name, script.word: contracts.
-/
import Derived.Test.YtcjindifdghpgaaGreatDoorOps2
import Derived.Test.YtcjindifdghpgaaGreatDoorScr3
import Derived.Test.YtcjindifdghpgaaGreatDoorScr1
namespace Go.Proofs.YtcjindifdghpgaaGreatDoor
set_option linter.all false
open Go.RowKit
section
variable {B w : World} {L : List HP}
/-- The table that strings.Fields reads. -/
def EnvF (B : World) : Prop := Lib.TabIs Tryz.prog B "strings.asciiSpace" .u8 Lib.asciiSpaceTab
theorem EnvF.at (hF : EnvF B) (h : Sat B L w) : EnvF w := tab_below h.below hF
abbrev wPut : Bs := [112, 117, 116]
abbrev wGet : Bs := [103, 101, 116]
abbrev wDel : Bs := [100, 101, 108]
abbrev wCheck : Bs := [99, 104, 101, 99, 107]
abbrev wSeek : Bs := [115, 101, 101, 107]
/-- The name of a kind. -/
def nameL (k : Int) : Bs := if k = 1 then wPut else if k = 2 then wGet else if k = 3 then wDel else if k = 4 then wCheck else if k = 5 then wSeek else []
abbrev kindsB : ByteArray := ⟨#[32, 112, 117, 116, 32, 103, 101, 116, 32, 100, 101, 108, 32, 99, 104, 101, 99, 107, 32, 115, 101, 101, 107, 32]⟩
theorem kinds_fields : Lib.fields kindsB.data.toList = [wPut, wGet, wDel, wCheck, wSeek] := by decide +kernel
theorem pfields (hF : EnvF B) (h : Sat B L w) : Calls Tryz.prog 63 #[.string kindsB] w fun y w' => ∃ g, y = .returned (.slice (some ⟨g, 0, none⟩) 5 5) ∧
    Sat B (pt g (.cells #[.string ⟨#[112, 117, 116]⟩, .string ⟨#[103, 101, 116]⟩, .string ⟨#[100, 101, 108]⟩, .string ⟨#[99, 104, 101, 99, 107]⟩, .string ⟨#[115, 101, 101, 107]⟩] 9) :: L) w' := by
  refine (Tryz.strings_Fields kindsB w (by decide) (fun j b hj => ?_) (hF.at h)).mono ?_
  · have : ∀ b ∈ kindsB.data.toList, b.toNat < 128 := by decide +kernel
    exact this b (List.mem_of_getElem? hj)
  · rintro y w' ⟨rfl, rfl⟩
    rw [kinds_fields]
    exact ⟨_, rfl, h.alloc _⟩
set_option maxHeartbeats 1000000 in
set_option maxRecDepth 100000 in
theorem pname (hF : EnvF B) (k : Int) (h : Sat B L w) : Calls Tryz.prog 37 #[.int .i64 k] w fun y w' => y = .returned (.string ⟨(nameL k).toArray⟩) ∧ Sat B L w' := by
  have hf := pfields hF h
  by_cases hk : 1 ≤ k ∧ k ≤ 5
  · have hk5 : k = 1 ∨ k = 2 ∨ k = 3 ∨ k = 4 ∨ k = 5 := by omega
    rcases hk5 with rfl | rfl | rfl | rfl | rfl
    all_goals
      clear hk
      go_enter Tryz.func37, Tryz.ntmps37
      go_wp2_with (go_at_call 63; refine hf.mono ?_; rintro y w1 ⟨g, rfl, h1⟩; have p1 := h1.pt_cell; have z0 := p1 0; have z1 := p1 1; have z2 := p1 2; have z3 := p1 3; have z4 := p1 4; simp only [List.getElem?_toArray, List.getElem?_cons_zero, List.getElem?_cons_succ] at z0 z1 z2 z3 z4; clear p1)
      go_ret
      exact ⟨rfl, h1.drop⟩
  · have hn : nameL k = [] := by unfold nameL; (repeat' split) <;> first | rfl | omega
    have Hn := Lib.hid hn
    have hk2 : k < 1 ∨ 5 < k := by omega
    clear hn hk
    rcases hk2 with hk2 | hk2
    all_goals
      (try have hk3 : ¬ k < 1 := by omega)
      go_enter Tryz.func37, Tryz.ntmps37
      go_wp2_with (go_at_call 63; refine hf.mono ?_; rintro y w1 ⟨g, rfl, h1⟩)
      go_ret
      exact ⟨by rw [Hn.out]; rfl, h1.drop⟩
theorem pword (s : ByteArray) (hs : s.size ≤ 35184372088832) (h : Sat B L w) : Calls Tryz.prog 38 #[.string s] w fun y w' => y = .returned (.string ⟨(wordL s.data.toList).toArray⟩) ∧ Sat B L w' := by
  have hh := phex s hs h
  by_cases he : s.data.toList = []
  · have hw : wordL s.data.toList = [45] := by rw [wordL, if_pos he]
    have Hw := Lib.hid hw
    have h1 : s.toList = [] := by rw [show s.toList = s.data.toList from Lib.toList_data s]; exact he
    have h2 : s.toList.isEmpty = true := by rw [h1]; rfl
    clear hw he
    go_enter Tryz.func38, Tryz.ntmps38
    go_wp2_with fail
    go_ret
    exact ⟨by rw [Hw.out]; rfl, h⟩
  · have hw : wordL s.data.toList = hexL s.data.toList := by rw [wordL, if_neg he]
    have Hw := Lib.hid hw
    have h1 : s.toList ≠ [] := by rw [show s.toList = s.data.toList from Lib.toList_data s]; exact he
    have h2 : s.toList.isEmpty = false := by (cases h : s.toList with | nil => exact absurd h h1 | cons _ _ => rfl)
    clear hw he
    go_enter Tryz.func38, Tryz.ntmps38
    go_wp2_with (go_at_call 24; refine hh.mono ?_; rintro y w1 ⟨rfl, h3⟩)
    go_ret
    exact ⟨by rw [Hw.out]; rfl, h3⟩
end
end Go.Proofs.YtcjindifdghpgaaGreatDoor
