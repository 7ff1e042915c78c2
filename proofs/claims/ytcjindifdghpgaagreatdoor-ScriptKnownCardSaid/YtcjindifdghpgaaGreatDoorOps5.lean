/-
  script.bytes, script.read$1 (the next word): contracts.
-/
import Derived.Test.YtcjindifdghpgaaGreatDoorOps4
import Derived.Test.YtcjindifdghpgaaGreatDoorScrA
namespace Go.Proofs.YtcjindifdghpgaaGreatDoor
set_option linter.all false
open Go.RowKit
section
variable {B w : World} {L : List HP}
/-- The bytes of a word. -/
def unwordL (s : Bs) : Option Bs := if s = [45] then some [] else match unhexL s with
  | none => none
  | some b => if b = [] then none else some b
/-- What bytes answers. -/
def bytesRes (s : Bs) (B : World) (L : List HP) (y : Ending) (w' : World) : Prop :=
  ((∃ b, unwordL s = some b ∧ y = .returned (.string ⟨b.toArray⟩)) ∨ (unwordL s = none ∧ y = gives 15)) ∧ Sat B L w'
set_option maxHeartbeats 1000000 in
set_option maxRecDepth 100000 in
theorem pbytes (s : ByteArray) (hs : s.size ≤ 140737488355328) (h : Sat B L w) : Calls Tryz.prog 66 #[.string s] w (bytesRes s.data.toList B L) := by
  have hu := punhex s hs h
  have hl : s.toList = s.data.toList := Lib.toList_data s
  obtain ⟨S, hS⟩ : ∃ S, s.data.toList = S := ⟨_, rfl⟩
  rw [hS] at hu hl ⊢
  clear hS
  by_cases h1 : S = [45]
  · have hb : (s.toList == [45]) = true := by rw [hl, h1]; rfl
    have H := Lib.hid (show unwordL S = some [] by rw [unwordL, if_pos h1])
    clear hl h1
    go_enter Tryz.func66, Tryz.ntmps66
    go_wp2_with fail
    go_ret
    exact ⟨.inl ⟨[], H.out, rfl⟩, h⟩
  · have hb : (s.toList == [45]) = false := by rw [hl]; simpa using h1
    have H0 : unwordL S = match unhexL S with | none => none | some b => if b = [] then none else some b := by rw [unwordL, if_neg h1]
    obtain ⟨ub, hub⟩ : ∃ ub, unhexL S = ub := ⟨_, rfl⟩
    rw [hub] at hu H0
    have H := Lib.hid H0
    clear hl h1 hub H0
    cases ub with
    | none =>
      go_enter Tryz.func66, Tryz.ntmps66
      go_wp2_with (first
        | (go_at_call 30; refine hu.mono ?_; rintro y w1 ⟨rfl, h2⟩)
        | (go_at_call 31; refine (pgive _ _).mono ?_; rintro y w' ⟨rfl, rfl⟩))
      exact ⟨rfl, .inr ⟨H.out, rfl⟩, h2⟩
    | some b =>
      by_cases hb0 : b = []
      · subst hb0
        go_enter Tryz.func66, Tryz.ntmps66
        go_wp2_with (first
          | (go_at_call 30; refine hu.mono ?_; rintro y w1 ⟨rfl, h2⟩)
          | (go_at_call 31; refine (pgive _ _).mono ?_; rintro y w' ⟨rfl, rfl⟩))
        exact ⟨rfl, .inr ⟨H.out, rfl⟩, h2⟩
      · have hbe : List.isEmpty b = false := by (cases b with | nil => exact absurd rfl hb0 | cons _ _ => rfl)
        go_enter Tryz.func66, Tryz.ntmps66
        go_wp2_with (go_at_call 30; refine hu.mono ?_; rintro y w1 ⟨rfl, h2⟩)
        go_ret
        exact ⟨.inl ⟨b, by rw [H.out]; exact if_neg hb0, rfl⟩, h2⟩
/-- The words, of which m are left (from the i-th on). -/
def nst (b g N o m : Nat) (ws : List Bs) (L : List HP) : List HP :=
  pt b (.cells #[.slice (some ⟨g, o, none⟩) m m] 60) :: row 9 1 (.slice (some ⟨g, 0, none⟩) N N) N (strL ws) :: L
/-- What the next word is. -/
def nextRes (b g N i o m : Nat) (ws : List Bs) (B : World) (L : List HP) (y : Ending) (w' : World) : Prop :=
  (m = 0 ∧ y = gives 15 ∧ Sat B (nst b g N o m ws L) w') ∨
  (∃ (p : Bs) (m' o' : Nat), m = m' + 1 ∧ ws[i]? = some p ∧ y = .returned (.string ⟨p.toArray⟩) ∧ (0 < m' → o' = i + 1) ∧ Sat B (nst b g N o' m' ws L) w')
set_option maxHeartbeats 1000000 in
set_option maxRecDepth 100000 in
theorem pnext (b g N i o m : Nat) (ws : List Bs) (hw : ws.length = N) (hi : i + m = N) (ho : 0 < m → o = i) (hN : N ≤ 3000000) (h : Sat B (nst b g N o m ws L) w) :
    Calls Tryz.prog 65 #[.pointer (some ⟨b, 0, none⟩)] w (nextRes b g N i o m ws B L) := by
  have c0 : w.cell? ⟨b, 0, none⟩ = some (.slice (some ⟨g, o, none⟩) m m) := h.pt_cell 0
  have f0 : w.frozen? ⟨b, 0, none⟩ = false := h.pt_free 0
  by_cases hm : m = 0
  · subst hm
    go_enter Tryz.func65, Tryz.ntmps65
    go_wp2_with (go_at_call 31; refine (pgive _ _).mono ?_; rintro y w' ⟨rfl, rfl⟩)
    exact ⟨rfl, .inl ⟨rfl, rfl, h⟩⟩
  · obtain ⟨p, hp⟩ : ∃ p, ws[i]? = some p := ⟨_, List.getElem?_eq_getElem (by omega)⟩
    have hoi := ho (by omega)
    obtain ⟨sp, hsp⟩ : ∃ sp : ByteArray, sp = ⟨p.toArray⟩ := ⟨_, rfl⟩
    have c1 : w.cell? ⟨g, o, none⟩ = some (.string sp) := by
      have := row_cell_at h.swap i (.string sp) (by rw [hsp]; simp [strL, hp])
      simpa [hoi] using this
    have Hp := Lib.hid (And.intro hp (And.intro hsp hoi))
    have Hi := Lib.hid (And.intro hw hi)
    clear hp hsp hoi ho hw hi
    by_cases h1 : m = 1
    · subst h1
      have hS := h.set (j := 0) (.slice (some ⟨g, o, none⟩) 0 0)
      go_enter Tryz.func65, Tryz.ntmps65
      go_wp2_with fail
      go_ret
      exact .inr ⟨p, 0, o, rfl, Hp.out.1, by rw [← Hp.out.2.1]; rfl, fun e => by omega, hS⟩
    · obtain ⟨m', hm'⟩ : ∃ m', m - 1 = m' := ⟨_, rfl⟩
      have hS := h.set (j := 0) (.slice (some ⟨g, o + 1, none⟩) m' m')
      have h2 : (1 : Int) ≤ m := by omega
      have h3 : ¬ (m : Int) = 0 := by omega
      have h4 : (m : Int) - 1 = m' := by omega
      have h5 : 1 ≤ m := by omega
      have h6 : (0 : Int) < m := by omega
      go_enter Tryz.func65, Tryz.ntmps65
      go_wp2_with fail
      go_ret
      exact .inr ⟨p, m', o + 1, by omega, Hp.out.1, by rw [← Hp.out.2.1]; rfl, fun e => by rw [Hp.out.2.2], hS⟩
end
end Go.Proofs.YtcjindifdghpgaaGreatDoor
