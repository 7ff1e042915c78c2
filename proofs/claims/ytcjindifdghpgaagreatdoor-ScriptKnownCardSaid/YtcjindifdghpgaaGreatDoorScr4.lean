/-
  Script: the document's digits; a setup's line.
-/
import Derived.Test.YtcjindifdghpgaaGreatDoorScr3
import Derived.Test.YtcjindifdghpgaaGreatDoorScrS
namespace Go.Proofs.YtcjindifdghpgaaGreatDoor
open Go.RowKit
section
variable {B w : World} {L : List HP}
theorem conv1 (w : World) (b : Nat) (x : UInt8) (h : w.cell? ⟨b, 0, none⟩ = some (.int .u8 x.toNat)) : (convert 23 9 (.slice (some ⟨b, 0, none⟩) 1 1)).run Tryz.prog w = .ok (.string ⟨#[x]⟩) w := by
  have := run_convert_bytes_back (P := Tryz.prog) w 23 9 5 ⟨b, 0, none⟩ 1 [x] Tryz.underlying23 Tryz.underlying5 Tryz.underlying9 (fun j hj => by
    have : j = 0 := by simpa using hj
    subst this
    exact h)
  simpa using this
theorem bcat (a b : Bs) : (⟨a.toArray⟩ : ByteArray) ++ ⟨b.toArray⟩ = ⟨(a ++ b).toArray⟩ := by
  apply ByteArray.ext
  simp
theorem below_drew {w w' : World} (h : Below w.drew.heap.size w.drew w') : Below w.heap.size w w' := ⟨h.os, h.tape, h.output, h.size, h.block⟩
theorem below_alloc {w w' : World} {o : Obj} (h : Below (w.alloc o).heap.size (w.alloc o) w') : Below w.heap.size w w' :=
  ((Below.refl _ w).alloc (Nat.le_refl _) o).trans (h.mono (by simp))
theorem dec_step (u v r : Nat) (h : ¬ u < 10) (hv : u / 10 = v) (hr : u % 10 = r) : Lib.decDigits u = Lib.decDigits v ++ [UInt8.ofNat (48 + r)] := by
  rw [Lib.decDigits, dif_neg h, hv, hr]
set_option maxHeartbeats 1000000 in
set_option maxRecDepth 100000 in
theorem rdigits : ∀ (u : Nat), u < 18446744073709551616 → ∀ w : World, Calls Tryz.prog 47 #[.int .u64 u] w fun e w' => e = .returned (.string ⟨(Lib.decDigits u).toArray⟩) ∧ Below w.heap.size w w' := by
  intro u
  induction u using Nat.strongRecOn with
  | _ u ih =>
    intro hu w
    by_cases h10 : u < 10
    · have e1 : IntKind.u8.wrap (u : Int) = u := by rw [IntKind.wrap_u8]; omega
      have e2 : IntKind.u8.wrap (48 + (u : Int)) = 48 + u := by rw [IntKind.wrap_u8]; omega
      obtain ⟨x, hx⟩ : ∃ x : UInt8, UInt8.ofNat (48 + u) = x := ⟨_, rfl⟩
      have hxn : (x.toNat : Int) = 48 + u := by rw [← hx, UInt8.toNat_ofNat']; omega
      have hcv := conv1 (w.alloc (.cells #[.int .u8 (48 + (u : Int))] 5)) w.heap.size x (by rw [World.cell?_alloc_new, hxn]; rfl)
      have Hx := Lib.hid hx
      clear hx hxn
      go_enter Tryz.func47, Tryz.ntmps47
      go_wp2_with fail
      go_ret
      refine ⟨by rw [Lib.decDigits_one h10, Hx.out]; rfl, (Below.refl _ w).alloc (Nat.le_refl _) _⟩
    · obtain ⟨v, hv⟩ : ∃ v, u / 10 = v := ⟨_, rfl⟩
      obtain ⟨r, hr⟩ : ∃ r, u % 10 = r := ⟨_, rfl⟩
      have hr10 : r < 10 := by omega
      have ihv := ih v (by omega) (by omega)
      obtain ⟨n5, hn5⟩ : ∃ n, (Lib.decDigits v).length = n := ⟨_, rfl⟩
      have hn6 : n5 ≤ 20 := by rw [← hn5]; exact dec_len v (by omega)
      have hn7 : (⟨(Lib.decDigits v).toArray⟩ : ByteArray).size = n5 := hn5
      have e0 : (u : Int) / 10 = v := by omega
      have e1 : IntKind.u64.wrap (v : Int) = v := by rw [IntKind.wrap_u64]; omega
      have e2 : (u : Int).tmod 10 = r := by rw [Int.tmod_eq_emod_of_nonneg (by omega)]; omega
      have e3 : IntKind.u8.wrap (r : Int) = r := by rw [IntKind.wrap_u8]; omega
      have e4 : IntKind.u8.wrap (48 + (r : Int)) = 48 + r := by rw [IntKind.wrap_u8]; omega
      obtain ⟨x, hx⟩ : ∃ x : UInt8, UInt8.ofNat (48 + r) = x := ⟨_, rfl⟩
      have hxn : (x.toNat : Int) = 48 + r := by rw [← hx, UInt8.toNat_ofNat']; omega
      have hc0 : ∀ W : World, (W.alloc (.cells #[.int .u8 (48 + (r : Int))] 5)).cell? ⟨W.heap.size, 0, none⟩ = some (.int .u8 x.toNat) := fun W => by rw [World.cell?_alloc_new, hxn]; rfl
      have hcv := fun W : World => conv1 (W.alloc (.cells #[.int .u8 (48 + (r : Int))] 5)) W.heap.size x (hc0 W)
      have hcvd := fun W : World => conv1 (W.alloc (.cells #[.int .u8 (48 + (r : Int))] 5)).drew W.heap.size x (hc0 W)
      have Hx := Lib.hid hx
      have Hd := Lib.hid (And.intro hv hr)
      clear hx hv hr ih
      go_enter Tryz.func47, Tryz.ntmps47
      go_wp2_with fail
      go_region_with (go_at_call 47; refine (ihv _).mono ?_; rintro e w2 ⟨rfl, hb⟩; try (have hcv2 := conv1 w2 w.heap.size x (cell_below hb (hc0 w))))
      all_goals
        go_wp2_with fail
        go_ret
        refine ⟨?_, ?_⟩
        · rw [dec_step u v r h10 Hd.out.1 Hd.out.2, Hx.out, ← bcat]; rfl
        · first | exact (below_drew hb).alloc (below_drew hb).size _ | exact below_alloc (below_drew hb)
end
end Go.Proofs.YtcjindifdghpgaaGreatDoor
