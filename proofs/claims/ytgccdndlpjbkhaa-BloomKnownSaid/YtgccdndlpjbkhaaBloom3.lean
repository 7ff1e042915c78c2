/-
  Bloom: the document's places; Check, of both.
-/
import Derived.Test.YtgccdndlpjbkhaaBloom2
namespace Go.Proofs.Ytgccdndlpjbkhaa
open Go.RowKit
section
variable {B w : World} {L : List HP}

def plcAt (a b m : Int) (i : Nat) : Int := ((a + i * b) % 18446744073709551616) % m
theorem u64_wrap_eq (x : Int) : IntKind.u64.wrap x = x % 18446744073709551616 := by unfold IntKind.wrap; simp [IntKind.signed, IntKind.bits]
theorem plcs_range (b m : Int) : ∀ (k : Nat) (a : Int), 0 ≤ a → a < 18446744073709551616 → plcs a b m k = (List.range k).map (plcAt a b m)
  | 0, _, _, _ => rfl
  | k + 1, a, h0, h1 => by
    rw [List.range_succ_eq_map, plcs, plcs_range b m k _ (u64_wrap_pos _) (by rw [u64_wrap_eq]; omega)]
    simp only [List.map_cons, List.map_map]
    congr 1
    · show a % m = plcAt a b m 0
      unfold plcAt
      rw [Int.natCast_zero, Int.zero_mul, Int.add_zero, Int.emod_eq_of_lt h0 h1]
    · apply List.map_congr_left
      intro i _
      show plcAt _ b m i = plcAt a b m (i + 1)
      unfold plcAt
      congr 1
      rw [u64_wrap_eq, Int.emod_add_emod]
      congr 1
      rw [Int.natCast_add, Int.add_mul]
      omega
theorem hsh_lt (s : ByteArray) (f : Int) (hf : f < 18446744073709551616) : ∀ k, hsh s f k < 18446744073709551616
  | 0 => hf
  | k + 1 => by
    unfold hsh
    split
    · unfold hs1; rw [u64_wrap_eq]; omega
    · exact hsh_lt s f hf k

theorem int_elem : Elem Try.prog 63 3 (.int .i64 0) 1 8 :=
  ⟨Try.underlying63, by kernel_rfl, rfl, by decide, by simp [Value.cells, Value.oneCell']⟩
def i64s (xs : List Int) : List Value := xs.map (Value.int .i64)

set_option maxHeartbeats 1000000 in
theorem rplaces (s : ByteArray) (hs : s.size ≤ 9223372036854775807) (k m : Nat) (hm0 : 0 < m) (hm1 : m ≤ 4294967296) (hk8 : k ≤ 8) (h : Sat B L w) :
    Calls Try.prog 35 #[.string s, .int .i64 k, .int .i64 m] w fun e w' => ∃ a c, e = .returned (.slice a k c) ∧
      Sat B (row 3 1 (.slice a k c) k (i64s (plcs (hA s) (hB s) m k)) :: L) w' := by
  obtain ⟨x, hx⟩ : ∃ x, hA s = x := ⟨_, rfl⟩
  obtain ⟨y, hy⟩ : ∃ y, hB s = y := ⟨_, rfl⟩
  have x0 : 0 ≤ x := by rw [← hx]; exact hsh_pos _ _ (by omega) _
  have x1 : x < 18446744073709551616 := by rw [← hx]; exact hsh_lt _ _ (by omega) _
  have c1 := rhash w s hs 14695981039346656037
  have c2 := rhash w s hs 9521554427338878180
  rw [show hsh s 14695981039346656037 s.size = x from hx] at c1
  rw [show hsh s 9521554427338878180 s.size = y from hy] at c2
  rw [hx, hy, plcs_range _ _ _ _ x0 x1]
  clear hx hy
  have C2 := Lib.hid c2
  clear c2
  have m1 : (m : Int) ≤ 4294967296 := by omega
  have m2 : 0 < (m : Int) := by omega
  have m3 : IntKind.u64.wrap (m : Int) = m := by rw [u64_wrap_eq]; omega
  have m4 : ¬ (m : Int) = 0 := by omega
  go_enter Try.func35, Try.ntmps35
  go_wp2_with fail
  refine c1.mono ?_
  rintro e w1 ⟨rfl, rfl⟩
  clear c1
  go_wp2_with fail
  refine C2.out.mono ?_
  rintro e w1 ⟨rfl, rfl⟩
  clear C2
  go_wp2_with fail
  go_loopg [7, 10] k (fun gh v i wr => ∃ (j : Nat) (a : Option Addr) (c : Nat), j + gh ≤ k ∧ k ≤ j + gh ∧ i = .int .i64 j ∧ v = .slice a j c ∧ Sat B (row 3 1 (.slice a j c) j (i64s ((List.range j).map (plcAt x y m))) :: L) wr)
  case atStart => exact ⟨0, none, 0, by omega, by omega, rfl, rfl, h.row_nil _ _⟩
  case round =>
    obtain ⟨j, a, c, hg1, hg2, rfl, rfl, hs1⟩ := hrel
    clear h
    by_cases hj : j < k
    · have j3 : IntKind.u64.wrap (j : Int) = j := by rw [u64_wrap_eq]; omega
      obtain ⟨v, hv⟩ : ∃ v, IntKind.u64.wrap (x + IntKind.u64.wrap ((j : Int) * y)) = v := ⟨_, rfl⟩
      have v0 : 0 ≤ v := by rw [← hv]; exact u64_wrap_pos _
      have m6 : 0 ≤ v % (m : Int) := Int.emod_nonneg _ m4
      have m7 : v % (m : Int) < m := Int.emod_lt_of_pos _ m2
      have m8 : IntKind.i64.wrap (v % m) = v % m := IntWalk.i64_in _ (by omega)
      have hv2 : plcAt x y m j = v % m := by
        unfold plcAt
        rw [← hv, u64_wrap_eq, u64_wrap_eq, Int.add_emod_emod]
      have Hv2 := Lib.hid hv2
      clear m6 m7 hv2
      have hS1 := (hs1.alloc (.cells #[.int .i64 (v % m)] 3)).swap
      have b3 : j + 1 ≤ maxLen := by unfold maxLen; omega
      have b4 : (j + 1) * 8 ≤ 140737488355328 := by omega
      go_wp2_with (at_builtin; refine wpList_append_to rfl int_elem (.tmp 20) (.tmp 31) rfl _ _ j 1 (j + 1) (i64s ((List.range j).map (plcAt x y m))) [.int .i64 (v % m)] (i64s ((List.range (j + 1)).map (plcAt x y m))) rfl rfl hS1 (reads_new _ _ rfl (by omega)) rfl (by simp [Value.oneCell']) rfl (by rw [List.range_succ]; simp [i64s, Hv2.out]) b3 b4 ?_; intro a1 c1 w1 h1; go_frame)
      go_roundg (gk - 1)
      case measure => omega
      case rel =>
        have h1 : Sat B (row 3 1 (.slice _ (j + 1) _) _ _ :: _ :: L) _ := ‹_›
        exact ⟨j + 1, _, _, by omega, by omega, by go_num, rfl, h1.swap.drop⟩
    · go_wp2_with fail
      go_ret
      obtain rfl : j = k := by omega
      exact ⟨_, _, rfl, hs1⟩

/-- Is it a filter? -/
def okF (f : ByteArray) : Prop := ∃ h : 9 ≤ f.size, f.size ≤ 131073 ∧ 1 ≤ (f[0]'(by omega)).toNat ∧ (f[0]'(by omega)).toNat ≤ 8
open Classical in
/-- The error of what is none. -/
noncomputable def chk (f : ByteArray) : Int := if okF f then 0 else 4

set_option maxHeartbeats 1000000 in
theorem check_any (w : World) (f : ByteArray) (hf : f.size ≤ 9223372036854775807) : Calls Try.prog 30 #[.string f] w fun e w' => e = .returned (.int .i64 (chk f)) ∧ w = w' := by
  by_cases h9 : f.size < 9
  · go_enter Try.func30, Try.ntmps30
    go_wp2
    go_ret
    exact ⟨by rw [chk, if_neg (fun ⟨h, _⟩ => by omega)]; rfl, rfl⟩
  · by_cases h3 : 131073 < f.size
    · go_enter Try.func30, Try.ntmps30
      go_wp2
      go_ret
      exact ⟨by rw [chk, if_neg (fun ⟨_, h, _⟩ => by omega)]; rfl, rfl⟩
    · have f0 : 0 < f.size := by omega
      obtain ⟨u, hu⟩ : ∃ u, f[0] = u := ⟨_, rfl⟩
      by_cases h1 : u.toNat < 1
      · go_enter Try.func30, Try.ntmps30
        go_wp2
        go_ret
        exact ⟨by rw [chk, if_neg (fun ⟨_, _, h, _⟩ => by rw [hu] at h; omega)]; rfl, rfl⟩
      · by_cases h8 : 8 < u.toNat
        · go_enter Try.func30, Try.ntmps30
          go_wp2
          go_ret
          exact ⟨by rw [chk, if_neg (fun ⟨_, _, _, h⟩ => by rw [hu] at h; omega)]; rfl, rfl⟩
        · go_enter Try.func30, Try.ntmps30
          go_wp2
          go_ret
          exact ⟨by rw [chk, if_pos ⟨by omega, by omega, by rw [hu]; omega, by rw [hu]; omega⟩]; rfl, rfl⟩
end
end Go.Proofs.Ytgccdndlpjbkhaa
