/-
  Bloom: Has, the document's.
-/
import Derived.Test.YtgccdndlpjbkhaaBloom3
namespace Go.Proofs.Ytgccdndlpjbkhaa
open Go.RowKit
section
variable {B w : World} {L : List HP}
set_option maxHeartbeats 1000000 in
theorem rcheck_any (w : World) (f : ByteArray) (hf : f.size ≤ 9223372036854775807) : Calls Try.prog 31 #[.string f] w fun e w' => e = .returned (.int .i64 (chk f)) ∧ w = w' := by
  by_cases h9 : f.size < 9
  · go_enter Try.func31, Try.ntmps31
    go_wp2
    go_ret
    exact ⟨by rw [chk, if_neg (fun ⟨h, _⟩ => by omega)]; rfl, rfl⟩
  · by_cases h3 : 131073 < f.size
    · go_enter Try.func31, Try.ntmps31
      go_wp2
      go_ret
      exact ⟨by rw [chk, if_neg (fun ⟨_, h, _⟩ => by omega)]; rfl, rfl⟩
    · have f0 : 0 < f.size := by omega
      obtain ⟨u, hu⟩ : ∃ u, f[0] = u := ⟨_, rfl⟩
      by_cases h1 : u.toNat < 1
      · go_enter Try.func31, Try.ntmps31
        go_wp2
        go_ret
        exact ⟨by rw [chk, if_neg (fun ⟨_, _, h, _⟩ => by rw [hu] at h; omega)]; rfl, rfl⟩
      · by_cases h8 : 8 < u.toNat
        · go_enter Try.func31, Try.ntmps31
          go_wp2
          go_ret
          exact ⟨by rw [chk, if_neg (fun ⟨_, _, _, h⟩ => by rw [hu] at h; omega)]; rfl, rfl⟩
        · go_enter Try.func31, Try.ntmps31
          go_wp2
          go_ret
          exact ⟨by rw [chk, if_pos ⟨by omega, by omega, by rw [hu]; omega, by rw [hu]; omega⟩]; rfl, rfl⟩

theorem plcs_len (b m : Int) : ∀ (k : Nat) (a : Int), (plcs a b m k).length = k
  | 0, _ => rfl
  | k + 1, a => by rw [plcs, List.length_cons, plcs_len b m k]
theorem plcs_in {m : Int} (b : Int) (hm : 0 < m) : ∀ (k : Nat) (a : Int), ∀ p ∈ plcs a b m k, 0 ≤ p ∧ p < m
  | 0, _, p, h => by simp [plcs] at h
  | k + 1, a, p, h => by
    rw [plcs] at h
    rcases List.mem_cons.1 h with h | h
    · subst h; exact ⟨Int.emod_nonneg _ (by omega), Int.emod_lt_of_pos _ hm⟩
    · exact plcs_in b hm k _ p h

def byteAt (f : ByteArray) (D : Nat) : Int := if h : D < f.size then (f[D].toNat : Int) else 0
theorem byteAt_in {f : ByteArray} {D : Nat} (h : D < f.size) : byteAt f D = f[D].toNat := by simp [byteAt, h]
/-- Is the bit of a place 0? -/
def clr (f : ByteArray) (p : Int) : Bool := bits BinOp.and .u8 (byteAt f (p.toNat / 8 + 1) / 2 ^ (p.toNat % 8)) 1 == 0
open Classical in
/-- Has. -/
noncomputable def has (f s : ByteArray) : Bool := if okF f then (plcs (hA s) (hB s) (8 * (f.size - 1) : Nat) (byteAt f 0).toNat).all (fun p => !clr f p) else true

set_option maxHeartbeats 1000000 in
theorem rhas (f s : ByteArray) (hf : f.size ≤ 9223372036854775807) (hs : s.size ≤ 9223372036854775807) (h : Sat B L w) :
    Calls Try.prog 33 #[.string f, .string s] w fun e w' => e = .returned (.bool (has f s)) ∧ Sat B L w' := by
  by_cases ok : okF f
  · have hc := rcheck_any w f hf
    rw [chk, if_pos ok] at hc
    have hh : has f s = (plcs (hA s) (hB s) (8 * (f.size - 1) : Nat) (byteAt f 0).toNat).all (fun p => !clr f p) := by rw [has, if_pos ok]
    obtain ⟨h9, h3, h1, h8⟩ := ok
    rw [byteAt_in (by omega), Int.toNat_natCast] at hh
    have f0 : 0 < f.size := by omega
    obtain ⟨u, hu⟩ : ∃ u, f[0] = u := ⟨_, rfl⟩
    rw [hu] at h1 h8
    rw [hu] at hh
    obtain ⟨k, hk⟩ : ∃ k : Nat, u.toNat = k := ⟨_, rfl⟩
    rw [hk] at h1 h8 hh
    obtain ⟨m, hm⟩ : ∃ m : Nat, 8 * (f.size - 1) = m := ⟨_, rfl⟩
    rw [hm] at hh
    obtain ⟨z, hz⟩ : ∃ z, has f s = z := ⟨_, rfl⟩
    rw [hz] at hh ⊢
    have Hh := Lib.hid hh
    clear hh hz
    have m1 : 8 * ((f.size : Int) - 1) = m := by omega
    have hp := rplaces s hs k m (by omega) (by omega) h8 h
    have Hp := Lib.hid hp
    clear hp
    go_enter Try.func33, Try.ntmps33
    go_wp2_with fail
    refine hc.mono ?_
    rintro e w1 ⟨rfl, rfl⟩
    clear hc
    go_wp2_with fail
    refine Hp.out.mono ?_
    rintro e w1 ⟨a, c, rfl, h1⟩
    clear Hp
    obtain ⟨ps, hps⟩ : ∃ ps, plcs (hA s) (hB s) m k = ps := ⟨_, rfl⟩
    have Hl := Lib.hid (show ps.length = k by rw [← hps]; exact plcs_len _ _ _ _)
    have Hr := Lib.hid (show ∀ p ∈ ps, 0 ≤ p ∧ p < m by rw [← hps]; exact plcs_in _ (by omega) _ _)
    rw [hps] at h1
    go_wp2_with fail
    go_loopg [6] k (fun gh i wr => ∃ (j : Nat), j + gh ≤ k ∧ k ≤ j + gh ∧ i = .int .i64 j ∧ (ps.take j).all (fun p => !clr f p) = true ∧ Sat B (row 3 1 (.slice a k c) k (i64s ps) :: L) wr)
    case atStart => exact ⟨0, by omega, by omega, rfl, rfl, h1⟩
    case round =>
      obtain ⟨j, hg1, hg2, rfl, hall, hs1⟩ := hrel
      have Hall := Lib.hid hall
      clear h h1 hall
      by_cases hj : j < k
      · obtain ⟨p, hp⟩ : ∃ p, ps[j]'(by rw [Hl.out]; exact hj) = p := ⟨_, rfl⟩
        obtain ⟨p0, p1⟩ := Hr.out _ (List.getElem_mem (by rw [Hl.out]; exact hj : j < ps.length))
        rw [hp] at p0 p1
        obtain ⟨q, rfl⟩ := Int.eq_ofNat_of_zero_le p0
        obtain ⟨g, off, ha, q0, q0f, q0l, -⟩ := hs1.row_cell j (by omega)
        subst ha
        rw [i64s, List.getElem?_map, List.getElem?_eq_getElem (by rw [Hl.out]; exact hj), hp, Option.map_some] at q0
        clear p0
        obtain ⟨d, hd⟩ : ∃ d, q / 8 = d := ⟨_, rfl⟩
        obtain ⟨r, hr⟩ : ∃ r, q % 8 = r := ⟨_, rfl⟩
        obtain ⟨D, hD⟩ : ∃ D, D = d + 1 := ⟨_, rfl⟩
        have hDf : D < f.size := by omega
        have e1 : IntKind.i64.wrap ((q : Int) / 8) = d := by rw [IntWalk.i64_in _ (by omega)]; omega
        have e2 : IntKind.i64.wrap (1 + (d : Int)) = D := by rw [IntWalk.i64_in _ (by omega)]; omega
        have e3 : (q : Int) % 8 = r := by omega
        have hr8 : r < 8 := by omega
        have e4 : IntKind.i64.wrap (r : Int) = r := IntWalk.i64_in _ (by omega)
        obtain ⟨x, hx⟩ : ∃ x, bits BinOp.and .u8 ((f[D].toNat : Int) / 2 ^ r) 1 = x := ⟨_, rfl⟩
        have Hc := Lib.hid (show clr f q = (x == 0) by rw [clr, Int.toNat_natCast, hd, hr, ← hD, byteAt_in hDf, hx])
        have Hp := Lib.hid hp
        clear hd hr hD p1 Hr hp
        by_cases hx0 : x = 0
        · subst hx0
          go_wp2_with fail
          go_quiet (fail)
          go_wp2_with fail
          go_ret
          refine ⟨?_, (hs1.drewN _).drop⟩
          have e5 : z = false := by
            rw [Hh.out, hps, List.all_eq_false]
            exact ⟨_, List.getElem_mem (by rw [Hl.out]; exact hj : j < ps.length), by rw [Hp.out, Hc.out]; decide⟩
          rw [e5]; rfl
        · go_wp2_with fail
          go_quiet (fail)
          go_wp2_with fail
          go_roundg (gk - 1)
          case measure => omega
          case rel =>
            refine ⟨j + 1, by omega, by omega, by go_num, ?_, hs1.drewN _⟩
            rw [List.take_succ_eq_append_getElem (by rw [Hl.out]; exact hj : j < ps.length), List.all_append, Hall.out, Hp.out]
            simp [Hc.out, hx0]
      · go_wp2_with fail
        go_ret
        refine ⟨?_, hs1.drop⟩
        have e5 : z = true := by
          have := Hall.out
          rw [List.take_of_length_le (by rw [Hl.out]; omega)] at this
          rw [Hh.out, hps, this]
        rw [e5]; rfl
  · have hc := rcheck_any w f hf
    rw [chk, if_neg ok] at hc
    have hh : has f s = true := by rw [has, if_neg ok]
    rw [hh]
    clear hh
    go_enter Try.func33, Try.ntmps33
    go_wp2_with fail
    refine hc.mono ?_
    rintro e w1 ⟨rfl, rfl⟩
    clear hc
    go_wp2_with fail
    go_ret
    exact ⟨rfl, h⟩
end
end Go.Proofs.Ytgccdndlpjbkhaa
