/-
  NetPlays: the contracts at whatever place.
-/
import Derived.Test.YtgccdndlpjbkhaaNetRef
namespace Go.Proofs.Ytgccdndlpjbkhaa
open Go.RowKit
section
variable {B w : World} {L : List HP} {b : Nat} {ps qs : List Pk}
/-- Take's answer: packet, was there one, what is left. -/
def tk (ps : List Pk) (k : Int) : Pk × Bool × List Pk := if 0 ≤ k ∧ k < ps.length then ((ps[k.toNat]?).getD zpk, true, ps.eraseIdx k.toNat) else (zpk, false, ps)
def db (ps : List Pk) (k : Int) : Bool × List Pk := if (0 ≤ k ∧ k < ps.length) ∧ ps.length < 256 then (true, ps ++ [(ps[k.toNat]?).getD zpk]) else (false, ps)
theorem tk_le {ps rs : List Pk} {k : Int} {p : Pk} {d : Bool} (h : tk ps k = (p, d, rs)) : rs.length ≤ ps.length := by
  unfold tk at h
  split at h
  · cases h; rw [List.length_eraseIdx]; split <;> omega
  · cases h; exact Nat.le_refl _
theorem db_le {ps rs : List Pk} {k : Int} {d : Bool} (h : db ps k = (d, rs)) (hle : ps.length ≤ 256) : rs.length ≤ 256 := by
  unfold db at h
  split at h
  · cases h; simp; omega
  · cases h; exact hle
theorem tk_in {ps : List Pk} {j : Nat} (hj : j < ps.length) : tk ps (j : Int) = (ps[j], true, ps.eraseIdx j) := by
  unfold tk; rw [if_pos (by omega)]; simp [hj]
theorem tk_no {ps : List Pk} {k : Int} (hk : k < 0 ∨ ps.length ≤ k) : tk ps k = (zpk, false, ps) := by
  unfold tk; rw [if_neg (by omega)]

theorem take_any (h : Sat B (net b ps :: L) w) (k : Int) (hle : ps.length ≤ 256) {p : Pk} {d : Bool} {rs : List Pk} (ht : tk ps k = (p, d, rs)) :
    Calls Try.prog 17 #[.pointer (some ⟨b, 0, none⟩), .int .i64 k] w fun e w' =>
      e = .returned (.tuple #[.agg #[.int .i64 p.1, .int .i64 p.2.1, .string p.2.2], .bool d]) ∧ Sat B (net b rs :: L) w' := by
  by_cases hk : k < 0 ∨ ps.length ≤ k
  · rw [tk_no hk] at ht; cases ht
    exact take_net_no h k hk
  · obtain ⟨j, rfl⟩ := Int.eq_ofNat_of_zero_le (show 0 ≤ k by omega)
    rw [tk_in (by omega)] at ht; cases ht
    exact take_net h j (by omega) hle
theorem lose_any (h : Sat B (net b ps :: L) w) (k : Int) (hle : ps.length ≤ 256) {p : Pk} {d : Bool} {rs : List Pk} (ht : tk ps k = (p, d, rs)) :
    Calls Try.prog 15 #[.pointer (some ⟨b, 0, none⟩), .int .i64 k] w fun e w' =>
      e = .returned (.bool d) ∧ Sat B (net b rs :: L) w' := by
  by_cases hk : k < 0 ∨ ps.length ≤ k
  · rw [tk_no hk] at ht; cases ht
    exact lose_net_no h k hk
  · obtain ⟨j, rfl⟩ := Int.eq_ofNat_of_zero_le (show 0 ≤ k by omega)
    rw [tk_in (by omega)] at ht; cases ht
    exact lose_net h j (by omega) hle
theorem double_any (h : Sat B (net b ps :: L) w) (k : Int) (hle : ps.length ≤ 256) {d : Bool} {rs : List Pk} (ht : db ps k = (d, rs)) :
    Calls Try.prog 20 #[.pointer (some ⟨b, 0, none⟩), .int .i64 k] w fun e w' =>
      e = .returned (.bool d) ∧ Sat B (net b rs :: L) w' := by
  by_cases hk : k < 0 ∨ ps.length ≤ k
  · unfold db at ht
    rw [if_neg (by omega)] at ht; cases ht
    exact double_net_no h k hk
  · obtain ⟨j, rfl⟩ := Int.eq_ofNat_of_zero_le (show 0 ≤ k by omega)
    refine (double_net h j (by omega) hle).mono ?_
    rintro e w' ⟨rfl, h'⟩
    unfold db at ht
    by_cases h2 : ps.length < 256
    · rw [if_pos ⟨by omega, h2⟩] at ht; cases ht
      rw [if_pos h2] at h'
      have h3 : j < ps.length := by omega
      simp only [Int.toNat_natCast, List.getElem?_eq_getElem h3, Option.getD_some]
      exact ⟨by simp [h2], h'⟩
    · rw [if_neg (fun e => h2 e.2)] at ht; cases ht
      rw [if_neg h2] at h'
      exact ⟨by simp [h2], h'⟩
theorem rtake_any (na : Option Addr) (nn nc : Nat) (h : Sat B (row 27 3 (.slice na nn nc) nn (pks ps) :: L) w) (hp1 : ps.length = nn) (k : Int) (hle : nn ≤ 256) {p : Pk} {d : Bool} {rs : List Pk} (ht : tk ps k = (p, d, rs)) :
    Calls Try.prog 23 #[.slice na nn nc, .int .i64 k] w fun e w' => ∃ a c N, e = .returned (.tuple #[.slice a N c, .agg #[.int .i64 p.1, .int .i64 p.2.1, .string p.2.2], .bool d]) ∧
      N = rs.length ∧ Sat B (row 27 3 (.slice a N c) N (pks rs) :: L) w' := by
  subst hp1
  by_cases hk : k < 0 ∨ ps.length ≤ k
  · rw [tk_no hk] at ht; cases ht
    refine (rtake_no h na ps.length nc k hk).mono ?_
    rintro e w' ⟨rfl, h'⟩
    exact ⟨_, _, _, rfl, rfl, h'⟩
  · obtain ⟨j, rfl⟩ := Int.eq_ofNat_of_zero_le (show 0 ≤ k by omega)
    have hj : j < ps.length := by omega
    rw [tk_in hj] at ht; cases ht
    refine (rtake h na ps.length nc rfl hle (fun _ h' => h'.row_reads) j ps[j] (List.getElem?_eq_getElem hj)).mono ?_
    rintro e w' ⟨a, c, N, rfl, hN, h'⟩
    subst hN
    exact ⟨_, _, _, rfl, rfl, h'.swap.drop⟩
theorem rdouble_any (na : Option Addr) (nn nc : Nat) (h : Sat B (row 27 3 (.slice na nn nc) nn (pks ps) :: L) w) (hp1 : ps.length = nn) (k : Int) (hle : nn ≤ 256) {d : Bool} {rs : List Pk} (ht : db ps k = (d, rs)) :
    Calls Try.prog 24 #[.slice na nn nc, .int .i64 k] w fun e w' => ∃ a c N, e = .returned (.tuple #[.slice a N c, .bool d]) ∧
      N = rs.length ∧ Sat B (row 27 3 (.slice a N c) N (pks rs) :: L) w' := by
  subst hp1
  unfold db at ht
  by_cases hk : (k < 0 ∨ ps.length ≤ k) ∨ 256 ≤ ps.length
  · rw [if_neg (by omega)] at ht; cases ht
    refine (rdouble_no w na ps.length nc k (by omega)).mono ?_
    rintro e w' ⟨rfl, rfl⟩
    exact ⟨_, _, _, rfl, rfl, h⟩
  · rw [if_pos (by omega)] at ht; cases ht
    obtain ⟨j, rfl⟩ := Int.eq_ofNat_of_zero_le (show 0 ≤ k by omega)
    have hj : j < ps.length := by omega
    refine (rdouble h na ps.length nc rfl (by omega) (fun _ h' => h'.row_reads) j ps[j] (List.getElem?_eq_getElem hj)).mono ?_
    rintro e w' ⟨a, c, N, rfl, hN, h'⟩
    subst hN
    simp only [Int.toNat_natCast, List.getElem?_eq_getElem hj, Option.getD_some]
    exact ⟨_, _, _, rfl, rfl, h'.swap.drop⟩
theorem rsend_any (na la : Option Addr) (nn nc m lc : Nat) (h : Sat B (row 27 3 (.slice na nn nc) nn (pks ps) :: row 27 3 (.slice la m lc) m (pks qs) :: L) w) (hp : ps.length = nn) (hqm : qs.length = m) (hle : nn ≤ 256) :
    Calls Try.prog 22 #[.slice na nn nc, .slice la m lc] w fun e w' => ∃ a c N, e = .returned (.tuple #[.slice a N c, .int .i64 (m - (min (256 - ps.length) m : Nat))]) ∧ N = (ps ++ qs.take (256 - ps.length)).length ∧
      Sat B (row 27 3 (.slice a N c) N (pks (ps ++ qs.take (256 - ps.length))) :: row 27 3 (.slice la m lc) m (pks qs) :: L) w' := by
  subst hp
  refine (rsend h na la ps.length nc m lc rfl hqm hle (fun _ h' => h'.row_reads) (fun _ h' => h'.swap.row_reads)).mono ?_
  rintro e w' ⟨a, c, N, rfl, hN, h'⟩
  refine ⟨a, c, N, rfl, hN, ?_⟩
  subst hN
  exact h'.swap.drop

/-- A row of which only the place counts from now on. -/
def scr (e : TypeId) (size : Nat) (a : Option Addr) (n : Nat) (H : HP) : Prop := 0 < n → ∃ g off cur, a = some ⟨g, off, none⟩ ∧ off + n * size ≤ cur.size ∧ H = pt g (.cells cur e)
theorem row_scr {e : TypeId} {size n c : Nat} {a : Option Addr} {xs : List Value} (h : Sat B (row e size (.slice a n c) n xs :: L) w) : ∃ H, scr e size a n H ∧ Sat B (H :: L) w := by
  rcases Nat.eq_zero_or_pos n with h0 | h0
  · exact ⟨_, fun e => by omega, h⟩
  · obtain ⟨g, off, cur, ha, hs, h'⟩ := h.row_pt h0
    exact ⟨_, fun _ => ⟨g, off, cur, ha, hs, rfl⟩, h'⟩
theorem scr_cell {e : TypeId} {size n : Nat} {a : Option Addr} {H : HP} (hs : scr e size a n H) (h : Sat B (H :: L) w) (j : Nat) (hj : j < n * size) :
    ∃ g off v, a = some ⟨g, off, none⟩ ∧ w.cell? ⟨g, off + j, none⟩ = some v ∧ w.frozen? ⟨g, off + j, none⟩ = false ∧ g < w.heap.size ∧ ∀ u, ∃ H', scr e size a n H' ∧ Sat B (H' :: L) (w.setCell ⟨g, off + j, none⟩ u) := by
  have h0 : 0 < n := by
    rcases Nat.eq_zero_or_pos n with h0 | h0
    · subst h0; omega
    · exact h0
  obtain ⟨g, off, cur, ha, hc, rfl⟩ := hs h0
  have hlt : off + j < cur.size := by omega
  refine ⟨g, off, cur[off + j], ha, ?_, h.pt_free _, h.pt_lt, fun u => ⟨_, fun _ => ⟨g, off, _, ha, ?_, rfl⟩, h.set (j := off + j) u⟩⟩
  · rw [h.pt_cell]; simp [hlt]
  · simpa using hc
end
end Go.Proofs.Ytgccdndlpjbkhaa
