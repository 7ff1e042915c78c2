/-
  Script: the document's Print.
-/
import Derived.Test.YtjfnkglppldfnaaDoorScr6
import Derived.Test.YtjfnkglppldfnaaDoorScr5
import Derived.Test.YtjfnkglppldfnaaDoorScrM
namespace Go.Proofs.YtjfnkglppldfnaaDoor
open Go.RowKit
section
variable {B w : World} {L : List HP}
set_option maxHeartbeats 2000000 in
set_option maxRecDepth 100000 in
theorem rprint_bad (a b c d e f g i j : Int) (v : Value) (hm : mayL [a, b, c, d, e, f, g, i, j] = false) :
    Calls Tryd.prog 6 #[.agg #[.int .i64 a, .int .i64 b, .int .i64 c, .int .i64 d, .int .i64 e, .int .i64 f, .int .i64 g, .int .i64 i, .int .i64 j], v] w fun y w' =>
      y = .returned (.tuple #[.string ⟨#[]⟩, .int .i64 2]) ∧ Below w.heap.size w w' := by
  go_enter Tryd.func6, Tryd.ntmps6
  go_wp2_with (go_at_call 18; refine (rmay _ _ _ _ _ _ _ _ _ ((Sat.start w).alloc _)).mono ?_; rintro e w' ⟨rfl, hS⟩; rw [hm])
  go_ret2
  exact ⟨rfl, hS.below⟩
set_option maxHeartbeats 2000000 in
set_option maxRecDepth 100000 in
theorem rprint_long (a b c d e f g i j : Int) (va : Option Addr) (n cc : Nat) (hm : mayL [a, b, c, d, e, f, g, i, j] = true) (hn : 16384 < n) :
    Calls Tryd.prog 6 #[.agg #[.int .i64 a, .int .i64 b, .int .i64 c, .int .i64 d, .int .i64 e, .int .i64 f, .int .i64 g, .int .i64 i, .int .i64 j], .slice va n cc] w fun y w' =>
      y = .returned (.tuple #[.string ⟨#[]⟩, .int .i64 3]) ∧ Below w.heap.size w w' := by
  go_enter Tryd.func6, Tryd.ntmps6
  go_wp2_with (go_at_call 18; refine (rmay _ _ _ _ _ _ _ _ _ ((Sat.start w).alloc _)).mono ?_; rintro e w' ⟨rfl, hS⟩; rw [hm])
  go_ret2
  exact ⟨rfl, hS.below⟩
set_option maxHeartbeats 4000000 in
set_option maxRecDepth 100000 in
theorem rprint_ok (a b c d e f g i j : Int) (va : Option Addr) (n cc : Nat) (raw : Bs) (hm : mayL [a, b, c, d, e, f, g, i, j] = true) (hn : n ≤ 16384) (hl : raw.length = n) (hr : reads w (.slice va n cc) n (u8s raw)) :
    Calls Tryd.prog 6 #[.agg #[.int .i64 a, .int .i64 b, .int .i64 c, .int .i64 d, .int .i64 e, .int .i64 f, .int .i64 g, .int .i64 i, .int .i64 j], .slice va n cc] w fun y w' =>
      y = .returned (.tuple #[.string ⟨(printL [a, b, c, d, e, f, g, i, j] raw).toArray⟩, .int .i64 0]) ∧ Below w.heap.size w w' := by
  have hbd := may_bounds hm
  have hll := lineL_len [a, b, c, d, e, f, g, i, j] (fun y hy => (hbd y hy).2)
  obtain ⟨hr0, hr1, hr2⟩ := reads_len hr
  have Hr := Lib.hid hr
  have Hl := Lib.hid hl
  have hhead := fun (w1 : World) (L : List HP) (h : Sat w L w1) => rhead a b c d e f g i j hm h
  obtain ⟨o, ho⟩ : ∃ o : ByteArray, (⟨(lineL [a, b, c, d, e, f, g, i, j]).toArray⟩ : ByteArray) = o := ⟨_, rfl⟩
  have hos : o.size ≤ 194 := by rw [← ho]; exact hll
  have hos3 : (o ++ (⟨#[10]⟩ : ByteArray)).size = o.size + 1 := by simp; rfl
  have hos2 : (o ++ (⟨#[10]⟩ : ByteArray)).size ≤ 9223372036854775807 := by omega
  have Hll := Lib.hid hll
  have Ho := Lib.hid ho
  rw [ho] at hhead
  clear hr hl hbd ho hll
  go_enter Tryd.func6, Tryd.ntmps6
  go_wp2_with (first
    | (go_at_call 18; refine (rmay _ _ _ _ _ _ _ _ _ ((Sat.start w).alloc _)).mono ?_; rintro e w1 ⟨rfl, hS⟩; rw [hm]; have s0 := hS.pt_cell 0; have s1 := hS.pt_cell 1; have s2 := hS.pt_cell 2; have s3 := hS.pt_cell 3; have s4 := hS.pt_cell 4; have s5 := hS.pt_cell 5; have s6 := hS.pt_cell 6; have s7 := hS.pt_cell 7; have s8 := hS.pt_cell 8; simp only [List.getElem?_toArray, List.getElem?_cons_zero, List.getElem?_cons_succ] at s0 s1 s2 s3 s4 s5 s6 s7 s8)
    | (go_at_call 19; refine (hhead _ _ hS.drop).mono ?_; rintro e w2 ⟨rfl, hS2⟩)
    | ((with_reducible refine wpList_string_bytes rfl (.tmp 16) rfl Tryd.underlying9 Tryd.underlying24 Tryd.underlying5 (o ++ ⟨#[10]⟩) rfl hos2 hS2 ?_); intro a3 c3 w3 hS3; go_frame))
  obtain ⟨xs, hxs⟩ : ∃ xs, [a, b, c, d, e, f, g, i, j] = xs := ⟨_, rfl⟩
  rw [hxs] at Ho Hll
  have hlx : xs.length = 9 := by rw [← hxs]; rfl
  obtain ⟨N0, hN0⟩ : ∃ N0, (o ++ (⟨#[10]⟩ : ByteArray)).size = N0 := ⟨_, rfl⟩
  have hol : (o ++ (⟨#[10]⟩ : ByteArray)).data.toList = lineL xs ++ [10] := by rw [← Ho.out]; simp
  have hNl : (lineL xs ++ [10]).length = N0 := by rw [← hol, ← hN0, Array.length_toList]; rfl
  rw [hol, hN0] at hS3
  rw [hN0]
  have Hx := Lib.hid hxs
  have Hlen := Lib.hid (show (lineL xs).length ≤ 194 by have := Hll.out; rw [hlx] at this; exact this)
  have HN := Lib.hid hNl
  have hr6 : reads w (.slice va n cc) n (u8s raw) := Hr.out
  clear hm hS hS2 s0 s1 s2 s3 s4 s5 s6 s7 s8 hxs hlx hol hN0 hos2 hos3 hNl hhead
  go_loopg [6, 7] n (fun gh v6 v7 wr => ∃ (p m : Nat) (ra : Option Addr) (rc : Nat) (l : Bs), n ≤ p + gh ∧ p ≤ n + 31 ∧ v7 = .int .i64 p ∧ v6 = .slice ra m rc ∧ Hid (l.length = m ∧ l ++ bodyL (raw.drop p) = printL xs raw) ∧ Sat w [rowm 5 (.slice ra m rc) m (u8s l)] wr)
  case atStart => exact ⟨0, N0, a3, c3, _, by omega, by omega, rfl, rfl, Lib.hid ⟨HN.out, by simp [printL]⟩, hS3⟩
  case round =>
    obtain ⟨p, m, ra, rc, l, hg1, hp, rfl, rfl, Hm, hs1⟩ := hrel
    clear hS3 hr6
    by_cases hpn : p < n
    · have hrw : reads wr (.slice va n cc) n (u8s raw) := hs1.reads Hr.out
      have hlr := Hl.out
      have hcell : ∃ g off, va = some ⟨g, off, none⟩ := by
        obtain ⟨a', c', hv, _, _, _, h3⟩ := hrw
        cases hv
        obtain ⟨g', off', h4, _⟩ := h3 0 _ (by rw [List.getElem?_eq_getElem (by rw [u8s_len, hlr]; omega)])
        exact ⟨g', off', h4⟩
      obtain ⟨g', off', rfl⟩ := hcell
      obtain ⟨q, hq⟩ : ∃ q, min (p + 32) n = q := ⟨_, rfl⟩
      obtain ⟨k, hk⟩ : ∃ k, q - p = k := ⟨_, rfl⟩
      have hne : raw.drop p ≠ [] := fun e => by have := congrArg List.length e; rw [List.length_drop, hlr] at this; simp at this; omega
      have hrd := reads_drop hrw p 1 (by omega)
      rw [Nat.mul_one, u8s, ← List.map_drop] at hrd
      have hrt : reads wr (.slice (some ⟨g', off' + p, none⟩) k (cc - p)) k (u8s ((raw.drop p).take 32)) := by
        have := reads_take hrd k k (by omega)
        rw [← List.map_take] at this
        have e : (raw.drop p).take k = (raw.drop p).take 32 := by
          by_cases h32 : 32 ≤ n - p
          · rw [show k = 32 by omega]
          · rw [List.take_of_length_le (by rw [List.length_drop]; omega), List.take_of_length_le (by rw [List.length_drop]; omega)]
        rw [e] at this
        exact this
      have hlt : ((raw.drop p).take 32).length = k := by rw [List.length_take, List.length_drop]; omega
      have hbody := bodyL_cons hne
      rw [List.drop_drop] at hbody
      have hk32 : k ≤ 32 := by omega
      have hhl : (hexL ((raw.drop p).take 32)).length = 2 * k := by rw [hex_length, hlt]
      have hsz : (⟨((raw.drop p).take 32).toArray⟩ : ByteArray).size = k := hlt
      have hhex := rhex (⟨((raw.drop p).take 32).toArray⟩ : ByteArray) (by rw [hsz]; omega) hs1
      obtain ⟨hh, hhd⟩ : ∃ hh : ByteArray, (⟨(hexL ((raw.drop p).take 32)).toArray⟩ : ByteArray) = hh := ⟨_, rfl⟩
      have hhs : hh.size ≤ 64 := by rw [← hhd]; show (hexL ((raw.drop p).take 32)).length ≤ 64; omega
      have hhd' : hh.data.toList = hexL ((raw.drop p).take 32) := by rw [← hhd]
      have hhex' : Calls Tryd.prog 20 #[.string ⟨((raw.drop p).take 32).toArray⟩] wr fun e w' => e = .returned (.string hh) ∧ Sat w [rowm 5 (.slice ra m rc) m (u8s l)] w' := by
        rw [← hhd]; exact hhex
      have hml : m + 65 ≤ 140737488355328 := by
        have h1 := congrArg List.length Hm.out.2
        have h2 := bodyL_len raw
        have h3 := Hlen.out
        simp only [printL, List.length_append, List.length_cons, Hm.out.1] at h1
        omega
      obtain ⟨M1, hM1⟩ : ∃ M1, M1 = m + hh.size := ⟨_, rfl⟩
      have b1 : M1 ≤ maxLen := by unfold maxLen; omega
      have b2 : M1 ≤ 140737488355328 := by omega
      have b3 : M1 + 1 ≤ maxLen := by unfold maxLen; omega
      have b4 : M1 + 1 ≤ 140737488355328 := by omega
      have f1 : min ((p : Int) + 32) (n : Int) = q := by omega
      have f2 : (q : Int) - p = k := by omega
      have hpq : p ≤ q := by omega
      have hqn : q ≤ n := by omega
      have hpc : ¬ cc = p := by omega
      have hqc : q ≤ cc := by omega
      have hppq : (p : Int) ≤ q := by omega
      have hqp : q - p = k := hk
      have Hz := Lib.hid (And.intro hhd' (And.intro hbody hM1))
      clear hrw hrd hne hbody hhl hsz hhex hhd hhd' hq hlr hM1
      go_wp2_with (first
        | ((with_reducible refine wpList_bytes_string rfl (.tmp 32) rfl Tryd.underlying24 Tryd.underlying5 Tryd.underlying9 (.slice (some ⟨g', off' + p, none⟩) k _) k ((raw.drop p).take 32) rfl hrt hlt ?_); go_frame)
        | (go_at_call 20; refine hhex'.mono ?_; rintro e w6 ⟨rfl, hS6⟩)
        | (at_builtin; (with_reducible refine wpList_append_mstr rfl u8_elem 9 Tryd.underlying9 (.tmp 24) (.tmp 34) rfl _ hh m M1 _ (u8s (l ++ hexL ((raw.drop p).take 32))) rfl rfl hS6 Hz.out.2.2 (by rw [Hz.out.1]; simp [u8s]) b1 b2 ?_); intro a4 c4 w7 hS7; go_frame)
        | (at_builtin; (with_reducible refine wpList_append_mrow rfl u8_elem (.tmp 36) (.tmp 37) rfl _ _ M1 1 (M1 + 1) _ [.int .u8 10] (u8s (l ++ hexL ((raw.drop p).take 32) ++ [10])) rfl rfl ((hS7.alloc (.cells #[.int .u8 10] 5)).swap) (reads_new _ _ rfl (by omega)) rfl (by omega) (by simp [Value.oneCell']) rfl (by simp [u8s]) b3 b4 ?_); intro a5 c5 w8 hS8; go_frame))
      have hS8 := ‹Sat w (rowm 5 (.slice _ (M1 + 1) _) (M1 + 1) _ :: _) _›.swap.drop
      go_roundg (gk - 1)
      case measure => omega
      case rel =>
        refine ⟨p + 32, M1 + 1, _, _, _, by omega, by omega, by first | rfl | go_num, rfl, Lib.hid ⟨?_, ?_⟩, hS8⟩
        · simp only [List.length_append, List.length_cons, List.length_nil, Hm.out.1, hex_length, hlt]
          have h5 := Hz.out.2.2
          have h6 : hh.size = 2 * k := by
            have : hh.data.toList.length = hh.size := by rw [Array.length_toList]; rfl
            rw [← this, Hz.out.1, hex_length, hlt]
          omega
        · rw [← Hm.out.2, Hz.out.2.1]; simp
    · have hdr : raw.drop p = [] := List.drop_of_length_le (by rw [Hl.out]; omega)
      have hfin : l = printL xs raw := by have := Hm.out.2; rw [hdr, bodyL_nil, List.append_nil] at this; exact this
      have hr := hs1.rowm_reads
      have hlm := Hm.out.1
      rw [hfin] at hr hlm
      go_wp2_with ((with_reducible refine wpList_bytes_string rfl (.tmp 39) rfl Tryd.underlying24 Tryd.underlying5 Tryd.underlying9 (.slice ra m rc) m (printL xs raw) rfl hr hlm ?_); go_frame)
      go_ret2
      exact ⟨by rw [Hx.out]; rfl, hs1.below⟩
end
end Go.Proofs.YtjfnkglppldfnaaDoor
