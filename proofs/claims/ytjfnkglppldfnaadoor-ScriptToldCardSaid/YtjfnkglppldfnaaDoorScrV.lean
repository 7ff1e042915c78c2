/-
  Script: ScriptTold's walk.
-/
import Derived.Test.YtjfnkglppldfnaaDoorScrT
import Derived.Test.YtjfnkglppldfnaaDoorScrI
import Derived.Test.YtjfnkglppldfnaaDoorScrX
namespace Go.Proofs.YtjfnkglppldfnaaDoor
open Go.RowKit
/-- Is the i-th byte at a line's beginning? -/
def stb (S : Bs) (i : Nat) : Bool := if i = 0 then true else S.getD (i - 1) 0 == 10
theorem ins_step (k : Nat) (S : Bs) (i nn : Nat) (h : i < S.length) : insR k (stb S i) nn (S.drop i) = (if stb S i = true ∧ nn = k then [120] else []) ++ S.getD i 0 :: insR k (stb S (i + 1)) (if stb S i = true then nn + 1 else nn) (S.drop (i + 1)) := by
  rw [List.drop_eq_getElem_cons h, insR]
  have e : S.getD i 0 = S[i] := by simp [List.getD, List.getElem?_eq_getElem h]
  have e2 : stb S (i + 1) = (S[i] == 10) := by rw [stb, if_neg (by omega), Nat.add_sub_cancel, e]
  rw [e, e2]
theorem sidx {sS : ByteArray} {S : Bs} (h : sS.data.toList = S) {i : Nat} (hi : i < sS.size) : (((sS[i]'hi).toNat : Int) == 10) = (S.getD i 0 == 10) := by
  subst h
  have hl : i < sS.data.toList.length := by rw [Array.length_toList]; exact hi
  have e : sS.data.toList.getD i 0 = sS[i]'hi := by
    simp only [List.getD, List.getElem?_eq_getElem hl, Option.getD_some, Array.getElem_toList]
    rfl
  rw [e]
  by_cases h10 : sS[i]'hi = 10
  · rw [h10]; rfl
  · have h1 : ¬ ((sS[i]'hi).toNat : Int) = 10 := fun hh => h10 (by
      apply UInt8.toNat.inj
      have : (sS[i]'hi).toNat = 10 := by omega
      rw [this]; rfl)
    rw [beq_eq_false_iff_ne.2 h1, beq_eq_false_iff_ne.2 h10]
theorem ext1 {sS : ByteArray} {S : Bs} (h : sS.data.toList = S) {i : Nat} (hi : i < sS.size) : (sS.extract i (i + 1)).data.toList = [S.getD i 0] := by
  subst h
  have hl : i < sS.data.toList.length := by rw [Array.length_toList]; exact hi
  have e : sS.data.toList.getD i 0 = sS.data.toList[i] := by simp [List.getD, List.getElem?_eq_getElem hl]
  rw [e, ByteArray.data_extract, Array.toList_extract]
  simp [List.extract, List.drop_eq_getElem_cons hl]
theorem cat_list (a b : ByteArray) : (a ++ b).data.toList = a.data.toList ++ b.data.toList := by simp
theorem ext_size {sS : ByteArray} {i : Nat} (hi : i < sS.size) : (sS.extract i (i + 1)).size = 1 := by
  have := congrArg List.length (ext1 (S := sS.data.toList) rfl hi)
  rw [Array.length_toList] at this
  exact this
theorem parsed_bad {B : World} {L : List HP} {s : Bs} {y : Ending} {w' : World} {c : Int} {k : Nat} (hp : parseL s = .error (c, k)) (h : parsed B L s y w') :
    ∃ p, y = .returned (.tuple #[zS, .slice none 0 0, .iface 35 (.pointer (some ⟨p, 0, none⟩))]) ∧ Sat B (pt p (.cells #[.int .i64 c, .int .i64 k] 39) :: L) w' := by
  rcases h with ⟨a, b, c, d, e, f, g, i, j, raw, ra, m, rc, h1, _⟩ | ⟨c', i, p, h1, h2, h3⟩
  · rw [hp] at h1; cases h1
  · rw [hp] at h1; cases h1; exact ⟨p, h2, h3⟩
section
variable {B w : World} {L : List HP}
set_option maxHeartbeats 4000000 in
set_option maxRecDepth 100000 in
theorem told_walk (hE : Env w) (hg : w.cell? ⟨0, 0, none⟩ = some (.iface 89 (.agg #[.pointer (some ⟨9, 32, none⟩)]))) (va : Option Addr) (n cc : Nat) (raw : Bs) (hl : raw.length = n) (hr : reads w (.slice va n cc) n (u8s raw)) (a : Int) (ha : 0 ≤ a ∧ a ≤ 255) :
    Calls Tryd.prog 4 #[.slice va n cc, .int .u8 a] w fun y w' => y = .returned (.bool true) ∧ Below w.heap.size w w' := by
  obtain ⟨hr0, hr1, hr2⟩ := reads_len hr
  obtain ⟨m, hm⟩ : ∃ m, (min (n : Int) 1000).toNat = m := ⟨_, rfl⟩
  have hmn : m ≤ n := by omega
  have hm1 : m ≤ 1000 := by omega
  have hr3 := reads_take hr m m hmn
  obtain ⟨r, hrr⟩ : ∃ r, raw.take m = r := ⟨_, rfl⟩
  rw [show (u8s raw).take m = u8s (raw.take m) from by simp [u8s], hrr] at hr3
  have hlk : r.length = m := by rw [← hrr]; simp; omega
  have h0 := Sat.start w
  clear hr hl hrr
  obtain ⟨k, hk⟩ : ∃ k : Nat, a % (1 + ((m : Int) + 31) / 32) = (k : Int) := ⟨(a % (1 + ((m : Int) + 31) / 32)).toNat, (Int.toNat_of_nonneg (Int.emod_nonneg _ (by omega))).symm⟩
  have hkl : k < 1 + (m + 31) / 32 := by
    have := Int.emod_lt_of_pos a (show 0 < 1 + ((m : Int) + 31) / 32 by omega)
    omega
  obtain ⟨htold, hlong⟩ := told_law r k (by omega) (by omega)
  obtain ⟨sS, hsS⟩ : ∃ sS : ByteArray, (⟨(printL wL r).toArray⟩ : ByteArray) = sS := ⟨_, rfl⟩
  have hSd : sS.data.toList = printL wL r := by rw [← hsS]
  have hSz : sS.size = (printL wL r).length := by rw [← hsS]; rfl
  have hSm : sS.size ≤ 4000 := by
    rw [hSz, printL, wline_eq]
    have := bodyL_len r
    simp only [List.length_append, List.length_cons, List.length_nil]
    omega
  obtain ⟨S, hSS⟩ : ∃ S, printL wL r = S := ⟨_, rfl⟩
  rw [hSS] at hSd hSz htold hlong
  have HT := Lib.hid (And.intro htold hlong)
  have HS := Lib.hid hSd
  have HZ := Lib.hid hSz
  have Hs := Lib.hid hsS
  clear hsS hSS htold hlong hSd hSz
  go_enter Tryd.func4, Tryd.ntmps4
  go_wp2_with (first
    | (go_at_call 8; refine (psetupc h0).mono ?_; rintro e w1 ⟨rfl, h1⟩)
    | (go_at_call 5; refine (pprint_ok (hE.at h1) 3 1 4 1 2 1 4096 1 4 va m cc r (by decide) (by omega) hlk (h1.reads hr3)).mono ?_; rintro e w2 ⟨rfl, hb2⟩; have h2 := h1.of_below hb2; rw [Hs.out]))
  have hLast : ∀ (n : Nat) (b : Bool), insR k b n (S.drop S.length) = [] := fun n b => by rw [List.drop_length]; rfl
  have HL := Lib.hid hLast
  clear hLast hm hr3 hlk hr0 hr1 hr2 h1 hb2 h0
  go_loopg [9, 10, 11] (sS.size + 1) (fun gh v9 v10 v11 wr => ∃ (i nn : Nat) (t : ByteArray), sS.size + 1 ≤ i + gh ∧ i ≤ sS.size ∧ nn ≤ i ∧ t.size ≤ 2 * i ∧ v9 = .string t ∧ v10 = .int .i64 nn ∧ v11 = .int .i64 i ∧ wr = w2 ∧
    Hid (t.data.toList ++ insR k (stb S i) nn (S.drop i) = insR k true 0 S))
  case atStart => exact ⟨0, 0, _, by omega, by omega, by omega, by show 0 ≤ _; omega, rfl, rfl, rfl, rfl, Lib.hid rfl⟩
  case round =>
    obtain ⟨i, nn, t, hg1, hg2, hg3, hg4, rfl, rfl, rfl, rfl, hh⟩ := hrel
    by_cases hi : i < sS.size
    · have hstep := ins_step k S i nn (by rw [← HZ.out]; exact hi)
      rw [hstep] at hh
      by_cases hi0 : i = 0
      · subst hi0
        have hst : stb S 0 = true := rfl
        clear hstep
        go_wp2_with fail
        · rename_i q2
          have hnk : nn = k := by (have := eq_of_beq q2; omega)
          go_roundg (gk - 1)
          case measure => omega
          case rel =>
              have hx : (sS.extract 0 1).data.toList = [S.getD 0 0] := ext1 HS.out hi
              have hxs : (sS.extract 0 1).size = 1 := ext_size hi
              have hnew := hh.out
              rw [if_pos ⟨hst, hnk⟩, if_pos hst] at hnew
              refine ⟨0 + 1, nn + 1, _, by omega, by omega, by omega, ?_, rfl, by go_num, by go_num, rfl, Lib.hid ?_⟩
              · simp only [ByteArray.size_append]; have h120 : (⟨#[120]⟩ : ByteArray).size = 1 := rfl; omega
              · simp only [cat_list, hx, List.append_assoc, List.cons_append, List.nil_append] at hnew ⊢
                exact hnew
        · rename_i q2
          have hnk : ¬ nn = k := fun e => by (subst e; simp at q2)
          go_roundg (gk - 1)
          case measure => omega
          case rel =>
              have hx : (sS.extract 0 1).data.toList = [S.getD 0 0] := ext1 HS.out hi
              have hxs : (sS.extract 0 1).size = 1 := ext_size hi
              have hnew := hh.out
              rw [if_neg (fun hh => hnk hh.2), if_pos hst] at hnew
              refine ⟨0 + 1, nn + 1, _, by omega, by omega, by omega, ?_, rfl, by go_num, by go_num, rfl, Lib.hid ?_⟩
              · simp only [ByteArray.size_append]; omega
              · simp only [cat_list, hx, List.append_assoc, List.cons_append, List.nil_append] at hnew ⊢
                exact hnew
      · have hi0' : ¬ (i : Int) = 0 := by omega
        have hi0b : ((i : Int) == 0) = false := by simpa using hi0
        obtain ⟨i1, hi1⟩ : ∃ i1, i - 1 = i1 := ⟨_, rfl⟩
        have hi1e : (i : Int) - 1 = i1 := by omega
        have hi1l : (i1 : Int) < sS.size := by omega
        have hsx := sidx HS.out (show i1 < sS.size by omega)
        have hsb : stb S i = (S.getD i1 0 == 10) := by rw [stb, if_neg hi0, hi1]
        rw [← hsx] at hsb
        have Hsb := Lib.hid hsb
        clear hstep hsx hsb
        go_wp2_with fail
        · rename_i q1 q2
          have hst : stb S i = true := by (rw [Hsb.out]; simpa using q1)
          have hnk : nn = k := by (have := eq_of_beq q2; omega)
          go_roundg (gk - 1)
          case measure => omega
          case rel =>
              have hx := ext1 HS.out hi
              have hxs := ext_size hi
              have hnew := hh.out
              rw [if_pos ⟨hst, hnk⟩, if_pos hst] at hnew
              refine ⟨i + 1, nn + 1, _, by omega, by omega, by omega, ?_, rfl, by go_num, by go_num, rfl, Lib.hid ?_⟩
              · simp only [ByteArray.size_append]; have h120 : (⟨#[120]⟩ : ByteArray).size = 1 := rfl; omega
              · simp only [cat_list, hx, List.append_assoc, List.cons_append, List.nil_append] at hnew ⊢
                exact hnew
        · rename_i q1 q2
          have hst : stb S i = true := by (rw [Hsb.out]; simpa using q1)
          have hnk : ¬ nn = k := fun e => by (subst e; simp at q2)
          go_roundg (gk - 1)
          case measure => omega
          case rel =>
              have hx := ext1 HS.out hi
              have hxs := ext_size hi
              have hnew := hh.out
              rw [if_neg (fun hh => hnk hh.2), if_pos hst] at hnew
              refine ⟨i + 1, nn + 1, _, by omega, by omega, by omega, ?_, rfl, by go_num, by go_num, rfl, Lib.hid ?_⟩
              · simp only [ByteArray.size_append]; omega
              · simp only [cat_list, hx, List.append_assoc, List.cons_append, List.nil_append] at hnew ⊢
                exact hnew
        · rename_i q1
          have hst : ¬ stb S i = true := by (rw [Hsb.out]; simp [q1])
          go_roundg (gk - 1)
          case measure => omega
          case rel =>
              have hx := ext1 HS.out hi
              have hxs := ext_size hi
              have hnew := hh.out
              rw [if_neg (fun hh => hst hh.1), if_neg hst] at hnew
              refine ⟨i + 1, nn, _, by omega, by omega, by omega, ?_, rfl, rfl, by go_num, rfl, Lib.hid ?_⟩
              · simp only [ByteArray.size_append]; omega
              · simp only [cat_list, hx, List.append_assoc, List.cons_append, List.nil_append] at hnew ⊢
                exact hnew
    · obtain rfl : i = sS.size := by omega
      have hfull := hh.out
      rw [HZ.out, HL.out, List.append_nil] at hfull
      have hpe : parseL t.data.toList = .error (15, k) := by rw [hfull]; exact HT.out.1
      have Hpe := Lib.hid hpe
      clear hpe hfull hh
      go_wp2_with (first
        | (go_at_call 9; refine (pparse hE h2 _).mono ?_; rintro e w3 hp; obtain ⟨p, rfl, h3⟩ := parsed_bad Hpe.out hp; clear hp;
            have hA := (h3.alloc' zC (n := w3.heap.size) rfl).alloc' (.cells #[.pointer none] 35) (n := w3.heap.size + 1) (by simp);
            have hAs := pas ⟨p, 0, none⟩ _ (.pointer none) hg hA)
        | (go_at_call 10; refine hAs.mono ?_; rintro e w6 ⟨rfl, h6⟩; have c6 := h6.pt_cell 0; have hp6 := h6.p2; have p60 : w6.cell? ⟨p, 0, none⟩ = some (.int .i64 15) := hp6.pt_cell 0; have p61 : w6.cell? ⟨p, 1, none⟩ = some (.int .i64 k) := hp6.pt_cell 1; have his := pis 15 k (.inl rfl) p hp6)
        | (go_at_call 11; refine his.mono ?_; rintro e w7 ⟨rfl, rfl⟩)
        | (go_at_call 7; refine (pworks (hE.at h6)).mono ?_; rintro e w8 ⟨rfl, hb8⟩; have h8 := h6.of_below hb8))
      go_ret
      exact ⟨rfl, h8.below⟩
end
end Go.Proofs.YtjfnkglppldfnaaDoor
