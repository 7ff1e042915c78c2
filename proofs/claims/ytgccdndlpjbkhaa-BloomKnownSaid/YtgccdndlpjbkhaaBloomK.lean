/-
  Bloom: BloomKnown: the walk.
-/
import Derived.Test.YtgccdndlpjbkhaaBloomP
namespace Go.Proofs.Ytgccdndlpjbkhaa
open Go.RowKit
attribute [local go_sem] Oper.semAt_some
set_option linter.unusedVariables false
def litA : ByteArray := ⟨#[1, 0, 16, 0, 0, 0, 0, 0, 0]⟩
theorem litA_make : mkF [⟨#[97]⟩] 1 = litA := by decide +kernel
theorem litA_bits_all : ∀ k : Fin 9, ∀ r : Fin 8, k.val = 0 ∨ bits .and .u8 ((byteAt litA k.val) / 2 ^ r.val) 1 = if k.val = 2 ∧ r.val = 4 then 1 else 0 := by decide +kernel
def emptyKeys (n : Nat) : List ByteArray := List.replicate n ⟨#[]⟩
theorem strs_empty (n : Nat) : (List.replicate n (Value.string ⟨#[]⟩).cells.toList).flatten = strs (emptyKeys n) := by
  induction n with
  | zero => rfl
  | succ n ih => rw [List.replicate_succ, List.flatten_cons, ih, emptyKeys, emptyKeys, List.replicate_succ]; rfl
theorem emptyKeys_len (n : Nat) : (emptyKeys n).length = n := List.length_replicate
theorem emptyKeys_size (n : Nat) : ∀ s ∈ emptyKeys n, s.size ≤ 9223372036854775807 := by
  intro s hs
  rw [List.eq_of_mem_replicate hs]
  decide
def lits : List ByteArray := [⟨#[]⟩, ⟨#[1, 0, 0, 0, 0, 0, 0, 0]⟩, ⟨#[0, 0, 0, 0, 0, 0, 0, 0, 0]⟩, ⟨#[9, 0, 0, 0, 0, 0, 0, 0, 0]⟩]
theorem lits_bad : ∀ s ∈ lits, chk s = 4 ∧ has s ⟨#[97]⟩ = true ∧ s.size ≤ 9223372036854775807 := by
  intro s hs
  have h : okB s = false ∧ s.size ≤ 9223372036854775807 := by
    simp only [lits, List.mem_cons, List.not_mem_nil, or_false] at hs
    rcases hs with rfl | rfl | rfl | rfl <;> exact ⟨by decide +kernel, by decide⟩
  rw [chk_eq, has_eq, hasB, h.1]
  exact ⟨rfl, rfl, h.2⟩
section
variable {B w : World} {L : List HP}
set_option maxHeartbeats 2000000 in
set_option maxRecDepth 100000 in
theorem bknown_law (B : World) : Calls Try.prog 11 #[] B fun e w' => e = .returned (.bool true) ∧ Below B.heap.size B w' := by
  have h := Sat.start B
  have m1 := bmake_any (L := [pt B.heap.size (.cells #[.string ⟨#[97]⟩] 9)]) [⟨#[97]⟩] (some ⟨B.heap.size, 0, none⟩) 1 1 1 rfl (by decide) (h.alloc _) (fun w' h' => by
    have := (h'.pt_row (size := 1) 1 1 0 [.string ⟨#[97]⟩] rfl (by simp [Value.oneCell']) (by omega) (by unfold maxLen; omega) (by simp) (by simp)).row_reads
    simpa [strs] using this)
  rw [litA_make, show mkE [⟨#[97]⟩] 1 = 0 by decide +kernel] at m1
  obtain ⟨fA, hfA⟩ : ∃ fA, litA = fA := ⟨_, rfl⟩
  have zA : fA.size = 9 := by rw [← hfA]; decide
  have hz0 : 0 < fA.size := by omega
  have hz2 : 2 < fA.size := by omega
  have bA0 : ((fA[0]'hz0).toNat : Int) = 1 := by subst hfA; rfl
  have bA2 : ((fA[2]'hz2).toNat : Int) = 16 := by subst hfA; rfl
  have HA := Lib.hid (show ∀ k r : Nat, 1 ≤ k → k < 9 → r < 8 → bits .and .u8 ((byteAt fA k) / 2 ^ r) 1 = if k = 2 ∧ r = 4 then 1 else 0 by
    intro k r h1 h2 h3
    have := litA_bits_all ⟨k, h2⟩ ⟨r, h3⟩
    rw [hfA] at this
    exact this.resolve_left (by simp only []; omega))
  rw [hfA] at m1
  clear hfA
  have M1 := Lib.hid m1
  clear m1
  go_enter Try.func11, Try.ntmps11
  go_wp2_with fail
  refine M1.out.mono ?_
  rintro e w1 ⟨rfl, h1⟩
  clear M1 h
  have m2 := bmake_any [] none 0 0 32 rfl (by simp) h1.drop (fun w' _ => strs_none w')
  rw [show mkF [] 32 = ⟨#[8, 0, 0, 0, 0, 0, 0, 0, 0]⟩ by decide +kernel, show mkE [] 32 = 0 by decide +kernel] at m2
  clear h1
  go_wp2_with fail
  refine m2.mono ?_
  rintro e w2 ⟨rfl, h2⟩
  clear m2
  go_wp2_with fail
  refine (bmake_arg _ 0 (.inl (by omega)) h2).mono ?_
  rintro e w3 ⟨rfl, h3⟩
  clear h2
  go_wp2_with fail
  refine (bmake_arg _ 33 (.inr (by omega)) h3).mono ?_
  rintro e w4 ⟨rfl, h4⟩
  clear h3
  have b1 : 32769 * 16 ≤ 281474976710656 := by omega
  have b2 : 32769 ≤ maxLen := by unfold maxLen; omega
  have b3 : 32768 ≤ maxLen := by unfold maxLen; omega
  obtain ⟨f, hf⟩ : ∃ f, filterOf (emptyKeys 32768) 32 = f := ⟨_, rfl⟩
  have f1 : f.size = 131073 := by rw [← hf, filterOf_size, emptyKeys_len]; decide
  have f2 : chk f = 0 := by rw [chk, if_pos]; rw [← hf]; exact filterOf_ok _ (by omega) (by rw [emptyKeys_len]; omega)
  have c1 := fun w => check_any w f (by omega)
  rw [f2] at c1
  have f3 : chk (f ++ ⟨#[0]⟩) = 4 := by
    rw [chk, if_neg]
    rw [okF_iff, ByteArray.size_append]
    intro h
    have := h.2.1
    rw [f1] at this
    have e : ByteArray.size ⟨#[0]⟩ = 1 := rfl
    omega
  have c2 := fun w => check_any w (f ++ ⟨#[0]⟩) (by rw [ByteArray.size_append, f1]; decide)
  rw [f3] at c2
  have HF := Lib.hid hf
  have HC := Lib.hid (And.intro c1 c2)
  clear hf f2 c1 c2 f3
  go_wp2_with (at_make; refine wpList_make_row rfl string_elem _ _ rfl 32769 32769 rfl rfl h4 (Nat.le_refl _) b1 b2 ?_; intro a1 w5 h5; rw [strs_empty] at h5)
  have h5 := ‹Sat B (row 9 1 _ 32769 _ :: _) _›
  have m5 := bmake_any (emptyKeys 32769) a1 32769 32769 1 (emptyKeys_len _) (emptyKeys_size _) h5 (fun w' h' => h'.row_reads)
  rw [show mkF (emptyKeys 32769) 1 = ⟨#[]⟩ by rw [mkF, if_neg (by rw [emptyKeys_len]; omega)], show mkE (emptyKeys 32769) 1 = 3 by rw [mkE, if_pos (by omega), if_neg (by rw [emptyKeys_len]; omega)]] at m5
  refine m5.mono ?_
  rintro e w6 ⟨rfl, h6⟩
  have h6' := h6.drop
  clear m5 h5 h6 h4
  have b4 : 32768 * 16 ≤ 281474976710656 := by omega
  go_wp2_with (at_make; refine wpList_make_row rfl string_elem _ _ rfl 32768 32768 rfl rfl h6' (Nat.le_refl _) b4 b3 ?_; intro a2 w7 h7; rw [strs_empty] at h7)
  have h7 := ‹Sat B (row 9 1 _ 32768 _ :: _) _›
  have m7 := bmake_any (emptyKeys 32768) a2 32768 32768 32 (emptyKeys_len _) (emptyKeys_size _) h7 (fun w' h' => h'.row_reads)
  rw [show mkF (emptyKeys 32768) 32 = f by rw [mkF, if_pos (by rw [emptyKeys_len]; omega)]; exact HF.out, show mkE (emptyKeys 32768) 32 = 0 by rw [mkE, if_pos (by omega), if_pos (by rw [emptyKeys_len]; omega)]] at m7
  refine m7.mono ?_
  rintro e w8 ⟨rfl, h8⟩
  have h8' := h8.drop
  clear m7 h7 h8 h6'
  go_wp2_with fail
  refine (HC.out.1 _).mono ?_
  rintro e w9 ⟨rfl, rfl⟩
  go_wp2_with fail
  refine (HC.out.2 _).mono ?_
  rintro e w9 ⟨rfl, rfl⟩
  clear HC HF
  go_wp2_with fail
  go_loopg [13, 14] 8 (fun gh o k wr => ∃ (j : Nat), j + gh ≤ 9 ∧ 9 ≤ j + gh ∧ 1 ≤ j ∧ o = .int .i64 (if 2 < j then 1 else 0) ∧ k = .int .i64 j ∧ Sat B [] wr)
  case atStart => exact ⟨1, by omega, by omega, by omega, rfl, rfl, h8'⟩
  case round =>
    obtain ⟨gO, rfl⟩ : ∃ gO : Nat, gO = gk := ⟨_, rfl⟩
    obtain ⟨k, hg1, hg2, hk1, rfl, rfl, hs1⟩ := hrel
    clear h8'
    by_cases hk9 : k < 9
    · have hkz : k < fA.size := by omega
      obtain ⟨o1, ho1⟩ : ∃ o1 : Int, (if 2 < k then 1 else 0) = o1 := ⟨_, rfl⟩
      rw [ho1]
      have HO := Lib.hid ho1
      clear ho1
      go_wp2_with fail
      go_loopg [13, 15] 8 (fun gh o r wr => ∃ (j : Nat), j + gh ≤ 8 ∧ 8 ≤ j + gh ∧ o = .int .i64 (if 2 < k ∨ (k = 2 ∧ 4 < j) then 1 else 0) ∧ r = .int .i64 j ∧ Sat B [] wr)
      case atStart =>
        refine ⟨0, by omega, by omega, ?_, rfl, hs1⟩
        rw [← HO.out]
        congr 1
        by_cases h : 2 < k <;> simp [h]
      case round =>
        obtain ⟨r, hg3, hg4, rfl, rfl, hs2⟩ := hrel
        clear hs1
        obtain ⟨o, ho⟩ : ∃ o : Int, (if 2 < k ∨ (k = 2 ∧ 4 < r) then 1 else 0) = o := ⟨_, rfl⟩
        have ho0 : 0 ≤ o ∧ o ≤ 1 := by rw [← ho]; split <;> omega
        rw [ho]
        by_cases hr : r < 8
        · have hv := HA.out k r hk1 hk9 hr
          rw [byteAt_in hkz] at hv
          obtain ⟨v, hv2⟩ : ∃ v : Int, (if k = 2 ∧ r = 4 then 1 else 0) = v := ⟨_, rfl⟩
          rw [hv2] at hv
          have hv0 : 0 ≤ v ∧ v ≤ 1 := by rw [← hv2]; split <;> omega
          have e1 : IntKind.i64.wrap v = v := IntWalk.i64_in _ (by omega)
          obtain ⟨hv3, hv4⟩ := hv0
          obtain ⟨ho3, ho4⟩ := ho0
          have HV := Lib.hid hv2
          have HO2 := Lib.hid ho
          clear hv2 ho
          go_wp2_with fail
          go_roundg (gk - 1)
          case measure => omega
          case rel =>
            refine ⟨r + 1, by omega, by omega, ?_, by go_num, hs2⟩
            rw [← HV.out, ← HO2.out]
            congr 1
            by_cases h1 : k = 2
            · subst h1
              rcases Nat.lt_trichotomy r 4 with h | h | h
              · rw [if_neg (by omega), if_neg (by omega), if_neg (by omega)]; rfl
              · rw [if_neg (by omega), if_pos (by omega), if_pos (by omega)]; rfl
              · rw [if_pos (by omega), if_neg (by omega), if_pos (by omega)]; rfl
            · by_cases h2 : 2 < k
              · rw [if_pos (by omega), if_neg (by omega), if_pos (by omega)]; rfl
              · rw [if_neg (by omega), if_neg (by omega), if_neg (by omega)]; rfl
        · go_wp2_with fail
          go_roundg (gO - 1)
          case measure => omega
          case rel =>
            refine ⟨k + 1, by omega, by omega, by omega, ?_, by go_num, hs2⟩
            rw [← ho]
            congr 1
            by_cases h1 : 2 < k + 1
            · rw [if_pos h1, if_pos (by omega)]
            · rw [if_neg h1, if_neg (by omega)]
    · obtain rfl : k = 9 := by omega
      go_wp2_with fail
      have h9 := (hs1.alloc (.cells #[.string ⟨#[]⟩, .string ⟨#[1, 0, 0, 0, 0, 0, 0, 0]⟩, .string ⟨#[0, 0, 0, 0, 0, 0, 0, 0, 0]⟩, .string ⟨#[9, 0, 0, 0, 0, 0, 0, 0, 0]⟩] 9))
      have h9 := h9.pt_row (size := 1) 4 4 0 (strs lits) rfl (strs_one _) (by omega) (by unfold maxLen; omega) (by simp) (by simp [strs, lits])
      go_loopg [125] 4 (fun gh i w' => ∃ (j : Nat), j + gh ≤ 4 ∧ 4 ≤ j + gh ∧ i = .int .i64 j ∧ Sat B [row 9 1 (.slice (some ⟨wr.heap.size, 0, none⟩) 4 4) 4 (strs lits)] w')
      case atStart => exact ⟨0, by omega, by omega, rfl, h9⟩
      case round =>
        obtain ⟨j, hg3, hg4, rfl, hs2⟩ := hrel
        clear h9 hs1
        by_cases hj : j < 4
        · have hjl : j < lits.length := hj
          obtain ⟨g, off, _, he, q⟩ := row_strs_at hs2 j hjl
          cases he
          rw [Nat.zero_add] at q
          have hb := lits_bad (lits[j]'hjl) (List.getElem_mem hjl)
          obtain ⟨s, hs⟩ : ∃ s, lits[j]'hjl = s := ⟨_, rfl⟩
          rw [hs] at q hb
          obtain ⟨s1, s2, s3⟩ := hb
          have c1 := fun w => check_any w s s3
          rw [s1] at c1
          have HC := Lib.hid c1
          have H2 := Lib.hid s2
          clear hs s1 s2 c1
          go_wp2_with fail
          refine (HC.out _).mono ?_
          rintro e w10 ⟨rfl, rfl⟩
          go_wp2_with fail
          refine (bhas s ⟨#[97]⟩ s3 (by decide) hs2).mono ?_
          rw [H2.out]
          rintro e w10 ⟨rfl, h10⟩
          go_wp2_with fail
          go_roundg (gk - 1)
          case measure => omega
          case rel => exact ⟨j + 1, by omega, by omega, by go_num, h10⟩
        · go_wp2_with fail
          refine (works_any hs2).mono ?_
          rintro e w10 ⟨rfl, h10⟩
          go_wp2_with fail
          go_ret
          exact ⟨rfl, h10.below⟩
end
end Go.Proofs.Ytgccdndlpjbkhaa
