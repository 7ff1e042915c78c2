/-
  WalPlays: the document's log (acreageref07): Name, number. WalPlays: the document's log (acreageref07): number. WalPlays: the document's log (acreageref07): Files, records. WalPlays: the document's log (acreageref07): First, Next, Get. WalPlays: the document's log (acreageref07): Get.
-/
import Derived.Test.YtdngjkjoahgelaaGreatDoorQfA
namespace Go.Proofs.YtdngjkjoahgelaaGreatDoor
set_option linter.all false
set_option maxRecDepth 100000
set_option maxHeartbeats 1000000
open Go.RowKit
theorem digsK_cons : ∀ (k n : Nat), digsK (k + 1) n = UInt8.ofNat (48 + n / 10 ^ k % 10) :: digsK k n
  | 0, n => by simp [digsK]
  | k + 1, n => by
    have e : digsK (k + 1) n = digsK k (n / 10) ++ [UInt8.ofNat (48 + n % 10)] := rfl
    have e2 : digsK (k + 1 + 1) n = digsK (k + 1) (n / 10) ++ [UInt8.ofNat (48 + n % 10)] := rfl
    rw [e2, digsK_cons k (n / 10), e, List.cons_append, Nat.div_div_eq_div_mul, Nat.pow_succ']
theorem set_mid {α : Type} (k : Nat) (z d : α) (D : List α) : (List.replicate (k + 1) z ++ D).set k d = List.replicate k z ++ d :: D := by
  rw [List.replicate_succ', List.append_assoc, List.set_append_right _ _ (by simp)]
  simp
theorem cells_set (k : Nat) (d : UInt8) (D : Bt) (x : Int) (hx : x = (d.toNat : Int)) : ((u8s (List.replicate (k + 1) 0 ++ D)).toArray).setIfInBounds k (.int .u8 x) = (u8s (List.replicate k 0 ++ d :: D)).toArray := by
  subst hx
  rw [List.setIfInBounds_toArray, ← set_mid k 0 d D, u8s, u8s, List.map_set]
theorem u8s_app (a b : Bt) : u8s (a ++ b) = u8s a ++ u8s b := by simp [u8s]
section
variable {B w : World} {L : List HP}
/-- 'Name'. -/
theorem pqName (p : Bt) (n : Nat) (hn : n < 10 ^ 16) (hp : p.length ≤ 1000000) : Calls Tryz.prog 54 #[.string (bA p), .int .u64 (n : Int)] w fun y w' => y = .returned (.string (bA (nameW p n))) ∧ Below w.heap.size w w' := by
  have hz : (bA p).size = p.length := bA_size _
  have p1 : (p.length : Int) ≤ 1000000 := by omega
  have Hn := Lib.hid hn
  have hnm : nameW p n = p ++ digsK 16 n := by rw [nameW, pad16_eq hn]
  rw [hnm]
  clear hnm hn
  obtain ⟨b, hb⟩ : ∃ b, w.heap.size = b := ⟨_, rfl⟩
  have hA : Sat w (pt b (.cells (u8s (List.replicate (16 - 0) 0 ++ digsK 0 n)).toArray 143) :: []) (w.alloc (.cells #[.int .u8 0, .int .u8 0, .int .u8 0, .int .u8 0, .int .u8 0, .int .u8 0, .int .u8 0, .int .u8 0, .int .u8 0, .int .u8 0, .int .u8 0, .int .u8 0, .int .u8 0, .int .u8 0, .int .u8 0, .int .u8 0] 143)) := (Sat.start w).alloc' _ hb.symm
  go_enter Tryz.func54, Tryz.ntmps54
  go_wp2_with fail
  generalize w.alloc (.cells _ 143) = w1 at hA ⊢
  go_loopg [1, 6] 17 (fun gh v1 v6 wr => ∃ k : Nat, k ≤ 16 ∧ 17 ≤ k + gh ∧ v1 = .int .u64 ((n / 10 ^ k : Nat) : Int) ∧ v6 = .int .i64 (15 - (k : Int)) ∧ Sat w (pt b (.cells (u8s (List.replicate (16 - k) 0 ++ digsK k n)).toArray 143) :: []) wr)
  case atStart => exact ⟨0, by omega, by omega, by simp, rfl, hA⟩
  case round =>
    obtain ⟨k, hk1, hk2, rfl, rfl, hS⟩ := hrel
    obtain ⟨m, hm⟩ : ∃ m, n / 10 ^ k = m := ⟨_, rfl⟩
    have hml : m < 10 ^ 16 := by rw [← hm]; exact Nat.lt_of_le_of_lt (Nat.div_le_self _ _) Hn.out
    have m1 : (m : Int) ≤ 10000000000000000 := by omega
    have Hm := Lib.hid hm
    rw [hm]
    clear hA
    by_cases hk : k < 16
    · obtain ⟨j, hj⟩ : ∃ j, 15 - k = j := ⟨_, rfl⟩
      have j0 : 15 - (k : Int) = (j : Int) := by omega
      have j1 : (0 : Int) ≤ (j : Int) := by omega
      have j2 : (j : Int) < 16 := by omega
      have j3 : 16 - k = j + 1 := by omega
      rw [j3] at hS
      rw [j0]
      have cj : wr.cell? ⟨b, j, none⟩ = some (.int .u8 0) := by
        rw [hS.pt_cell j, u8s_app]
        simp only [List.getElem?_toArray]
        rw [List.getElem?_append_left (by simp [u8s])]
        simp [u8s]
      have fj := hS.pt_free j
      have hd : IntKind.u8.wrap (48 + (m : Int) % 10) = ((UInt8.ofNat (48 + m % 10)).toNat : Int) := by rw [← byte_of]; congr 1
      have hd2 : IntKind.u64.wrap (48 + (m : Int) % 10) = 48 + (m : Int) % 10 := by simp [IntKind.wrap, IntKind.bits, IntKind.signed]; omega
      have Hnx := Lib.hid (show (n / 10 ^ (k + 1) : Nat) = m / 10 by rw [Nat.pow_succ, ← Nat.div_div_eq_div_mul, hm])
      clear hm hj
      go_wp2_with fail
      have hS2 := hS.set (j := j) (.int .u8 ((48 + (m : Int) % 10) % 256))
      rw [cells_set j (UInt8.ofNat (48 + m % 10)) _ _ (by rw [← hd]; rfl)] at hS2
      go_roundg (gk - 1)
      case measure => omega
      case rel =>
        refine ⟨k + 1, by omega, by omega, by rw [Hnx.out]; go_num, by go_num, ?_⟩
        have e1 : 16 - (k + 1) = j := by omega
        rw [e1, digsK_cons, Hm.out]
        exact hS2
    · obtain rfl : k = 16 := by omega
      have hS2 : Sat w (pt b (.cells (u8s (digsK 16 n)).toArray 143) :: []) wr := hS
      have hr : reads wr (.slice (some ⟨b, 0, none⟩) 16 16) 16 (u8s (digsK 16 n)) :=
        (hS2.pt_row (e := 143) (size := 1) 16 16 0 (u8s (digsK 16 n)) (by rw [u8s_len, digsK_len]) (u8s_one _) (Nat.le_refl _) (by unfold maxLen; omega) (by rw [List.size_toArray, u8s_len, digsK_len]; omega) (by rw [List.drop_zero, List.take_of_length_le (by rw [List.toList_toArray, u8s_len, digsK_len]; omega), List.toList_toArray])).row_reads
      have hdl : (digsK 16 n).length = 16 := digsK_len 16 n
      have hsz : (bA (digsK 16 n)).size = 16 := by rw [bA_size, digsK_len]
      obtain ⟨dd, hdd⟩ : ∃ dd, digsK 16 n = dd := ⟨_, rfl⟩
      have Hdd := Lib.hid hdd
      rw [hdd] at hr hdl hsz
      clear hS hm hdd hml m1
      go_wp2_with ((with_reducible refine wpList_bytes_string rfl (.tmp 20) rfl Tryz.underlying97 Tryz.underlying5 Tryz.underlying9 (.slice (some ⟨b, 0, none⟩) 16 16) 16 dd rfl hr hdl ?_); go_frame)
      go_ret
      rw [Hdd.out, ← bA_app]
      exact ⟨rfl, hS2.below⟩
end
end Go.Proofs.YtdngjkjoahgelaaGreatDoor

namespace Go.Proofs.YtdngjkjoahgelaaGreatDoor
set_option linter.all false
set_option maxRecDepth 100000
set_option maxHeartbeats 1000000
open Go.RowKit
theorem decV_lt : ∀ (k : Nat) (l : Bt), l.length = k → l.all isDig = true → decV l < 10 ^ k := fun k l h1 h2 => (digsK_decV k l h1 h2).2
section
variable {B w : World} {L : List HP}
/-- 'number'. -/
theorem pqnumber (p t : Bt) (hp : p.length ≤ 1000000) (ht : t.length ≤ 1000000) : Calls Tryz.prog 85 #[.string (bA p), .string (bA (p ++ t))] w fun y w' => y = .returned (.int .u64 (numberB t : Int)) ∧ w' = w := by
  obtain ⟨m, hm⟩ : ∃ m, p.length = m := ⟨_, rfl⟩
  obtain ⟨n, hn⟩ : ∃ n, t.length = n := ⟨_, rfl⟩
  have hz : (bA p).size = m := by rw [bA_size, hm]
  have hz2 : (bA (p ++ t)).size = m + n := by rw [bA_size, List.length_append, hm, hn]
  have Hm := Lib.hid hm
  have Hn := Lib.hid hn
  rw [hm] at hp
  rw [hn] at ht
  have m1 : (m : Int) ≤ 1000000 := by omega
  have n1 : (n : Int) ≤ 1000000 := by omega
  obtain ⟨nm, hnm⟩ : ∃ nm, p ++ t = nm := ⟨_, rfl⟩
  have hex : (bA nm).extract 0 m = bA p := by rw [← hnm]; have := ext_take (p ++ t) (m : Int) m rfl; rw [List.take_left' hm] at this; exact this
  have hat : ∀ (k : Nat) (c : UInt8), t[k]? = some c → nm[m + k]? = some c := fun k c h => by rw [← hnm, List.getElem?_append_right (by omega), hm, Nat.add_sub_cancel_left]; exact h
  have Hat := Lib.hid hat
  rw [hnm] at hz2 ⊢
  clear hat hnm hm hn
  by_cases h16 : n = 16
  · subst h16
    go_enter Tryz.func85, Tryz.ntmps85
    go_wp2_with fail
    go_loopg [5, 6] 17 (fun gh v5 v6 wr => ∃ k q : Nat, k ≤ 16 ∧ 17 ≤ k + gh ∧ v5 = .int .u64 (q : Int) ∧ v6 = .int .i64 ((m : Int) + (k : Int)) ∧ Hid (decV (t.take k) = q) ∧ Hid ((t.take k).all isDig = true) ∧ wr = w)
    case atStart => exact ⟨0, 0, by omega, by omega, rfl, by simp, Lib.hid rfl, Lib.hid rfl, rfl⟩
    case round =>
      obtain ⟨k, q, hk1, hk2, rfl, rfl, Hq, Had, rfl⟩ := hrel
      have hql : q < 10 ^ 16 := by
        rw [← Hq.out]
        have h1 := decV_lt k (t.take k) (by rw [List.length_take, Hn.out]; omega) Had.out
        have h2 : 10 ^ k ≤ 10 ^ 16 := Nat.pow_le_pow_right (by omega) hk1
        omega
      have q1 : (q : Int) ≤ 10000000000000000 := by omega
      by_cases hk : k < 16
      · obtain ⟨c, hc⟩ : ∃ c, t[k]? = some c := ⟨_, List.getElem?_eq_getElem (by rw [Hn.out]; exact hk)⟩
        obtain ⟨j, hj⟩ : ∃ j, m + k = j := ⟨_, rfl⟩
        have hji : (m : Int) + (k : Int) = (j : Int) := by omega
        have hix := str_at (Hat.out k c hc)
        rw [hj] at hix
        have j1 : (j : Int) < (m : Int) + 16 := by omega
        have j1' : (j : Int) < ((m + 16 : Nat) : Int) := by omega
        have j2 : (j : Int) + 1 = (m : Int) + ((k + 1 : Nat) : Int) := by omega
        have j3 : IntKind.i64.wrap ((j : Int) + 1) = (j : Int) + 1 := i64_id2 (by omega) (by omega)
        have htk : t.take (k + 1) = t.take k ++ [c] := by rw [List.take_add_one, hc]; rfl
        have hcl := c.toNat_lt
        have c1 : (c.toNat : Int) ≤ 255 := by omega
        rw [hji]
        clear hji hj hcl
        by_cases hd1 : c.toNat < 48
        · have c2 : (c.toNat : Int) < 48 := by omega
          have hno := Lib.hid (show numberB t = 0 by
            rw [numberB, if_neg]
            rintro ⟨_, h2, _⟩
            have := List.all_eq_true.1 h2 c (List.mem_of_getElem? hc)
            simp [isDig] at this; omega)
          clear hd1 htk hc
          go_wp2_with fail
          go_ret
          rw [hno.out]
          exact ⟨rfl, rfl⟩
        · have c2 : ¬ (c.toNat : Int) < 48 := by omega
          by_cases hd2 : 57 < c.toNat
          · have c3 : (57 : Int) < (c.toNat : Int) := by omega
            have c3' : (c.toNat : Int) > 57 := by omega
            have hno := Lib.hid (show numberB t = 0 by
              rw [numberB, if_neg]
              rintro ⟨_, h2, _⟩
              have := List.all_eq_true.1 h2 c (List.mem_of_getElem? hc)
              simp [isDig] at this; omega)
            clear hd1 hd2 htk hc
            go_wp2_with fail
            go_ret
            rw [hno.out]
            exact ⟨rfl, rfl⟩
          · have c3 : ¬ (c.toNat : Int) > 57 := by omega
            have c3' : ¬ (57 : Int) < (c.toNat : Int) := by omega
            have hdig : isDig c = true := by simp [isDig]; omega
            have Hq2 := Lib.hid (show decV (t.take (k + 1)) = 10 * q + (c.toNat - 48) by rw [htk, decV_snoc, Hq.out])
            have Ha2 := Lib.hid (show (t.take (k + 1)).all isDig = true by rw [htk, List.all_append, Had.out]; simp [hdig])
            have w1 : IntKind.u8.wrap ((c.toNat : Int) - 48) = (c.toNat : Int) - 48 := by simp [IntKind.wrap, IntKind.bits, IntKind.signed]; omega
            have w2 : IntKind.u64.wrap (10 * (q : Int)) = 10 * (q : Int) := by simp [IntKind.wrap, IntKind.bits, IntKind.signed]; omega
            have w3 : IntKind.u64.wrap (10 * (q : Int) + ((c.toNat : Int) - 48)) = 10 * (q : Int) + ((c.toNat : Int) - 48) := by simp [IntKind.wrap, IntKind.bits, IntKind.signed]; omega
            clear hd1 hd2 htk hc hdig
            go_wp2_with fail
            go_roundg (gk - 1)
            case measure => omega
            case rel => exact ⟨k + 1, 10 * q + (c.toNat - 48), by omega, by omega, by go_num, by go_num, Hq2, Ha2, rfl⟩
      · obtain rfl : k = 16 := by omega
        have j1 : ¬ (m : Int) + ((16 : Nat) : Int) < (m : Int) + 16 := by omega
        have htk : t.take 16 = t := List.take_of_length_le (by rw [Hn.out]; exact Nat.le_refl _)
        have hqe := Hq.out
        have hae := Had.out
        rw [htk] at hqe hae
        by_cases hbig : q ≤ 1000000000000000
        · have b1 : ¬ (q : Int) > 1000000000000000 := by omega
          have hno := Lib.hid (show numberB t = q by rw [numberB, if_pos ⟨Hn.out, hae, by rw [hqe]; exact hbig⟩, hqe])
          clear hqe hae htk hbig hk
          go_wp2_with fail
          go_ret
          rw [hno.out]
          exact ⟨rfl, rfl⟩
        · have b1 : (q : Int) > 1000000000000000 := by omega
          have b1' : (1000000000000000 : Int) < (q : Int) := by omega
          have hno := Lib.hid (show numberB t = 0 by rw [numberB, if_neg (fun h => hbig (by rw [← hqe]; exact h.2.2))])
          clear hqe hae htk hbig hk
          go_wp2_with fail
          go_ret
          rw [hno.out]
          exact ⟨rfl, rfl⟩
  · have hno := Lib.hid (show numberB t = 0 by rw [numberB, if_neg (fun h => h16 (Hn.out.symm.trans h.1))])
    have hne : ¬ ((m : Int) + (n : Int) = (m : Int) + 16) := by omega
    clear h16
    go_enter Tryz.func85, Tryz.ntmps85
    go_wp2_with fail
    go_ret
    rw [hno.out]
    exact ⟨rfl, rfl⟩
end
end Go.Proofs.YtdngjkjoahgelaaGreatDoor

namespace Go.Proofs.YtdngjkjoahgelaaGreatDoor
set_option linter.all false
set_option maxRecDepth 100000
set_option maxHeartbeats 1000000
open Go.RowKit
/-- The document's log as a value. -/
abbrev wval (room : Int) (v : Value) (p : Bt) (most : Int) : Value := .agg #[.int .i64 room, v, .string (bA p), .int .i64 most]
theorem readD_bytes (D : Fls) (s : Bt) : (readD D s).1 = bytesOf s D := by
  unfold readD bytesOf
  cases getF s D <;> rfl
theorem take_map_filter (l : List Bt) (p : Bt) {i : Nat} {x : Bt} (h : l[i]? = some x) : ((l.take (i + 1)).map fun s => numberB (s.drop p.length)).filter (fun n => decide (0 < n)) = ((l.take i).map fun s => numberB (s.drop p.length)).filter (fun n => decide (0 < n)) ++ (if 0 < numberB (x.drop p.length) then [numberB (x.drop p.length)] else []) := by
  rw [List.take_add_one, h]
  simp only [Option.toList_some, List.map_append, List.map_cons, List.map_nil, List.filter_append, List.filter_cons, List.filter_nil, decide_eq_true_eq]
section
variable {B w w' : World} {L : List HP} {room most : Int} {D : Fls} {v : Value} {p : Bt}
/-- 'Files'. -/
theorem pqFiles (hq : qR w v D) (hl : D.length ≤ 1000000) (hp : p.length ≤ 1000000) (hnl : ∀ f ∈ D, f.name.length ≤ 1000000) :
    Calls Tryz.prog 53 #[wval room v p most] w fun y w' => ∃ v', y = .returned v' ∧ Sat w (row 35 1 v' (numsW D p).length (u64s (numsW D p)) :: []) w' := by
  obtain ⟨a, c, rfl⟩ := hq.len
  obtain ⟨bx, hbx⟩ : ∃ bx, w.heap.size = bx := ⟨_, rfl⟩
  have h1 := (Sat.start w).alloc' (.cells #[.int .i64 room, .slice a D.length c, .string (bA p), .int .i64 most] 58) (n := bx) hbx.symm
  have hli := pqList (room := room) p hp (h1.qR hq) hl hnl
  have x2 := h1.pt_cell 2
  simp only [List.getElem?_toArray, List.getElem?_cons_zero, List.getElem?_cons_succ] at x2
  have hpl : ∀ s ∈ listD D p, ∃ t, s = p ++ t ∧ t.length ≤ 1000000 := fun s hs => by
    obtain ⟨t, e⟩ := (pref_iff p s).1 (List.mem_filter.1 hs).2
    obtain ⟨f, hf, e2⟩ := List.mem_map.1 (List.mem_filter.1 hs).1
    refine ⟨t, e, ?_⟩
    have := hnl f hf
    rw [e2, e, List.length_append] at this
    omega
  have hll : (listD D p).length ≤ 1000000 := Nat.le_trans (List.length_filter_le _ _) (by rw [List.length_map]; exact hl)
  obtain ⟨l, hle⟩ : ∃ l, listD D p = l := ⟨_, rfl⟩
  obtain ⟨n, hn⟩ : ∃ n, l.length = n := ⟨_, rfl⟩
  have hnw : numsW D p = ((l.take n).map fun s => numberB (s.drop p.length)).filter (fun n => decide (0 < n)) := by rw [numsW, hle, ← hn, List.take_length]
  rw [hnw]
  rw [hle] at hli hpl hll
  rw [hn] at hli hll
  have Hn := Lib.hid hn
  have Hpl := Lib.hid hpl
  have Hp := Lib.hid hp
  have Hll := Lib.hid hll
  have n1 : (n : Int) ≤ 1000000 := by omega
  clear hq hnw hle hn hpl hnl hl hp hll
  go_enter Tryz.func53, Tryz.ntmps53
  go_wp2_with fail
  refine hli.mono ?_
  rintro y w1 ⟨lv, rfl, hs1⟩
  have h2 := h1.over hs1
  obtain ⟨la, lc, rfl, hlr⟩ : ∃ la lc, lv = .slice la n lc ∧ True := by
    obtain ⟨la, lc, e, _⟩ := h2.row_reads
    exact ⟨la, lc, e, trivial⟩
  have h3 : Sat w (row 35 1 (.slice none 0 0) (((l.take 0).map fun s => numberB (s.drop p.length)).filter (fun n => decide (0 < n))).length (u64s (((l.take 0).map fun s => numberB (s.drop p.length)).filter (fun n => decide (0 < n)))) :: _) w1 := h2.row_nil _ _
  clear h1 hli x2 hs1 h2 hlr
  go_wp2_with fail
  go_loopg [3, 5] (n + 1) (fun gh v3 v5 wr => ∃ i : Nat, i ≤ n ∧ n + 1 ≤ i + gh ∧ v5 = .int .i64 (i : Int) ∧ Sat w (row 35 1 v3 (((l.take i).map fun s => numberB (s.drop p.length)).filter (fun n => decide (0 < n))).length (u64s (((l.take i).map fun s => numberB (s.drop p.length)).filter (fun n => decide (0 < n)))) ::
    row 9 1 (.slice la n lc) n (strB l) :: pt bx (.cells #[.int .i64 room, .slice a D.length c, .string (bA p), .int .i64 most] 58) :: []) wr)
  case atStart => exact ⟨0, by omega, by omega, rfl, h3⟩
  case round =>
    obtain ⟨i, hi1, hi2, rfl, h5⟩ := hrel
    clear h3
    by_cases hi : i < n
    · obtain ⟨x, hx⟩ : ∃ x, l[i]? = some x := ⟨_, List.getElem?_eq_getElem (by rw [Hn.out]; exact hi)⟩
      obtain ⟨g, off, e, c1, _⟩ := h5.swap.row_cell i (by omega)
      cases e
      have c1' : wr.cell? ⟨g, off + i, none⟩ = some (.string (bA x)) := by rw [c1]; exact strB_get hx
      have x2 : wr.cell? ⟨bx, 2, none⟩ = some (.string (bA p)) := h5.p2.pt_cell 2
      obtain ⟨t, rfl, ht⟩ := Hpl.out x (List.mem_of_getElem? hx)
      have hnum := fun (w : World) => pqnumber (w := w) p t Hp.out ht
      have hstep := take_map_filter l p hx
      rw [List.drop_left] at hstep
      have i1 : (i : Int) < (n : Int) := by omega
      obtain ⟨E, hE⟩ : ∃ E, ((l.take i).map fun s => numberB (s.drop p.length)).filter (fun n => decide (0 < n)) = E := ⟨_, rfl⟩
      have hEl : E.length ≤ i := by
        rw [← hE]
        exact Nat.le_trans (List.length_filter_le _ _) (by rw [List.length_map, List.length_take]; omega)
      rw [hE] at h5 hstep
      obtain ⟨q, hq⟩ : ∃ q, numberB t = q := ⟨_, rfl⟩
      rw [hq] at hnum hstep
      clear hE hx c1
      have d1 : E.length + 1 ≤ maxLen := by have := Hll.out; unfold maxLen; omega
      have d2 : (E.length + 1) * 8 ≤ 140737488355328 := by have := Hll.out; omega
      clear hq hEl
      by_cases hq0 : 0 < q
      · rw [if_pos hq0] at hstep
        have q1 : (q : Int) > 0 := by omega
        have q1' : (0 : Int) < (q : Int) := by omega
        have Hst := Lib.hid hstep
        clear hstep hq0
        go_wp2_with fail
        go_quiet ((go_at_call 85; exact Calls.quiet_of_same (hnum _)))
        have h6 := ((h5.drewN nq).alloc (.cells #[.int .u64 (q : Int)] 35)).swap
        generalize hw3 : wr.drewN nq = w3 at h6 ⊢
        go_wp2_with (at_builtin; refine wpList_append_row rfl u64Elem (.tmp 27) (.tmp 29) rfl u3 _ E.length 1 (u64s E) [.int .u64 (q : Int)] rfl rfl h6 (reads_new _ _ rfl (by omega)) rfl (by simp [Value.oneCell']) d1 d2 ?_; intro a' c' w8 h8; go_frame)
        go_roundg (gk - 1)
        case measure => omega
        case rel =>
          refine ⟨i + 1, by omega, by omega, by go_num, ?_⟩
          rw [Hst.out, List.length_append]
          have es : u64s (E ++ [q]) = u64s E ++ [.int .u64 (q : Int)] := by simp [u64s]
          rw [es]
          exact h8.swap.drop
      · rw [if_neg hq0, List.append_nil] at hstep
        obtain rfl : q = 0 := by omega
        have Hst := Lib.hid hstep
        clear hstep hq0
        go_wp2_with fail
        go_quiet ((go_at_call 85; exact Calls.quiet_of_same (hnum _)))
        have h6 := h5.drewN nq
        generalize hw3 : wr.drewN nq = w3 at h6 ⊢
        go_wp2_with fail
        go_roundg (gk - 1)
        case measure => omega
        case rel => exact ⟨i + 1, by omega, by omega, by go_num, by rw [Hst.out]; exact h6⟩
    · obtain rfl : i = n := by omega
      have hni : ¬ (i : Int) < (i : Int) := by omega
      go_wp2_with fail
      go_ret
      have h6 := h5.swap.drop.swap.drop
      refine ⟨u3, rfl, ?_⟩
      simp only [List.map_take] at h6 ⊢
      exact h6
/-- 'records'. -/
theorem precords (n : Nat) (hn : n < 10 ^ 16) (hq : qR w v D) (hsr : SrtBy Fl.name D) (hl : D.length ≤ 1000000) (hp : p.length ≤ 1000000) (hb : ∀ f ∈ D, f.bytes.length ≤ 1099511627776) :
    Calls Tryz.prog 63 #[wval room v p most, .int .u64 (n : Int)] w fun y w' => ∃ v', y = .returned v' ∧ Sat w (row 9 1 v' (scanB (bytesOf (nameW p n) D)).length (strB (scanB (bytesOf (nameW p n) D))) :: []) w' := by
  obtain ⟨a, c, rfl⟩ := hq.len
  obtain ⟨bx, hbx⟩ : ∃ bx, w.heap.size = bx := ⟨_, rfl⟩
  have h1 := (Sat.start w).alloc' (.cells #[.int .i64 room, .slice a D.length c, .string (bA p), .int .i64 most] 58) (n := bx) hbx.symm
  have hS : ∀ w', Sat w (pt bx (.cells #[.int .i64 room, .slice a D.length c, .string (bA p), .int .i64 most] 58) :: []) w' → w'.cell? ⟨bx, 0, none⟩ = some (.int .i64 room) ∧ w'.cell? ⟨bx, 1, none⟩ = some (.slice a D.length c) ∧ w'.cell? ⟨bx, 2, none⟩ = some (.string (bA p)) := fun w' h => ⟨h.pt_cell 0, h.pt_cell 1, h.pt_cell 2⟩
  have hN := fun (w : World) => pqName (w := w) p n hn hp
  have hR := fun (w3 : World) (hb3 : Below w.heap.size w w3) => pqRead (room := room) (w := w3) (nameW p n) (hq.up hb3) hsr hl
  obtain ⟨s, hs⟩ : ∃ s, bytesOf (nameW p n) D = s := ⟨_, rfl⟩
  have hsl : s.length ≤ 1099511627776 := by
    rw [← hs, bytesOf]
    cases hg : getF (nameW p n) D with
    | none => simp
    | some f => exact hb f (getF_mem hg)
  obtain ⟨er, her⟩ : ∃ er, (readD D (nameW p n)).2 = er := ⟨_, rfl⟩
  simp only [readD_bytes, hs, her] at hR
  rw [hs]
  have hSc := fun (w : World) => pqScan (w := w) s hsl
  clear hs her hsl hb hq hsr hl hp hn
  have h1d := h1.drew
  have h0 := hS _ h1d
  go_enter Tryz.func63, Tryz.ntmps63
  go_wp2_with fail
  generalize w.alloc (.cells #[.int .i64 room, .slice a D.length c, .string (bA p), .int .i64 most] 58) = w1 at h1 h1d h0 ⊢
  go_region_held3 (fun w' => w'.cell? ⟨bx, 0, none⟩ = some (.int .i64 room) ∧ w'.cell? ⟨bx, 1, none⟩ = some (.slice a D.length c) ∧ w'.cell? ⟨bx, 2, none⟩ = some (.string (bA p)))
    (first | exact h0 | exact hS _ h3 | exact hS _ h2)
    (first
      | (go_at_call 54; refine (hN _).mono ?_; rintro y w2 ⟨rfl, hb2⟩; have h2 := h1d.of_below hb2)
      | (go_at_call 55; refine (hR _ h2.below).mono ?_; rintro y w3 ⟨rfl, hb3⟩; have h3 := h2.of_below hb3))
  all_goals
    go_wp2_with (go_at_call 56; refine (hSc _).mono ?_; rintro y w4 ⟨v4, rfl, hs4⟩; have h4 := h3.over hs4)
    go_ret
    exact ⟨_, rfl, h4.swap.drop⟩
end
end Go.Proofs.YtdngjkjoahgelaaGreatDoor

namespace Go.Proofs.YtdngjkjoahgelaaGreatDoor
set_option linter.all false
set_option maxRecDepth 100000
set_option maxHeartbeats 1000000
open Go.RowKit
/-- What the document's functions ask of a disk: files in order, not too many. -/
structure QD (D : Fls) : Prop where
  srt : SrtBy Fl.name D
  len : D.length ≤ 1000000
  names : ∀ f ∈ D, f.name.length ≤ 1000000
  used : usedD D ≤ 1099511627776
theorem QD.bytes {D : Fls} (h : QD D) : ∀ f ∈ D, f.bytes.length ≤ 1099511627776 := fun f hf => by
  have h5 := h.used
  obtain ⟨l1, l2, e⟩ := List.append_of_mem hf
  rw [e, used_mid] at h5; omega
theorem QD.bytesOf {D : Fls} (h : QD D) (s : Bt) : (bytesOf s D).length ≤ 1099511627776 := by
  unfold Go.Proofs.YtdngjkjoahgelaaGreatDoor.bytesOf
  cases hg : getF s D with
  | none => simp
  | some f => exact h.bytes f (getF_mem hg)
/-- A file's records. -/
def recsQ (D : Fls) (p : Bt) (n : Nat) : List Bt := scanB (bytesOf (nameW p n) D)
def firstQ (D : Fls) (p : Bt) : Nat := (numsW D p).headD 1
def nextQ (D : Fls) (p : Bt) : Nat := match (numsW D p).getLast? with
  | none => 1
  | some l => l + (recsQ D p l).length
def getQ (D : Fls) (p : Bt) (n : Nat) : List Nat → Option Bt
  | [] => none
  | l :: ls => if l ≤ n ∧ n - l < (recsQ D p l).length then (recsQ D p l)[n - l]? else getQ D p n ls
theorem nums_inR {D : Fls} {p : Bt} {n : Nat} (h : n ∈ numsW D p) : inR n := ((nums_mem n).1 h).1
theorem scan_len_le (s : Bt) : 8 * (scanB s).length ≤ s.length := Nat.le_trans (rs_le _) (scan_good s.length s (Nat.le_refl _)).1
theorem recsQ_len {D : Fls} (h : QD D) (p : Bt) (n : Nat) : (recsQ D p n).length ≤ 1099511627776 := by
  have h1 := scan_len_le (bytesOf (nameW p n) D)
  have h2 := h.bytesOf (nameW p n)
  unfold recsQ; omega
theorem nums_len {D : Fls} (h : QD D) (p : Bt) : (numsW D p).length ≤ 1000000 := by
  unfold numsW
  refine Nat.le_trans (List.length_filter_le _ _) ?_
  rw [List.length_map]
  exact Nat.le_trans (List.length_filter_le _ _) (by rw [List.length_map]; exact h.len)
theorem u64s_get {l : List Nat} {i x : Nat} (h : l[i]? = some x) : (u64s l)[i]? = some (.int .u64 (x : Int)) := by simp [u64s, h]
section
variable {B w w' : World} {L : List HP} {room most : Int} {D : Fls} {v : Value} {p : Bt}
/-- 'First'. -/
theorem pqFirst (hq : qR w v D) (hD : QD D) (hp : p.length ≤ 1000000) :
    Calls Tryz.prog 31 #[wval room v p most] w fun y w' => y = .returned (.int .u64 (firstQ D p : Int)) ∧ Below w.heap.size w w' := by
  obtain ⟨a, c, rfl⟩ := hq.len
  obtain ⟨bx, hbx⟩ : ∃ bx, w.heap.size = bx := ⟨_, rfl⟩
  have h1 := (Sat.start w).alloc' (.cells #[.int .i64 room, .slice a D.length c, .string (bA p), .int .i64 most] 58) (n := bx) hbx.symm
  have hF := pqFiles (room := room) (most := most) (h1.qR hq) hD.len hp hD.names
  obtain ⟨l, hl⟩ : ∃ l, numsW D p = l := ⟨_, rfl⟩
  rw [hl] at hF
  have Hl := Lib.hid hl
  clear hq hl
  go_enter Tryz.func31, Tryz.ntmps31
  go_wp2_with fail
  refine hF.mono ?_
  rintro y w2 ⟨v2, rfl, hs2⟩
  have h2 := h1.over hs2
  clear hF h1 hs2
  cases l with
  | nil =>
    obtain ⟨la, lc, rfl, _⟩ := h2.row_reads
    go_wp2_with fail
    go_ret
    refine ⟨?_, h2.below⟩
    rw [firstQ, Hl.out]; rfl
  | cons x l =>
    obtain ⟨la, lc, e, hlr⟩ := h2.row_reads
    subst e
    obtain ⟨g, off, e, c1, _⟩ := h2.row_cell 0 (by simp)
    subst e
    have c1' : w2.cell? ⟨g, off, none⟩ = some (.int .u64 (x : Int)) := by simpa [u64s] using c1
    clear c1
    obtain ⟨n, hn⟩ : ∃ n, (x :: l).length = n + 1 := ⟨l.length, rfl⟩
    rw [hn]
    clear hlr
    go_wp2_with fail
    go_ret
    refine ⟨?_, h2.below⟩
    rw [firstQ, Hl.out]; rfl
/-- 'Next'. -/
theorem pqNext (hq : qR w v D) (hD : QD D) (hp : p.length ≤ 1000000) :
    Calls Tryz.prog 32 #[wval room v p most] w fun y w' => y = .returned (.int .u64 (nextQ D p : Int)) ∧ Below w.heap.size w w' := by
  obtain ⟨a, c, rfl⟩ := hq.len
  obtain ⟨bx, hbx⟩ : ∃ bx, w.heap.size = bx := ⟨_, rfl⟩
  have h1 := (Sat.start w).alloc' (.cells #[.int .i64 room, .slice a D.length c, .string (bA p), .int .i64 most] 58) (n := bx) hbx.symm
  have hF := pqFiles (room := room) (most := most) (h1.qR hq) hD.len hp hD.names
  obtain ⟨l, hl⟩ : ∃ l, numsW D p = l := ⟨_, rfl⟩
  have hin : ∀ n ∈ l, inR n := fun n h => nums_inR (D := D) (p := p) (by rw [hl]; exact h)
  have hnl := nums_len hD p
  have hR := fun (w3 : World) (n : Nat) (hn : inR n) (hb3 : Below w.heap.size w w3) => precords (room := room) (most := most) (w := w3) n (by have := hn.2; omega) (hq.up hb3) hD.srt hD.len hp hD.bytes
  rw [hl] at hF hnl
  have Hl := Lib.hid hl
  have HD := Lib.hid hD
  clear hq hl hD
  go_enter Tryz.func32, Tryz.ntmps32
  go_wp2_with fail
  refine hF.mono ?_
  rintro y w2 ⟨v2, rfl, hs2⟩
  have h2 := h1.over hs2
  clear hF h1 hs2
  by_cases hnil : l = []
  · subst hnil
    obtain ⟨la, lc, rfl, _⟩ := h2.row_reads
    go_wp2_with fail
    go_ret
    refine ⟨?_, h2.below⟩
    rw [nextQ, Hl.out]; rfl
  · obtain ⟨n, hn⟩ : ∃ n, l.length = n + 1 := ⟨l.length - 1, by have := List.length_pos_iff.2 hnil; omega⟩
    obtain ⟨x, hx⟩ : ∃ x, l[n]? = some x := ⟨_, List.getElem?_eq_getElem (by omega)⟩
    have hlast : l.getLast? = some x := by rw [List.getLast?_eq_getElem?, hn]; exact hx
    have hxr := hin x (List.mem_of_getElem? hx)
    obtain ⟨la, lc, e, hlr⟩ := h2.row_reads
    subst e
    obtain ⟨g, off, e, c1, _⟩ := h2.row_cell n (by omega)
    subst e
    have c1' : w2.cell? ⟨g, off + n, none⟩ = some (.int .u64 (x : Int)) := by rw [c1]; exact u64s_get hx
    have x0 := h2.swap.pt_cell 0
    have x1 := h2.swap.pt_cell 1
    have x2 := h2.swap.pt_cell 2
    have x3 := h2.swap.pt_cell 3
    simp only [List.getElem?_toArray, List.getElem?_cons_zero, List.getElem?_cons_succ] at x0 x1 x2 x3
    have hrec := hR w2 x hxr h2.below
    obtain ⟨rs, hrs⟩ : ∃ rs, scanB (bytesOf (nameW p x) D) = rs := ⟨_, rfl⟩
    have hrl := recsQ_len HD.out p x
    rw [recsQ, hrs] at hrl
    rw [hrs] at hrec
    have Hnx := Lib.hid (show nextQ D p = x + rs.length by rw [nextQ, Hl.out, hlast]; simp only [recsQ, hrs])
    rw [hn] at hnl ⊢
    have n1 : (n : Int) ≤ 1000000 := by omega
    have xr := hxr.2
    have x9 : (x : Int) ≤ 1000000000000000 := by omega
    obtain ⟨k, hk⟩ : ∃ k, rs.length = k := ⟨_, rfl⟩
    rw [hk] at hrl hrec Hnx
    have k1 : (k : Int) ≤ 1099511627776 := by omega
    have w1 : IntKind.u64.wrap ((x : Int) + (k : Int)) = (x : Int) + (k : Int) := by simp [IntKind.wrap, IntKind.bits, IntKind.signed]; omega
    have w2' : IntKind.u64.wrap (k : Int) = (k : Int) := by simp [IntKind.wrap, IntKind.bits, IntKind.signed]; omega
    clear hx hlast c1 hlr hrs hR hn hk hnil hin
    go_wp2_with (go_at_call 63; refine hrec.mono ?_; rintro y w4 ⟨v4, rfl, hs4⟩; have h4 := h2.over hs4; obtain ⟨ra, rc, rfl, _⟩ := h4.row_reads)
    trace_state
    go_ret
    refine ⟨?_, h4.below⟩
    rw [Hnx.out]; rfl
end
end Go.Proofs.YtdngjkjoahgelaaGreatDoor

namespace Go.Proofs.YtdngjkjoahgelaaGreatDoor
set_option linter.all false
set_option maxRecDepth 100000
set_option maxHeartbeats 1000000
open Go.RowKit
def getQV : Option Bt → Value
  | none => .tuple #[.string ⟨#[]⟩, .int .i64 5]
  | some b => .tuple #[.string (bA b), .int .i64 0]
section
variable {B w w' : World} {L : List HP} {room most : Int} {D : Fls} {v : Value} {p : Bt}
/-- 'Get'. -/
theorem pqGet (m : Nat) (hm : m ≤ 18446744073709551615) (hq : qR w v D) (hD : QD D) (hp : p.length ≤ 1000000) :
    Calls Tryz.prog 29 #[wval room v p most, .int .u64 (m : Int)] w fun y w' => y = .returned (getQV (getQ D p m (numsW D p))) ∧ Below w.heap.size w w' := by
  obtain ⟨a, c, rfl⟩ := hq.len
  obtain ⟨bx, hbx⟩ : ∃ bx, w.heap.size = bx := ⟨_, rfl⟩
  have h1 := (Sat.start w).alloc' (.cells #[.int .i64 room, .slice a D.length c, .string (bA p), .int .i64 most] 58) (n := bx) hbx.symm
  have hF := pqFiles (room := room) (most := most) (h1.qR hq) hD.len hp hD.names
  obtain ⟨l, hl⟩ : ∃ l, numsW D p = l := ⟨_, rfl⟩
  have hin : ∀ n ∈ l, inR n := fun n h => nums_inR (D := D) (p := p) (by rw [hl]; exact h)
  have hnl := nums_len hD p
  have hR := fun (w3 : World) (n : Nat) (hn : inR n) (hb3 : Below w.heap.size w w3) => precords (room := room) (most := most) (w := w3) n (by have := hn.2; omega) (hq.up hb3) hD.srt hD.len hp hD.bytes
  obtain ⟨n, hn⟩ : ∃ n, l.length = n := ⟨_, rfl⟩
  rw [hl] at hF hnl
  rw [hl]
  rw [hn] at hF hnl
  have Hn := Lib.hid hn
  have HD := Lib.hid hD
  have Hin := Lib.hid hin
  have Hm := Lib.hid hm
  have n1 : (n : Int) ≤ 1000000 := by omega
  have m1 : (m : Int) ≤ 18446744073709551615 := by omega
  clear hq hl hD hin hn hm
  go_enter Tryz.func29, Tryz.ntmps29
  go_wp2_with fail
  refine hF.mono ?_
  rintro y w2 ⟨v2, rfl, hs2⟩
  have h2 := h1.over hs2
  clear hF h1 hs2
  obtain ⟨la, lc, rfl, _⟩ := h2.row_reads
  go_wp2_with fail
  go_loopg [7] (n + 1) (fun gh v7 wr => ∃ i : Nat, i ≤ n ∧ n + 1 ≤ i + gh ∧ v7 = .int .i64 (i : Int) ∧ Hid (getQ D p m (l.drop i) = getQ D p m l) ∧
    Sat w (row 35 1 (.slice la n lc) n (u64s l) :: pt bx (.cells #[.int .i64 room, .slice a D.length c, .string (bA p), .int .i64 most] 58) :: []) wr)
  case atStart => exact ⟨0, by omega, by omega, rfl, Lib.hid rfl, h2⟩
  case round =>
    obtain ⟨i, hi1, hi2, rfl, Hg, h5⟩ := hrel
    clear h2
    by_cases hi : i < n
    · obtain ⟨x, hx⟩ : ∃ x, l[i]? = some x := ⟨_, List.getElem?_eq_getElem (by rw [Hn.out]; exact hi)⟩
      have hxr := Hin.out x (List.mem_of_getElem? hx)
      have hdr : l.drop i = x :: l.drop (i + 1) := by
        obtain ⟨hlt, e⟩ := List.getElem?_eq_some_iff.1 hx
        rw [List.drop_eq_getElem_cons hlt, e]
      have i1 : (i : Int) < (n : Int) := by omega
      obtain ⟨g, off, e, _⟩ := h5.row_cell i (by omega)
      cases e
      have hS : ∀ w' (L' : List HP), Sat w (row 35 1 (.slice (some ⟨g, off, none⟩) n lc) n (u64s l) :: pt bx (.cells #[.int .i64 room, .slice a D.length c, .string (bA p), .int .i64 most] 58) :: L') w' → w'.cell? ⟨g, off + i, none⟩ = some (.int .u64 (x : Int)) ∧ w'.cell? ⟨bx, 0, none⟩ = some (.int .i64 room) ∧ w'.cell? ⟨bx, 1, none⟩ = some (.slice a D.length c) ∧ w'.cell? ⟨bx, 2, none⟩ = some (.string (bA p)) ∧ w'.cell? ⟨bx, 3, none⟩ = some (.int .i64 most) := fun w' L' h => by
        obtain ⟨g', off', e, c1, _⟩ := h.row_cell i (by omega)
        cases e
        exact ⟨by rw [c1]; exact u64s_get hx, h.swap.pt_cell 0, h.swap.pt_cell 1, h.swap.pt_cell 2, h.swap.pt_cell 3⟩
      have h5d := h5.drew
      have h0 := hS _ _ h5d
      have hrec := hR _ x hxr h5d.below
      obtain ⟨rs, hrs⟩ : ∃ rs, scanB (bytesOf (nameW p x) D) = rs := ⟨_, rfl⟩
      have hrl := recsQ_len HD.out p x
      rw [recsQ, hrs] at hrl
      rw [hrs] at hrec
      obtain ⟨k, hk⟩ : ∃ k, rs.length = k := ⟨_, rfl⟩
      have hgq : getQ D p m (l.drop i) = if x ≤ m ∧ m - x < k then rs[m - x]? else getQ D p m (l.drop (i + 1)) := by rw [hdr, getQ, recsQ, hrs, hk]
      rw [Hg.out] at hgq
      rw [hk] at hrl hrec
      have k1 : (k : Int) ≤ 1099511627776 := by omega
      have w2' : IntKind.u64.wrap (k : Int) = (k : Int) := by simp [IntKind.wrap, IntKind.bits, IntKind.signed]; omega
      have Hgq := Lib.hid hgq
      have Hk := Lib.hid hk
      have HS := Lib.hid hS
      have Hx := Lib.hid hx
      clear hgq hdr hrs hk hx
      go_wp2_with fail
      go_region_held3 (fun w' => w'.cell? ⟨g, off + i, none⟩ = some (.int .u64 (x : Int)) ∧ w'.cell? ⟨bx, 0, none⟩ = some (.int .i64 room) ∧ w'.cell? ⟨bx, 1, none⟩ = some (.slice a D.length c) ∧ w'.cell? ⟨bx, 2, none⟩ = some (.string (bA p)) ∧ w'.cell? ⟨bx, 3, none⟩ = some (.int .i64 most))
        (first | exact h0 | exact hS _ _ h6.drop)
        (first
          | (go_at_call 63; refine hrec.mono ?_; rintro y w6 ⟨v6, rfl, hs6⟩; have h6 := h5d.over hs6; obtain ⟨ra, rc, rfl, _⟩ := h6.row_reads))
      all_goals
        obtain ⟨c0, c1, c2, c3, c4⟩ := hS _ _ h6.drop
        by_cases hxm : x ≤ m
        · obtain ⟨j, hj⟩ : ∃ j, m - x = j := ⟨_, rfl⟩
          have hji : (m : Int) - (x : Int) = (j : Int) := by omega
          have b0 : (m : Int) ≥ (x : Int) := by omega
          have b0' : (x : Int) ≤ (m : Int) := by omega
          have j1 : (j : Int) ≤ 18446744073709551615 := by have := Hm.out; omega
          have w3' : IntKind.u64.wrap (j : Int) = (j : Int) := by simp [IntKind.wrap, IntKind.bits, IntKind.signed]; omega
          by_cases hjk : j < k
          · have b1 : (j : Int) < (k : Int) := by omega
            obtain ⟨b, hb⟩ : ∃ b, rs[j]? = some b := ⟨_, List.getElem?_eq_getElem (by rw [Hk.out]; exact hjk)⟩
            obtain ⟨g6, o6, e6, r1, _⟩ := h6.row_cell j (by omega)
            cases e6
            have r1' : w6.cell? ⟨g6, o6 + j, none⟩ = some (.string (bA b)) := by rw [r1]; exact strB_get hb
            have hgn := Lib.hid (show getQ D p m l = some b by rw [Hgq.out, hj, if_pos ⟨hxm, hjk⟩]; exact hb)
            clear hb r1 hj hS HS
            go_wp2_with fail
            go_ret2
            rw [hgn.out]
            exact ⟨rfl, h6.below⟩
          · have b1 : ¬ (j : Int) < (k : Int) := by omega
            have hgn := Lib.hid (show getQ D p m (l.drop (i + 1)) = getQ D p m l by rw [Hgq.out, hj, if_neg (fun h => hjk h.2)])
            clear hj hS HS
            go_wp2_with fail
            go_roundg (gk - 1)
            case measure => omega
            case rel => exact ⟨i + 1, by omega, by omega, by go_num, hgn, h6.drop⟩
        · have b0 : ¬ (m : Int) ≥ (x : Int) := by omega
          have b0' : ¬ (x : Int) ≤ (m : Int) := by omega
          have hgn := Lib.hid (show getQ D p m (l.drop (i + 1)) = getQ D p m l by rw [Hgq.out, if_neg (fun h => hxm h.1)])
          clear hS HS
          go_wp2_with fail
          go_roundg (gk - 1)
          case measure => omega
          case rel => exact ⟨i + 1, by omega, by omega, by go_num, hgn, h6.drop⟩
    · obtain rfl : i = n := by omega
      have hni : ¬ (i : Int) < (i : Int) := by omega
      have hgn : getQ D p m l = none := by rw [← Hg.out, List.drop_of_length_le (by rw [Hn.out]; exact Nat.le_refl _)]; rfl
      have Hgn := Lib.hid hgn
      clear hgn
      go_wp2_with fail
      go_ret2
      rw [Hgn.out]
      exact ⟨rfl, hbx ▸ h5.below⟩
end
end Go.Proofs.YtdngjkjoahgelaaGreatDoor
