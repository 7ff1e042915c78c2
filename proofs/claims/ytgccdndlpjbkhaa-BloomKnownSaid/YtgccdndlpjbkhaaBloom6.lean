/-
  Bloom: what a filter is.
-/
import Derived.Test.YtgccdndlpjbkhaaBloom5
import Derived.Deep.DeepCutAuto
import Derived.BigRegion
namespace Go.Proofs.Ytgccdndlpjbkhaa
open Go.RowKit

/-- A byte with one bit more. -/
def orB (u : UInt8) (r : Nat) : UInt8 := UInt8.ofNat (bits BinOp.or .u8 u.toNat (2 ^ r % 256)).toNat
theorem or_all : ∀ u : Fin 256, ∀ r : Fin 8, 0 ≤ bits BinOp.or .u8 (u.val : Int) (2 ^ r.val % 256) ∧ bits BinOp.or .u8 (u.val : Int) (2 ^ r.val % 256) < 256 := by decide +kernel
theorem orB_nat (u : UInt8) {r : Nat} (hr : r < 8) : ((orB u r).toNat : Int) = bits BinOp.or .u8 u.toNat (2 ^ r % 256) := by
  have h := or_all ⟨u.toNat, u.toNat_lt⟩ ⟨r, hr⟩
  unfold orB
  rw [UInt8.toNat_ofNat']
  simp only [] at h
  omega
/-- A place set. -/
def orAt (bs : List UInt8) (p : Int) : List UInt8 := bs.set (p.toNat / 8) (orB (bs.getD (p.toNat / 8) 0) (p.toNat % 8))
theorem orAt_len (bs : List UInt8) (p : Int) : (orAt bs p).length = bs.length := by simp [orAt]
def addKey (k m : Nat) (bs : List UInt8) (s : ByteArray) : List UInt8 := (plcs (hA s) (hB s) m k).foldl orAt bs
theorem ors_len (ps : List Int) : ∀ bs : List UInt8, (ps.foldl orAt bs).length = bs.length := by
  induction ps with
  | nil => exact fun _ => rfl
  | cons p ps ih => exact fun bs => by rw [List.foldl_cons, ih, orAt_len]
theorem adds_len (k m : Nat) (keys : List ByteArray) : ∀ bs : List UInt8, (keys.foldl (addKey k m) bs).length = bs.length := by
  induction keys with
  | nil => exact fun _ => rfl
  | cons s keys ih => exact fun bs => by rw [List.foldl_cons, ih, addKey, ors_len]
def kOf (b : Nat) : Nat := min (max (b * 69 / 100) 1) 8
def szOf (b n : Nat) : Nat := max ((b * n + 7) / 8) 8
/-- The bits of a filter, and the filter. -/
def bitsOf (keys : List ByteArray) (b : Nat) : List UInt8 := keys.foldl (addKey (kOf b) (8 * szOf b keys.length)) (List.replicate (szOf b keys.length) 0)
def filterOf (keys : List ByteArray) (b : Nat) : ByteArray := ⟨(UInt8.ofNat (kOf b) :: bitsOf keys b).toArray⟩
def strs (keys : List ByteArray) : List Value := keys.map Value.string

theorem u8_elem : Elem Try.prog 22 5 (.int .u8 0) 1 1 :=
  ⟨Try.underlying22, by kernel_rfl, rfl, by decide, by simp [Value.cells, Value.oneCell']⟩
theorem reads_strs {w : World} {a : Option Addr} {n c : Nat} {keys : List ByteArray} (h : reads w (.slice a n c) n (strs keys)) (hk : keys.length = n) (j : Nat) (hj : j < n) :
    ∃ g off, a = some ⟨g, off, none⟩ ∧ w.cell? ⟨g, off + j, none⟩ = some (.string (keys[j]'(by omega))) := by
  obtain ⟨a', c', hv, _, _, _, hc⟩ := h
  cases hv
  exact hc j _ (by rw [strs, List.getElem?_map, List.getElem?_eq_getElem (by omega)]; rfl)
theorem zeros_u8s (n : Nat) : (List.replicate n (Value.int .u8 0).cells.toList).flatten = u8s (List.replicate n 0) := by
  induction n with
  | zero => rfl
  | succ n ih => rw [List.replicate_succ, List.flatten_cons, ih, List.replicate_succ]; rfl
theorem u8s_set (bs : List UInt8) (i : Nat) (u : UInt8) : (u8s bs).set i (.int .u8 (u.toNat : Int)) = u8s (bs.set i u) := by
  rw [u8s, u8s, List.map_set]
section
variable {B w : World} {L : List HP}
set_option maxHeartbeats 2000000 in
set_option maxRecDepth 100000 in
theorem rmake (keys : List ByteArray) (a : Option Addr) (n c b : Nat) (hb1 : 1 ≤ b) (hb2 : b ≤ 32) (hn : n ≤ 32768) (hkn : keys.length = n) (hks : ∀ s ∈ keys, s.size ≤ 9223372036854775807)
    (h : Sat B L w) (hr : ∀ w', Sat B L w' → reads w' (.slice a n c) n (strs keys)) :
    Calls Try.prog 28 #[.slice a n c, .int .i64 b] w fun e w' => e = .returned (.tuple #[.string (filterOf keys b), .int .i64 0]) ∧ Sat B L w' := by
  obtain ⟨_, hnc, hcm⟩ := reads_len (hr w h)
  have Hr := Lib.hid hr
  have Hk := Lib.hid hkn
  have Hs := Lib.hid hks
  clear hr hkn hks
  obtain ⟨k, hk⟩ : ∃ k, kOf b = k := ⟨_, rfl⟩
  obtain ⟨sz, hsz⟩ : ∃ sz, szOf b n = sz := ⟨_, rfl⟩
  have hk8 : 1 ≤ k ∧ k ≤ 8 := by rw [← hk]; unfold kOf; omega
  have hs8 : 8 ≤ sz ∧ sz ≤ 131072 := by
    rw [← hsz]; unfold szOf
    have : b * n ≤ 32 * 32768 := Nat.mul_le_mul hb2 hn
    omega
  obtain ⟨k1, k2⟩ := hk8
  obtain ⟨s1, s2⟩ := hs8
  obtain ⟨K0, hK0⟩ : ∃ K0, b * 69 / 100 = K0 := ⟨_, rfl⟩
  have eK : (b : Int) * 69 / 100 = K0 := by omega
  obtain ⟨T, hT⟩ : ∃ T, b * n = T := ⟨_, rfl⟩
  have hT2 : T ≤ 1048576 := by rw [← hT]; exact Nat.mul_le_mul hb2 hn
  have eT : (b : Int) * (n : Int) = T := by rw [← hT]; exact (Int.natCast_mul _ _).symm
  obtain ⟨S0, hS0⟩ : ∃ S0, (T + 7) / 8 = S0 := ⟨_, rfl⟩
  have eS : ((T : Int) + 7) / 8 = S0 := by omega
  have hkk : min (max K0 1) 8 = k := by rw [← hk, ← hK0]; rfl
  have hss : max S0 8 = sz := by rw [← hsz, ← hS0, ← hT]; rfl
  have Hkk := Lib.hid hkk
  have Hss := Lib.hid hss
  clear hK0 hT hS0 hkk hss
  go_enter Try.func28, Try.ntmps28
  go_upto_if 25 with fail
  go_cut [6] (fun v wx => v = .int .i64 (max K0 1 : Nat) ∧ w = wx)
  case first =>
    by_cases h1 : K0 < 1
    all_goals
      go_wp2_with fail
      go_meet
      exact ⟨by congr 1; omega, rfl⟩
  case rest =>
    obtain ⟨rfl, rfl⟩ := hcut
    obtain ⟨K1, hK1⟩ : ∃ K1, max K0 1 = K1 := ⟨_, rfl⟩
    rw [hK1]
    have HK1 := Lib.hid hK1
    clear hK1
    go_upto_if 27 with fail
    go_cut [6] (fun v wx => v = .int .i64 k ∧ w = wx)
    case first =>
      by_cases h1 : 8 < K1
      all_goals
        go_wp2_with fail
        go_meet
        exact ⟨by congr 1; have := Hkk.out; have := HK1.out; omega, rfl⟩
    case rest =>
      obtain ⟨rfl, rfl⟩ := hcut
      go_upto_if 35 with fail
      go_cut [7] (fun v wx => v = .int .i64 sz ∧ w = wx)
      case first =>
        by_cases h1 : S0 < 8
        all_goals
          go_wp2_with fail
          go_meet
          exact ⟨by congr 1; have := Hss.out; omega, rfl⟩
      case rest =>
        obtain ⟨rfl, rfl⟩ := hcut
        have b1 : 1 * sz ≤ 281474976710656 := by omega
        have b2 : sz ≤ maxLen := by unfold maxLen; omega
        go_wp2_with (at_make; refine wpList_make_row rfl u8_elem _ _ rfl sz sz rfl rfl h (Nat.le_refl _) b1 b2 ?_; intro a1 w1 hS1; go_frame)
        have hS1 : Sat B (row 5 1 (.slice _ sz sz) sz _ :: L) _ := ‹_›
        rw [zeros_u8s] at hS1
        obtain ⟨g, off, ha1, -, -, -, -⟩ := hS1.row_cell 0 (by omega)
        subst ha1
        obtain ⟨m, hm⟩ : ∃ m, 8 * sz = m := ⟨_, rfl⟩
        have em : 8 * (sz : Int) = m := by omega
        have Hm := Lib.hid hm
        clear h hm
        go_loopg [9] n (fun gh i wr => ∃ (j : Nat) (bs : List UInt8), j + gh ≤ n ∧ n ≤ j + gh ∧ i = .int .i64 j ∧ bs = (keys.take j).foldl (addKey k m) (List.replicate sz 0) ∧
          Sat B (row 5 1 (.slice (some ⟨g, off, none⟩) sz sz) sz (u8s bs) :: L) wr)
        case atStart => exact ⟨0, _, by omega, by omega, rfl, rfl, hS1⟩
        case round =>
          obtain ⟨gO, rfl⟩ : ∃ gO : Nat, gO = gk := ⟨_, rfl⟩
          obtain ⟨j, bs, hg1, hg2, rfl, hbs, hs1⟩ := hrel
          have Hbs := Lib.hid hbs
          clear hS1 hbs
          by_cases hj : j < n
          · obtain ⟨kg, koff, hka, q0⟩ := reads_strs (Hr.out wr hs1.drop) Hk.out j hj
            subst hka
            have hks := Hs.out _ (List.getElem_mem (by rw [Hk.out]; exact hj : j < keys.length))
            obtain ⟨s, hs⟩ : ∃ s, keys[j]'(by rw [Hk.out]; exact hj) = s := ⟨_, rfl⟩
            rw [hs] at q0 hks
            have HS := Lib.hid hs
            clear hs
            have hp := rplaces s hks k m (by have := Hm.out; omega) (by have := Hm.out; omega) k2 hs1
            have Hp := Lib.hid hp
            clear hp
            go_wp2_with fail
            refine Hp.out.mono ?_
            rintro e w2 ⟨pa, pc, rfl, hs2⟩
            clear Hp hs1
            obtain ⟨ps, hps⟩ : ∃ ps, plcs (hA s) (hB s) m k = ps := ⟨_, rfl⟩
            have Hl := Lib.hid (show ps.length = k by rw [← hps]; exact plcs_len _ _ _ _)
            have Hin := Lib.hid (show ∀ p ∈ ps, 0 ≤ p ∧ p < m by rw [← hps]; exact plcs_in _ (by have := Hm.out; omega) _ _)
            rw [hps] at hs2
            have Hps := Lib.hid hps
            clear hps
            go_wp2_with fail
            go_loopg [11] k (fun gh i wr => ∃ (l : Nat) (bs' : List UInt8), l + gh ≤ k ∧ k ≤ l + gh ∧ i = .int .i64 l ∧ bs' = (ps.take l).foldl orAt bs ∧
              Sat B (row 5 1 (.slice (some ⟨g, off, none⟩) sz sz) sz (u8s bs') :: row 3 1 (.slice pa k pc) k (i64s ps) :: L) wr)
            case atStart => exact ⟨0, bs, by omega, by omega, rfl, rfl, hs2.swap⟩
            case round =>
              obtain ⟨l, bs', hg3, hg4, rfl, hbs', hs3⟩ := hrel
              have Hbs' := Lib.hid hbs'
              clear hs2 hbs' q0
              by_cases hl : l < k
              · obtain ⟨p, hp⟩ : ∃ p, ps[l]'(by rw [Hl.out]; exact hl) = p := ⟨_, rfl⟩
                obtain ⟨p0, p1⟩ := Hin.out _ (List.getElem_mem (by rw [Hl.out]; exact hl : l < ps.length))
                rw [hp] at p0 p1
                obtain ⟨q, rfl⟩ := Int.eq_ofNat_of_zero_le p0
                obtain ⟨pg, poff, hpa, q0, q0f, q0l, -⟩ := hs3.swap.row_cell l (by omega)
                subst hpa
                rw [i64s, List.getElem?_map, List.getElem?_eq_getElem (by rw [Hl.out]; exact hl), hp, Option.map_some] at q0
                have Hp := Lib.hid hp
                obtain ⟨d, hd⟩ : ∃ d, q / 8 = d := ⟨_, rfl⟩
                obtain ⟨r, hr⟩ : ∃ r, q % 8 = r := ⟨_, rfl⟩
                have hdz : d < sz := by have := Hm.out; omega
                have e1 : IntKind.i64.wrap ((q : Int) / 8) = d := by rw [IntWalk.i64_in _ (by omega)]; omega
                have e3 : (q : Int) % 8 = r := by omega
                have hr8 : r < 8 := by omega
                have e4 : IntKind.i64.wrap (r : Int) = r := IntWalk.i64_in _ (by omega)
                have hlen := hs3.row_len
                rw [u8s_len, Nat.mul_one] at hlen
                obtain ⟨u, hu⟩ : ∃ u, bs'[d]'(by omega) = u := ⟨_, rfl⟩
                obtain ⟨_, _, hgo, q1, q1f, q1l, -⟩ := hs3.row_cell d (by omega)
                cases hgo
                rw [u8s, List.getElem?_map, List.getElem?_eq_getElem (by omega), hu, Option.map_some] at q1
                have Hu := Lib.hid (show bs'.getD d 0 = u by rw [List.getD_eq_getElem?_getD, List.getElem?_eq_getElem (by omega), hu]; rfl)
                have Hdr := Lib.hid (And.intro hd hr)
                clear hd hr p0 p1 hp hlen hu
                go_wp2_with fail
                go_region
                all_goals
                  go_wp2_with fail
                  go_roundg (gk - 1)
                  case measure => omega
                  case rel =>
                    have h5 := (hs3.row_set d (by omega) (u := .int .u8 (orB u r).toNat) rfl).drew
                    rw [u8s_set, orB_nat u hr8] at h5
                    refine ⟨l + 1, _, by omega, by omega, by go_num, ?_, h5⟩
                    rw [List.take_succ_eq_append_getElem (by rw [Hl.out]; exact hl : l < ps.length), List.foldl_append, ← Hbs'.out, Hp.out]
                    simp only [List.foldl_cons, List.foldl_nil, orAt, Int.toNat_natCast, Hdr.out.1, Hdr.out.2, Hu.out]
              · go_wp2_with fail
                go_roundg (gO - 1)
                case measure => omega
                case rel =>
                  refine ⟨j + 1, bs', by omega, by omega, by go_num, ?_, hs3.swap.drop⟩
                  rw [List.take_succ_eq_append_getElem (by rw [Hk.out]; exact hj), List.foldl_append, ← Hbs.out, HS.out, Hbs'.out, List.take_of_length_le (by rw [Hl.out]; omega), ← Hps.out]
                  rfl
          · obtain rfl : j = n := by omega
            have hlen := hs1.row_len
            rw [u8s_len, Nat.mul_one] at hlen
            have hr1 := hs1.row_reads
            have hk1 : reads (wr.alloc (.cells #[.int .u8 k] 5)) (.slice (some ⟨wr.heap.size, 0, none⟩) 1 1) 1 (u8s [UInt8.ofNat k]) := by
              have := reads_new (w := wr) (g := wr.heap.size) (n := 1) #[Value.int .u8 (k : Int)] 5 rfl (by omega)
              have e : u8s [UInt8.ofNat k] = (#[Value.int .u8 (k : Int)]).toList := by simp [u8s, UInt8.toNat_ofNat']; omega
              rw [e]; exact this
            have hr2 : reads (wr.alloc (.cells #[.int .u8 k] 5)) (.slice (some ⟨g, off, none⟩) sz sz) sz (u8s bs) := (hs1.alloc (.cells #[.int .u8 k] 5)).swap.row_reads
            clear hr1
            go_wp2_with (first
              | ((with_reducible refine wpList_bytes_string rfl (.tmp 82) rfl Try.underlying22 Try.underlying5 Try.underlying9 (.slice (some ⟨wr.heap.size, 0, none⟩) 1 1) 1 [UInt8.ofNat k] rfl hk1 rfl ?_); go_frame)
              | ((with_reducible refine wpList_bytes_string rfl (.tmp 84) rfl Try.underlying22 Try.underlying5 Try.underlying9 (.slice (some ⟨g, off, none⟩) sz sz) sz bs rfl hr2 hlen ?_); go_frame))
            go_ret2
            have hS2 := (hs1.alloc (.cells #[.int .u8 k] 5)).drop.drop
            have e1 : filterOf keys b = (⟨#[UInt8.ofNat k]⟩ ++ ⟨bs.toArray⟩ : ByteArray) := by
              have e2 : bitsOf keys b = bs := by
                rw [bitsOf, Hk.out, hsz, hk, Hm.out, Hbs.out, List.take_of_length_le (by rw [Hk.out]; omega)]
              rw [filterOf, hk, e2]
              apply ByteArray.ext
              rw [ByteArray.data_append]
              simp
            exact ⟨by rw [e1]; rfl, hS2⟩
end
end Go.Proofs.Ytgccdndlpjbkhaa
