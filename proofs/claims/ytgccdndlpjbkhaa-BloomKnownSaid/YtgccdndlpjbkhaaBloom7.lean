/-
  Bloom: Make.
-/
import Derived.Test.YtgccdndlpjbkhaaBloom6
import Derived.Test.YtgccdndlpjbkhaaRangeReg
namespace Go.Proofs.Ytgccdndlpjbkhaa
open Go.RowKit Go.Shelf
attribute [local go_sem] Oper.semAt_some
section
variable {B w : World} {L : List HP}
set_option maxHeartbeats 2000000 in
set_option maxRecDepth 100000 in
theorem bmake (keys : List ByteArray) (a : Option Addr) (n c b : Nat) (hb1 : 1 ≤ b) (hb2 : b ≤ 32) (hn : n ≤ 32768) (hkn : keys.length = n) (hks : ∀ s ∈ keys, s.size ≤ 9223372036854775807)
    (h : Sat B L w) (hr : ∀ w', Sat B L w' → reads w' (.slice a n c) n (strs keys)) :
    Calls Try.prog 27 #[.slice a n c, .int .i64 b] w fun e w' => e = .returned (.tuple #[.string (filterOf keys b), .int .i64 0]) ∧ Sat B L w' := by
  obtain ⟨_, hnc, hcm⟩ := reads_len (hr w h)
  have Hr := Lib.hid hr
  have Hk := Lib.hid hkn
  have Hs := Lib.hid hks
  clear hr hkn hks
  obtain ⟨k, hk⟩ : ∃ k, kOf b = k := ⟨_, rfl⟩
  obtain ⟨sz, hsz⟩ : ∃ sz, szOf b n = sz := ⟨_, rfl⟩
  have hk8 : 1 ≤ k ∧ k ≤ 8 := by rw [← hk]; unfold kOf; omega
  have hs8 : 8 ≤ sz ∧ sz ≤ 131072 := by
    rw [← hsz]; unfold szOf
    have : b * n ≤ 32 * 32768 := Nat.mul_le_mul hb2 hn
    omega
  obtain ⟨k1, k2⟩ := hk8
  obtain ⟨s1, s2⟩ := hs8
  obtain ⟨K0, hK0⟩ : ∃ K0, b * 69 / 100 = K0 := ⟨_, rfl⟩
  have eK : (b : Int) * 69 / 100 = K0 := by omega
  obtain ⟨T, hT⟩ : ∃ T, b * n = T := ⟨_, rfl⟩
  have hT2 : T ≤ 1048576 := by rw [← hT]; exact Nat.mul_le_mul hb2 hn
  have eT : (b : Int) * (n : Int) = T := by rw [← hT]; exact (Int.natCast_mul _ _).symm
  obtain ⟨S0, hS0⟩ : ∃ S0, (T + 7) / 8 = S0 := ⟨_, rfl⟩
  have eS : ((T : Int) + 7) / 8 = S0 := by omega
  have hkk : min (max K0 1) 8 = k := by rw [← hk, ← hK0]; rfl
  have hss : max S0 8 = sz := by rw [← hsz, ← hS0, ← hT]; rfl
  obtain ⟨K1, hK1⟩ : ∃ K1, max K0 1 = K1 := ⟨_, rfl⟩
  have f1 : (if (K0 : Int) < 1 then (1 : Int) else K0) = K1 := by split <;> omega
  have f2 : (if 8 < (K1 : Int) then (8 : Int) else K1) = k := by split <;> omega
  have f3 : (if (S0 : Int) < 8 then (8 : Int) else S0) = sz := by split <;> omega
  obtain ⟨sz1, hsz1⟩ : ∃ sz1, sz + 1 = sz1 := ⟨_, rfl⟩
  have f4 : 1 + (sz : Int) = sz1 := by omega
  have f5 : sz1 ≤ 131073 := by omega
  have Hsz1 := Lib.hid hsz1
  clear hK0 hT hS0 hkk hss hK1 hsz1
  have b1 : 1 * sz1 ≤ 281474976710656 := by omega
  have b2 : sz1 ≤ maxLen := by unfold maxLen; omega
  refine calls_of_wp_marks Try.func27 rfl ?_
  simp only [Try.ntmps27, List.size_toArray, List.length_cons, List.length_nil, Nat.reduceAdd, Nat.reduceSub, Array.replicate_succ, Array.replicate_zero, List.push_toArray, List.append_toArray, List.nil_append, List.cons_append]
  go_wp2_with (at_make; refine wpList_make_row rfl u8_elem _ _ rfl sz1 sz1 rfl rfl h (Nat.le_refl _) b1 b2 ?_; intro a1 w1 hS1; rw [zeros_u8s] at hS1; obtain ⟨g, off, ha1, q0, q0f, q0l, -⟩ := hS1.row_cell 0 (by omega); subst ha1; rw [u8s, List.getElem?_map, List.getElem?_replicate, if_pos (by omega), Option.map_some, Nat.add_zero] at q0; rw [Nat.add_zero] at q0f; go_frame)
  have hS2 := ((hS1.row_set 0 (by omega) (u := .int .u8 (UInt8.ofNat k).toNat) rfl).alloc (.cells #[.slice (some ⟨g, off, none⟩) sz1 sz1] 22))
  have ek : ((UInt8.ofNat k).toNat : Int) = k := by rw [UInt8.toNat_ofNat']; omega
  rw [u8s_set, ek, Nat.add_zero, ← Hsz1.out, List.replicate_succ, List.set_cons_zero, Hsz1.out, World.size_setCell] at hS2
  obtain ⟨w2, hw2⟩ : ∃ w2, (w1.setCell ⟨g, off, none⟩ (.int .u8 k)).alloc (.cells #[.slice (some ⟨g, off, none⟩) sz1 sz1] 22) = w2 := ⟨_, rfl⟩
  obtain ⟨b8, hb8⟩ : ∃ b8, w1.heap.size = b8 := ⟨_, rfl⟩
  rw [hw2, hb8] at hS2
  rw [hw2, hb8]
  obtain ⟨m, hm⟩ : ∃ m, 8 * sz = m := ⟨_, rfl⟩
  have em : 8 * (sz : Int) = m := by omega
  have Hm := Lib.hid hm
  clear hw2 hb8 h hS1 q0 q0f q0l hm f1 f2 f3 eK eT eS
  refine wp_loop_ghost_k (fun gh ac w' => ∃ (j : Nat) (bs : List UInt8) (Ds : List Nat) (u2 u3 u9 u10 u11 u12 u13 u14 u15 u16 u17 u18 u19 u20 u21 u22 u23 u24 u25 u26 u27 u28 u29 u30 u31 u32 u33 u34 u35 u36 u37 u38 u39 u40 u41 u45 u46 u47 u48 u49 u50 u51 u52 u53 u54 u55 u56 u57 u58 u59 u60 u61 u62 u63 u64 u65 u66 u67 : Value), (j + gh ≤ n ∧ n ≤ j + gh ∧ bs = (keys.take j).foldl (addKey k m) (List.replicate sz 0) ∧
    Sat B (dfs Ds :: pt b8 (.cells #[.slice (some ⟨g, off, none⟩) sz1 sz1] 22) :: row 5 1 (.slice (some ⟨g, off, none⟩) sz1 sz1) sz1 (u8s (UInt8.ofNat k :: bs)) :: L) w') ∧
    ac = { tmps := #[.slice a n c, .int .i64 b, u2, u3, .string ⟨#[]⟩, .int .i64 0, .int .i64 k, .int .i64 sz, .pointer (some ⟨b8, 0, none⟩), u9, u10, u11, u12, u13, u14, u15, u16, u17, u18, u19, u20, u21, u22, u23, u24, u25, u26, u27, u28, u29, u30, u31, u32, u33, u34, u35, u36, u37, u38, u39, u40, u41, .slice a n c, .int .i64 n, .int .i64 j, u45, u46, u47, u48, u49, u50, u51, u52, u53, u54, u55, u56, u57, u58, u59, u60, u61, u62, u63, u64, u65, u66, u67], defers := marks Ds }) n ?start ?round
  case start => exact ⟨0, _, [], _, _, _, _, _, _, _, _, _, _, _, _, _, _, _, _, _, _, _, _, _, _, _, _, _, _, _, _, _, _, _, _, _, _, _, _, _, _, _, _, _, _, _, _, _, _, _, _, _, _, _, _, _, _, _, _, _, _, ⟨by omega, by omega, rfl, dfs_nil hS2⟩, rfl⟩
  case round =>
    rintro gh _ wr ⟨j, bs, Ds, u2, u3, u9, u10, u11, u12, u13, u14, u15, u16, u17, u18, u19, u20, u21, u22, u23, u24, u25, u26, u27, u28, u29, u30, u31, u32, u33, u34, u35, u36, u37, u38, u39, u40, u41, u45, u46, u47, u48, u49, u50, u51, u52, u53, u54, u55, u56, u57, u58, u59, u60, u61, u62, u63, u64, u65, u66, u67, ⟨hg1, hg2, hbs, hs1⟩, rfl⟩ J K hJ hK
    have Hbs := Lib.hid hbs
    clear hS2 hbs
    by_cases hj : j < n
    · obtain ⟨kg, koff, hka, q0⟩ := reads_strs (Hr.out wr hs1.drop.drop.drop) Hk.out j hj
      subst hka
      have hks := Hs.out _ (List.getElem_mem (by rw [Hk.out]; exact hj : j < keys.length))
      obtain ⟨s, hs⟩ : ∃ s, keys[j]'(by rw [Hk.out]; exact hj) = s := ⟨_, rfl⟩
      rw [hs] at q0 hks
      have HS := Lib.hid hs
      clear hs
      go_wp2_with fail
      refine (places_any s k m hs1).mono ?_
      rintro e w3 ⟨b1', b2', b3', rfl, hs2⟩
      clear q0 hs1
      go_wp2_with fail
      obtain ⟨ps, hps⟩ : ∃ ps, plcs (hA s) (hB s) m k = ps := ⟨_, rfl⟩
      have hit := places_iter (B := B) s hks k m (by have := Hm.out; omega) (by have := Hm.out; omega) k2 b1' b2' b3'
      have Hin := Lib.hid (show ∀ p ∈ ps, 0 ≤ p ∧ p < m by rw [← hps]; exact plcs_in _ (by have := Hm.out; omega) _ _)
      rw [hps] at hit
      have Hps := Lib.hid hps
      clear hps
      refine wp_rangeFunc_sat (B := B) (gf := 36) (lb := #[.pointer (some ⟨b1', 0, none⟩), .pointer (some ⟨b2', 0, none⟩), .pointer (some ⟨b3', 0, none⟩)]) rfl (enters_of Try.func36 (by kernel_rfl) rfl)
        hit (fun _ => rfl)
        (fun pre => stars [pt b8 (.cells #[.slice (some ⟨g, off, none⟩) sz1 sz1] 22), row 5 1 (.slice (some ⟨g, off, none⟩) sz1 sz1) sz1 (u8s (UInt8.ofNat k :: pre.foldl orAt bs))])
        (fun _ _ => fact False)
        (L := dfs Ds :: L) ?start
        (fun x => { tmps := #[.slice (some ⟨kg, koff, none⟩) n c, .int .i64 b, u2, u3, .string ⟨#[]⟩, .int .i64 0, .int .i64 k, .int .i64 sz, .pointer (some ⟨b8, 0, none⟩), u9, .string s, .int .i64 x, u12, u13, u14, u15, u16, u17, u18, u19, u20, u21, u22, u23, u24, u25, u26, u27, u28, u29, u30, u31, u32, u33, u34, u35, u36, u37, u38, u39, u40, u41, .slice (some ⟨kg, koff, none⟩) n c, .int .i64 n, .int .i64 j, .bool true, .pointer (some ⟨kg, koff + j, none⟩), .string s, .string s, .int .i64 k, .int .i64 sz, .int .i64 m, .func (.func 36) #[] #[.pointer (some ⟨b1', 0, none⟩), .pointer (some ⟨b2', 0, none⟩), .pointer (some ⟨b3', 0, none⟩)], .int .i64 x, u54, u55, u56, u57, u58, u59, u60, u61, u62, u63, u64, u65, u66, u67], defers := [] })
        ?assign ?body ?done ?stop
      case start => exact Sat.fold (L := [_, _]) (M := _ :: dfs Ds :: L) (Sat.p3 (Sat.p3 hs2))
      case assign =>
        intro l x W K hK
        gi_wp2
        exact hK
      case body =>
        intro l pre x rest W R hx hS
        have hS1 := Sat.flat (L := [_, _]) hS
        have c8 : W.cell? ⟨b8, 0, none⟩ = some (.slice (some ⟨g, off, none⟩) sz1 sz1) := Sat.pt_cell hS1 0
        obtain ⟨p0, p1⟩ := Hin.out x (by rw [hx]; simp)
        obtain ⟨q, rfl⟩ := Int.eq_ofNat_of_zero_le p0
        obtain ⟨d, hd⟩ : ∃ d, q / 8 = d := ⟨_, rfl⟩
        obtain ⟨r, hr⟩ : ∃ r, q % 8 = r := ⟨_, rfl⟩
        obtain ⟨D, hD⟩ : ∃ D, D = d + 1 := ⟨_, rfl⟩
        have hdz : D < sz1 := by have := Hm.out; have := Hsz1.out; omega
        have e1 : IntKind.i64.wrap ((q : Int) / 8) = d := by rw [IntWalk.i64_in _ (by omega)]; omega
        have e2 : IntKind.i64.wrap (1 + (d : Int)) = D := by rw [IntWalk.i64_in _ (by omega)]; omega
        have e3 : (q : Int) % 8 = r := by omega
        have hr8 : r < 8 := by omega
        have e4 : IntKind.i64.wrap (r : Int) = r := IntWalk.i64_in _ (by omega)
        have e5 : (q : Int).tmod 8 = r := by rw [Int.tmod_eq_emod_of_nonneg (by omega)]; omega
        have e6 : (q : Int).tdiv 8 = d := by rw [Int.tdiv_eq_ediv_of_nonneg (by omega)]; omega
        have e7 : IntKind.i64.wrap (d : Int) = d := IntWalk.i64_in _ (by omega)
        obtain ⟨bs', hbs'⟩ : ∃ bs', pre.foldl orAt bs = bs' := ⟨_, rfl⟩
        rw [hbs'] at hS1
        have hlen := (Sat.swap hS1).row_len
        rw [u8s_len, Nat.mul_one, List.length_cons] at hlen
        obtain ⟨u, hu⟩ : ∃ u, bs'[d]'(by omega) = u := ⟨_, rfl⟩
        obtain ⟨_, _, hgo, q1, q1f, q1l, -⟩ := (Sat.swap hS1).row_cell D (by omega)
        cases hgo
        rw [u8s, List.getElem?_map, hD, List.getElem?_cons_succ, List.getElem?_eq_getElem (by omega), hu, Option.map_some, ← hD] at q1
        have Hu := Lib.hid (show bs'.getD d 0 = u by rw [List.getD_eq_getElem?_getD, List.getElem?_eq_getElem (by omega), hu]; rfl)
        have Hdr := Lib.hid (And.intro hd hr)
        have HD := Lib.hid hD
        have Hbs' := Lib.hid hbs'
        clear hd hr p0 p1 hlen hu hD hbs' hx hS
        gi_wp2
        refine wpIn_region_inRound (by kernel_rfl) (by kernel_rfl) ?_
        refine wpAnyIn_take (i := 1) (v := ?_) rfl rfl (by kernel_rfl) (by kernel_rfl) (by kernel_rfl) (fun _ _ _ h => h) ⟨Or.inl ⟨by rfl, ?_⟩, fun _ => rfl⟩ ?_
        rotate_left 1
        · (intro w; go_simp; try with_reducible rfl)
        refine wpAnyIn_take (i := 2) (v := ?_) rfl rfl (by kernel_rfl) (by kernel_rfl) (by kernel_rfl) (fun _ _ _ h => h) ⟨Or.inl ⟨by rfl, ?_⟩, fun _ => rfl⟩ ?_
        rotate_left 1
        · (intro w; go_simp; try with_reducible rfl)
        refine wpAnyIn_take (i := 3) (v := ?_) rfl rfl (by kernel_rfl) (by kernel_rfl) (by kernel_rfl) (fun _ _ _ h => h) ⟨Or.inl ⟨by rfl, ?_⟩, fun _ => rfl⟩ ?_
        rotate_left 1
        · (intro w; go_simp; try with_reducible rfl)
        refine wpAnyIn_take (i := 6) (v := ?_) rfl rfl (by kernel_rfl) (by kernel_rfl) (by kernel_rfl) (fun _ _ _ h => h) ⟨Or.inl ⟨by rfl, ?_⟩, fun _ => rfl⟩ ?_
        rotate_left 1
        · (intro w; go_simp; try with_reducible rfl)
        refine wpAnyIn_take (i := 7) (v := ?_) rfl rfl (by kernel_rfl) (by kernel_rfl) (by kernel_rfl) (fun _ _ _ h => h) ⟨Or.inl ⟨by rfl, ?_⟩, fun _ => rfl⟩ ?_
        rotate_left 1
        · (intro w; go_simp; try with_reducible rfl)
        refine wpAnyIn_take (i := 8) (v := ?_) rfl rfl (by kernel_rfl) (by kernel_rfl) (by kernel_rfl) (fun _ _ _ h => h) ⟨Or.inl ⟨by rfl, ?_⟩, fun _ => rfl⟩ ?_
        rotate_left 1
        · (intro w; go_simp; try with_reducible rfl)
        refine wpAnyIn_ready (rs := [0]) (by kernel_rfl) (by simp) ?_
        refine AllReadyIn.cons rfl (fun K hK => ?_) AllReadyIn.nil
        go_simp
        refine hK _ _ ?_
        clear hK K
        refine wpAnyIn_take (i := 4) (v := ?_) rfl rfl (by kernel_rfl) (by kernel_rfl) (by kernel_rfl) (fun _ _ _ h => h) ⟨Or.inl ⟨by rfl, ?_⟩, fun _ => rfl⟩ ?_
        rotate_left 1
        · (intro w; go_simp; try with_reducible rfl)
        refine wpAnyIn_ready (rs := [5]) (by kernel_rfl) (by simp) ?_
        refine AllReadyIn.cons rfl (fun K hK => ?_) AllReadyIn.nil
        go_simp
        refine hK _ _ ?_
        clear hK K
        refine wpAnyIn_take (i := 9) (v := ?_) rfl rfl (by kernel_rfl) (by kernel_rfl) (by kernel_rfl) (fun _ _ _ h => h) ⟨Or.inl ⟨by rfl, ?_⟩, fun _ => rfl⟩ ?_
        rotate_left 1
        · (intro w; go_simp; try with_reducible rfl)
        refine wpAnyIn_take (i := 10) (v := ?_) rfl rfl (by kernel_rfl) (by kernel_rfl) (by kernel_rfl) (fun _ _ _ h => h) ⟨Or.inl ⟨by rfl, ?_⟩, fun _ => rfl⟩ ?_
        rotate_left 1
        · (intro w; go_simp; try with_reducible rfl)
        refine wpAnyIn_ready (rs := [11]) (by kernel_rfl) (by simp) ?_
        refine AllReadyIn.cons rfl (fun K hK => ?_) AllReadyIn.nil
        go_simp
        refine hK _ _ ?_
        clear hK K
        refine wpAnyIn_done (by kernel_rfl) ?_ _
        gi_wp2
        have h5 := (Sat.row_set (Sat.swap hS1) D (by omega) (u := .int .u8 (orB u r).toNat) rfl).drew
        have e10 : (UInt8.ofNat k :: bs').set D (orB u r) = UInt8.ofNat k :: bs'.set d (orB u r) := by rw [HD.out]; rfl
        have e11 : bs'.set d (orB u r) = (pre ++ [(q : Int)]).foldl orAt bs := by
          rw [List.foldl_append, Hbs'.out]
          simp only [List.foldl_cons, List.foldl_nil, orAt, Int.toNat_natCast, Hdr.out.1, Hdr.out.2, Hu.out]
        rw [u8s_set, e10, orB_nat u hr8, e11] at h5
        exact Sat.fold (L := [_, _]) (Sat.swap h5)
      case done =>
        intro D W hW
        go_wp2_with fail
        refine Handed.intro (gh - 1) (by omega) (hJ _ _ _ ?_)
        have hw1 := Sat.p3 (Sat.p3 (Sat.flat (L := [_, _]) (Sat.swap hW)))
        have hw2 := dfs_cons (Sat.swap (Sat.p3 (Sat.drop (Sat.swap hw1))))
        have e9 : ps.foldl orAt bs = (keys.take (j + 1)).foldl (addKey k m) (List.replicate sz 0) := by
          rw [List.take_succ_eq_append_getElem (by rw [Hk.out]; exact hj), List.foldl_append, ← Hbs.out, HS.out, ← Hps.out]
          rfl
        refine ⟨j + 1, _, D :: Ds, _, _, _, _, _, _, _, _, _, _, _, _, _, _, _, _, _, _, _, _, _, _, _, _, _, _, _, _, _, _, _, _, _, _, _, _, _, _, _, _, _, _, _, _, _, _, _, _, _, _, _, _, _, _, _, _, _, _, ⟨by omega, by omega, e9, hw2⟩, rfl⟩
      case stop =>
        intro D c pre rest W hx hW
        exact (Sat.fact_out (Sat.swap hW)).1.elim
    · obtain rfl : j = n := by omega
      have c8 : wr.cell? ⟨b8, 0, none⟩ = some (.slice (some ⟨g, off, none⟩) sz1 sz1) := (Sat.swap hs1).pt_cell 0
      have hlen := (Sat.p2 hs1).row_len
      rw [u8s_len, Nat.mul_one] at hlen
      have hr1 := (Sat.p2 hs1).row_reads
      go_wp2_with (first
        | ((with_reducible refine wpList_bytes_string rfl (.tmp 66) rfl Try.underlying22 Try.underlying5 Try.underlying9 (.slice (some ⟨g, off, none⟩) sz1 sz1) sz1 (UInt8.ofNat k :: bs) rfl hr1 hlen ?_); go_frame))
      refine leaves_marks Ds _ hs1 fun w' h' => ?_
      have e1 : filterOf keys b = (⟨(UInt8.ofNat k :: bs).toArray⟩ : ByteArray) := by
        have e2 : bitsOf keys b = bs := by
          rw [bitsOf, Hk.out, hsz, hk, Hm.out, Hbs.out, List.take_of_length_le (by rw [Hk.out]; omega)]
        rw [filterOf, hk, e2]
      exact ⟨.tuple #[.string ⟨(UInt8.ofNat k :: bs).toArray⟩, .int .i64 0], by simp [results, Try.results27, go_sem], by rw [e1], h'.drop.drop⟩
end
end Go.Proofs.Ytgccdndlpjbkhaa
