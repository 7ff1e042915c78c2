/-
  Bloom: Has.
-/
import Derived.Test.YtgccdndlpjbkhaaBloom4
import Derived.Deep.RegionWith
namespace Go.Proofs.Ytgccdndlpjbkhaa
open Go.RowKit Go.Shelf
attribute [local go_sem] Oper.semAt_some
section
variable {B w : World} {L : List HP}

set_option maxHeartbeats 1000000 in
theorem bhas (f s : ByteArray) (hf : f.size ≤ 9223372036854775807) (hs : s.size ≤ 9223372036854775807) (h : Sat B L w) :
    Calls Try.prog 32 #[.string f, .string s] w fun e w' => e = .returned (.bool (has f s)) ∧ Sat B L w' := by
  by_cases ok : okF f
  · have hc := fun w => check_any w f hf
    rw [chk, if_pos ok] at hc
    have hh : has f s = (plcs (hA s) (hB s) (8 * (f.size - 1) : Nat) (byteAt f 0).toNat).all (fun p => !clr f p) := by rw [has, if_pos ok]
    obtain ⟨h9, h3, h1, h8⟩ := ok
    rw [byteAt_in (by omega), Int.toNat_natCast] at hh
    have f0 : 0 < f.size := by omega
    obtain ⟨u, hu⟩ : ∃ u, f[0] = u := ⟨_, rfl⟩
    rw [hu] at h1 h8
    rw [hu] at hh
    obtain ⟨k, hk⟩ : ∃ k : Nat, u.toNat = k := ⟨_, rfl⟩
    rw [hk] at h1 h8 hh
    obtain ⟨m, hm⟩ : ∃ m : Nat, 8 * (f.size - 1) = m := ⟨_, rfl⟩
    rw [hm] at hh
    obtain ⟨z, hz⟩ : ∃ z, has f s = z := ⟨_, rfl⟩
    rw [hz] at hh ⊢
    have Hh := Lib.hid hh
    have Hc := Lib.hid hc
    clear hh hz hc
    have m1 : 8 * ((f.size : Int) - 1) = m := by omega
    have h1' := (h.alloc (.cells #[.string f] 9)).alloc (.cells #[.bool false] 4)
    rw [World.size_alloc] at h1'
    refine calls_of_wp_marks Try.func32 rfl ?_
    simp only [Try.ntmps32, List.size_toArray, List.length_cons, List.length_nil, Nat.reduceAdd, Nat.reduceSub, Array.replicate_succ, Array.replicate_zero, List.push_toArray, List.append_toArray, List.nil_append, List.cons_append]
    go_wp2_with fail
    refine (Hc.out _).mono ?_
    rintro e w1 ⟨rfl, rfl⟩
    clear Hc
    go_wp2_with fail
    obtain ⟨w0, hw0⟩ : ∃ w0, (w.alloc (.cells #[.string f] 9)).alloc (.cells #[.bool false] 4) = w0 := ⟨_, rfl⟩
    obtain ⟨b0, hb0⟩ : ∃ b0, w.heap.size = b0 := ⟨_, rfl⟩
    rw [hw0, hb0] at h1'
    rw [hw0, hb0]
    clear hw0 hb0 h
    have c0 : w0.cell? ⟨b0, 0, none⟩ = some (.string f) := h1'.swap.pt_cell 0
    have k1 : IntKind.i64.wrap (k : Int) = k := IntWalk.i64_in _ (by omega)
    have k2 : IntKind.i64.wrap ((f.size : Int) - 1) = f.size - 1 := IntWalk.i64_in _ (by omega)
    have k3 : IntKind.i64.wrap (m : Int) = m := IntWalk.i64_in _ (by omega)
    go_region_with (go_at_call 34; refine (places_any s k m h1'.drew).mono ?_; rintro e w2 ⟨b1, b2, b3, rfl, h2⟩)
    all_goals
      go_wp2_with fail
      have hz2 := Hh.out
      clear c0 h1'
      refine wp_rangeFunc_sat (B := B) (gf := 36) (lb := #[.pointer (some ⟨b1, 0, none⟩), .pointer (some ⟨b2, 0, none⟩), .pointer (some ⟨b3, 0, none⟩)]) rfl (enters_of Try.func36 (by kernel_rfl) rfl)
        (places_iter s hs k m (by omega) (by omega) h8 b1 b2 b3) (fun _ => rfl)
        (fun pre => stars [fact (pre.all (fun p => !clr f p) = true), pt (b0 + 1) (.cells #[.bool false] 4), pt b0 (.cells #[.string f] 9)])
        (fun c _ => stars [fact (c = .ret ∧ z = false), pt (b0 + 1) (.cells #[.bool false] 4), pt b0 (.cells #[.string f] 9)])
        (L := L) ?start
        (fun x => { tmps := #[.string f, .string s, .pointer (some ⟨b0, 0, none⟩), undef, .pointer (some ⟨b0 + 1, 0, none⟩), .int .i64 x, .string f, .int .i64 0, .bool false, .string s, .string f, .int .u8 k, .int .i64 k, .string f, .int .i64 f.size, .int .i64 (f.size - 1), .int .i64 m, .func (.func 36) #[] #[.pointer (some ⟨b1, 0, none⟩), .pointer (some ⟨b2, 0, none⟩), .pointer (some ⟨b3, 0, none⟩)], .int .i64 x, undef, undef, undef, undef, undef, undef, undef, undef, undef, undef], defers := [] })
        ?assign ?body ?done ?stop
      case start => exact Sat.fold (L := [_, _, _]) (Sat.fact_in (p := (([] : List Int).all (fun p => !clr f p) = true)) rfl (Sat.q2 h2))
      case assign =>
        intro l x W K hK
        gi_wp2
        exact hK
      case body =>
        intro l pre x rest W R hx hS
        have hS1 := Sat.flat (L := [_, _, _]) hS
        obtain ⟨hall, hS2⟩ := Sat.fact_out hS1
        have c0 : W.cell? ⟨b0, 0, none⟩ = some (.string f) := (Sat.swap hS2).pt_cell 0
        have c4 : W.cell? ⟨b0 + 1, 0, none⟩ = some (.bool false) := Sat.pt_cell hS2 0
        have f4 : W.frozen? ⟨b0 + 1, 0, none⟩ = false := Sat.pt_free hS2 0
        obtain ⟨p0, p1⟩ := plcs_in (hB s) (show 0 < (m : Int) by omega) k (hA s) x (by rw [hx]; simp)
        obtain ⟨q, rfl⟩ := Int.eq_ofNat_of_zero_le p0
        obtain ⟨d, hd⟩ : ∃ d, q / 8 = d := ⟨_, rfl⟩
        obtain ⟨r, hr⟩ : ∃ r, q % 8 = r := ⟨_, rfl⟩
        obtain ⟨D, hD⟩ : ∃ D, D = d + 1 := ⟨_, rfl⟩
        have hDf : D < f.size := by omega
        have e1 : IntKind.i64.wrap ((q : Int) / 8) = d := by rw [IntWalk.i64_in _ (by omega)]; omega
        have e2 : IntKind.i64.wrap (1 + (d : Int)) = D := by rw [IntWalk.i64_in _ (by omega)]; omega
        have e3 : (q : Int) % 8 = r := by omega
        have hr8 : r < 8 := by omega
        have e4 : IntKind.i64.wrap (r : Int) = r := IntWalk.i64_in _ (by omega)
        obtain ⟨x, hx2⟩ : ∃ x, bits BinOp.and .u8 ((f[D].toNat : Int) / 2 ^ r) 1 = x := ⟨_, rfl⟩
        have Hc := Lib.hid (show clr f q = (x == 0) by rw [clr, Int.toNat_natCast, hd, hr, ← hD, byteAt_in hDf, hx2])
        have Hx := Lib.hid hx
        have Hall := Lib.hid hall
        clear hd hr hD p1 hx hS hS1 hall hz2
        by_cases hx0 : x = 0
        · subst hx0
          gi_wp2
          have e5 : z = false := by
            rw [Hh.out, List.all_eq_false]
            exact ⟨(q : Int), by rw [Hx.out]; simp, by rw [Hc.out]; decide⟩
          exact Sat.fold (L := [_, _, _]) (Sat.fact_in (p := (Code.ret = Code.ret ∧ z = false)) ⟨rfl, e5⟩ (Sat.set (j := 0) hS2 (.bool false)))
        · gi_wp2
          refine Sat.fold (L := [_, _, _]) (Sat.fact_in (p := ((pre ++ [(q : Int)]).all (fun p => !clr f p) = true)) ?_ hS2)
          rw [List.all_append, Hall.out]
          simp [Hc.out, hx0]
      case done =>
        intro D W hW
        have hW1 := Sat.flat (L := [_, _, _]) (Sat.swap hW)
        obtain ⟨hall, hW2⟩ := Sat.fact_out hW1
        have e5 : z = true := by rw [hz2, hall]
        have c4 : W.cell? ⟨b0 + 1, 0, none⟩ = some (.bool false) := Sat.pt_cell hW2 0
        have f4 : W.frozen? ⟨b0 + 1, 0, none⟩ = false := Sat.pt_free hW2 0
        clear hall hz2 hW hW1
        go_wp2_with fail
        rw [e5]
        refine leaves_marks [D] _ (dfs_cons (Sat.swap (dfs_nil (Sat.p2 (Sat.set (j := 0) hW2 (.bool true)))))) fun w' h' => ?_
        have c4 : w'.cell? ⟨b0 + 1, 0, none⟩ = some (.bool true) := Sat.pt_cell h' 0
        exact ⟨.bool true, by simp [results, Try.results32, go_sem, c4], rfl, h'.drop.drop.drop⟩
      case stop =>
        intro D c pre rest W hx hW
        have hW1 := Sat.flat (L := [_, _, _]) (Sat.swap hW)
        obtain ⟨⟨rfl, e5⟩, hW2⟩ := Sat.fact_out hW1
        clear hz2 hW hW1 hx
        have c4 : W.cell? ⟨b0 + 1, 0, none⟩ = some (.bool false) := Sat.pt_cell hW2 0
        go_wp2_with fail
        rw [e5]
        refine leaves_marks [D] _ (dfs_cons (Sat.swap (dfs_nil (Sat.p2 hW2)))) fun w' h' => ?_
        have c4 : w'.cell? ⟨b0 + 1, 0, none⟩ = some (.bool false) := Sat.pt_cell h' 0
        exact ⟨.bool false, by simp [results, Try.results32, go_sem, c4], rfl, h'.drop.drop.drop⟩
  · have hc := fun w => check_any w f hf
    rw [chk, if_neg ok] at hc
    have hh : has f s = true := by rw [has, if_neg ok]
    rw [hh]
    have Hc := Lib.hid hc
    clear hh hc
    have h1' := (h.alloc (.cells #[.string f] 9)).alloc (.cells #[.bool false] 4)
    rw [World.size_alloc] at h1'
    refine calls_of_wp_marks Try.func32 rfl ?_
    simp only [Try.ntmps32, List.size_toArray, List.length_cons, List.length_nil, Nat.reduceAdd, Nat.reduceSub, Array.replicate_succ, Array.replicate_zero, List.push_toArray, List.append_toArray, List.nil_append, List.cons_append]
    go_wp2_with fail
    refine (Hc.out _).mono ?_
    rintro e w1 ⟨rfl, rfl⟩
    clear Hc
    go_wp2_with fail
    have h2 := (h.alloc (.cells #[.string f] 9)).alloc (.cells #[.bool true] 4)
    rw [World.size_alloc] at h2
    refine leaves_marks [] _ (dfs_nil h2) fun w' h' => ?_
    have c4 : w'.cell? ⟨w.heap.size + 1, 0, none⟩ = some (.bool true) := Sat.pt_cell h' 0
    exact ⟨.bool true, by simp [results, Try.results32, go_sem, c4], rfl, h'.drop.drop⟩
end
end Go.Proofs.Ytgccdndlpjbkhaa
