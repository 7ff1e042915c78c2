/-
  WalAny's own walk. (Under way.)
-/
import Derived.Test.YtdngjkjoahgelaaGreatDoorWn1
import Derived.Test.YtdngjkjoahgelaaGreatDoorWalK
import Derived.Test.YtdngjkjoahgelaaGreatDoorRows
import Derived.Lib.LaidTab
import Derived.Lib.SmallJoins
namespace Go.Proofs.YtdngjkjoahgelaaGreatDoor
set_option linter.all false
set_option maxRecDepth 100000
set_option maxHeartbeats 4000000
open Go.RowKit
theorem walAny_sat (B w : World) (hE : Env B) (s : ByteArray) (h : Sat B [] w) (hworks : ∀ w', Calls Tryz.prog 16 #[] w' fun y w'' => y = .returned (.bool true) ∧ Below w'.heap.size w' w'') :
    Calls Tryz.prog 4 #[.string s] w fun y w' => y = .returned (.bool true) ∧ Below B.heap.size B w' := by
  obtain ⟨b, hb⟩ : ∃ b, s.data.toList.take 2000 = b := ⟨_, rfl⟩
  have hbl : b.length ≤ 2000 := by rw [← hb, List.length_take]; omega
  have hc := pcut s 2000 (by omega) (w := w)
  rw [hb] at hc
  obtain ⟨a1, a2, a3, a4, a5⟩ := any_made b hbl
  obtain ⟨D, ho, hR⟩ := any_open b hbl
  have hn := pdNew (w := w) (B := B) (L := []) 1048576 (by omega) h
  clear hb
  go_enter Tryz.func4, Tryz.ntmps4
  go_wp2_with fail
  refine hc.mono ?_
  rintro y w1 ⟨rfl, rfl⟩
  go_wp2_with fail
  refine hn.mono ?_
  rintro y w2 ⟨p, rfl, h2⟩
  have h2 : Sat B (disk p 1048576 [] :: []) w2 := h2
  have k1 := pdAppend nmA b (by decide) (by omega) h2
  rw [a1] at k1
  go_wp2_with fail
  refine k1.mono ?_
  rintro y w3 ⟨rfl, h3⟩
  have k2 := pdAppend nmV [109, 105, 110, 101] (by decide) (by decide) h3
  rw [a2] at k2
  go_wp2_with fail
  refine k2.mono ?_
  rintro y w4 ⟨rfl, h4⟩
  have k3 := pdAppend nmT [120] (by decide) (by decide) h4
  rw [a3] at k3
  go_wp2_with fail
  refine k3.mono ?_
  rintro y w5 ⟨rfl, h5⟩
  have k4 := pdAppend nmX [121] (by decide) (by decide) h5
  rw [a4] at k4
  go_wp2_with fail
  refine k4.mono ?_
  rintro y w6 ⟨rfl, h6⟩
  have k5 := pdAppend nmZ [122] (by decide) (by decide) h6
  rw [a5] at k5
  go_wp2_with fail
  refine k5.mono ?_
  rintro y w7 ⟨rfl, h7⟩
  have ko := pwOpen (pre := [119]) (most := 50) hE (by decide) (by omega) (by omega) (by simp [anyD]) (by omega) h7
  have ko2 : Calls Tryz.prog 8 #[.pointer (some ⟨p, 0, none⟩), .string (bA [119]), .int .i64 50] w7 fun y w' => ∃ q, y = .returned (.tuple #[.pointer (some ⟨q, 0, none⟩), .int .i64 0]) ∧ Sat B (wal q p [119] 50 [⟨5, scanB b⟩] :: disk p 1048576 D :: []) w' := by
    refine ko.mono ?_
    intro y w' hy
    rw [OpenPost, ho] at hy
    rcases hy with ⟨_, h⟩ | ⟨h, _⟩
    · exact h
    · exact absurd rfl h
  clear k1 k2 k3 k4 k5 h2 h3 h4 h5 h6 hc hn ko a1 a2 a3 a4 a5
  go_wp2_with fail
  refine ko2.mono ?_
  rintro y w8 ⟨q, rfl, h8⟩
  obtain ⟨rs, hrs⟩ : ∃ rs, scanB b = rs := ⟨_, rfl⟩
  obtain ⟨gd, hgd⟩ : ∃ gd, goodB rs = gd := ⟨_, rfl⟩
  rw [hrs] at h8
  have ksc := psScan2 (by omega) hrs hgd h8
  go_wp2_with fail
  refine ksc.mono ?_
  rintro y w9 ⟨v, rfl, h9⟩
  obtain ⟨va, vc, rfl, _⟩ := h9.row_reads
  have kf := pwFirst h9.swap
  have kn := pwNext h9.swap
  obtain ⟨n, hn⟩ : ∃ n, rs.length = n := ⟨_, rfl⟩
  rw [hn] at h9 ⊢
  have en : nextW [(⟨5, rs⟩ : WF)] = 5 + n := by rw [← hn]; rfl
  rw [en] at kn
  rw [show firstW [(⟨5, rs⟩ : WF)] = 5 from rfl] at kf
  have hnl : n ≤ 250 := by
    have := (scan_good b.length b (Nat.le_refl _)).1
    have h8r := rs_le rs
    rw [hrs] at this
    omega
  have Hn := Lib.hid hn
  have Hrs := Lib.hid hrs
  have Hgd := Lib.hid hgd
  have e1 : IntKind.u64.wrap (n : Int) = (n : Int) := by rw [IntKind.wrap_u64]; omega
  have e2 : IntKind.u64.wrap (5 + (n : Int)) = 5 + (n : Int) := by rw [IntKind.wrap_u64]; omega
  clear hn hrs hgd ksc ko2 h7 h8 en
  go_wp2_with (first
    | (go_at_call 13; refine kf.mono ?_; rintro y w10 ⟨rfl, rfl⟩)
    | (go_at_call 14; refine kn.mono ?_; rintro y w11 ⟨rfl, k11, rfl⟩))
  have hgv : ∀ i x, rs[i]? = some x → getV [(⟨5, rs⟩ : WF)] (5 + i) = .tuple #[.string (bA x), .int .i64 0] := fun i x hx => by
    have hlt : i < rs.length := (List.getElem?_eq_some_iff.1 hx).1
    rw [getV, getW_in (show (⟨5, rs⟩ : WF).first ≤ 5 + i ∧ 5 + i < (⟨5, rs⟩ : WF).next from ⟨by show 5 ≤ _; omega, by show _ < 5 + rs.length; omega⟩)]
    show (match rs[5 + i - 5]? with | _ => _) = _
    rw [Nat.add_sub_cancel_left, hx]
  have Hgv := Lib.hid hgv
  have h10 := h9.drewN k11
  clear hgv h9
  have n1 : (n : Int) ≤ 250 := by omega
  go_loopg [8] (n + 1) (fun gh v8 wr => ∃ i : Nat, i ≤ n ∧ n + 1 ≤ i + gh ∧ v8 = .int .i64 (i : Int) ∧ Sat B (row 9 1 (.slice va n vc) n (strB rs) :: wal q p [119] 50 [⟨5, rs⟩] :: disk p 1048576 D :: []) wr)
  case atStart => exact ⟨0, by omega, by omega, rfl, h10⟩
  case round =>
    obtain ⟨i, hi1, hi2, rfl, h11⟩ := hrel
    by_cases hi : i < n
    · obtain ⟨x, hx⟩ : ∃ x, rs[i]? = some x := ⟨_, List.getElem?_eq_getElem (by rw [Hn.out]; exact hi)⟩
      obtain ⟨a', c', he, _, _, _, hc'⟩ := h11.row_reads
      cases he
      obtain ⟨g, off, rfl, hcell⟩ := hc' i _ (strB_get hx)
      have kg := pwGet (5 + i) (by omega) h11.swap
      rw [Hgv.out i x hx] at kg
      have i1 : (i : Int) < (n : Int) := by omega
      have e3 : IntKind.u64.wrap (i : Int) = (i : Int) := by rw [IntKind.wrap_u64]; omega
      have e4 : IntKind.u64.wrap (5 + (i : Int)) = 5 + (i : Int) := by rw [IntKind.wrap_u64]; omega
      rw [show ((5 + i : Nat) : Int) = 5 + (i : Int) by omega] at kg
      clear hc' hx
      go_wp2_with (first | (go_at_call 15; refine kg.mono ?_; rintro y w12 ⟨rfl, k12, rfl⟩))
      go_roundg (gk - 1)
      case measure => omega
      case rel => exact ⟨i + 1, by omega, by omega, by go_num, h11.drewN k12⟩
    · have hin : i = n := by omega
      subst hin
      have hd := h11.p2
      have kA := pdRead nmA hd
      have kV := pdRead nmV hd
      have kX := pdRead nmX hd
      have kT := pdRead nmT hd
      have kZ := pdRead nmZ hd
      rw [hR.a, Hrs.out, Hgd.out] at kA
      rw [hR.v] at kV
      rw [hR.x] at kX
      rw [hR.t] at kT
      rw [hR.z] at kZ
      have hgs : gd ≤ b.length := by
        have := (scan_good b.length b (Nat.le_refl _)).1
        rw [Hrs.out, Hgd.out] at this
        exact this
      have g1 : (gd : Int) ≤ (b.length : Int) := by omega
      have hszb : (bA b).size = b.length := by simp [ByteArray.size]
      have exb : (bA b).extract 0 gd = bA (b.take gd) := by
        apply ByteArray.ext
        rw [ByteArray.data_extract]
        simp
      clear hR ho hd h10 kf kn
      go_wp2_with fail
      refine kA.mono ?_
      rintro y w13 ⟨rfl, rfl⟩
      go_wp2_with fail
      refine kV.mono ?_
      rintro y w14 ⟨rfl, rfl⟩
      go_wp2_with fail
      refine kX.mono ?_
      rintro y w15 ⟨rfl, rfl⟩
      go_wp2_with fail
      refine kT.mono ?_
      rintro y w16 ⟨rfl, rfl⟩
      go_wp2_with fail
      refine kZ.mono ?_
      rintro y w17 ⟨rfl, rfl⟩
      go_wp2_with fail
      refine (hworks _).mono ?_
      rintro y w18 ⟨rfl, hb18⟩
      go_wp2_with fail
      go_ret
      exact ⟨rfl, (h11.of_below hb18).below⟩
theorem walAny_walk (W : World) (hE : Env W) (s : ByteArray) : Calls Tryz.prog 4 #[.string s] W fun y w' => y = .returned (.bool true) ∧ Below W.heap.size W w' :=
  walAny_sat W W hE s (Sat.start W) known_walk
theorem gPow : Tryz.prog.globalNamed "internal/strconv.uint64pow10" = some 2 := by kernel_rfl
theorem gPowT : (Tryz.prog.globals[2]?).map (·.type) = some 216 := by kernel_rfl
theorem cellsPow : Tryz.prog.cellsOf 216 = 20 := by kernel_rfl
theorem cellsU64 : Tryz.prog.cellsOf 35 = 1 := by kernel_rfl
theorem env_of {W : World} {r1 : List (String × DataW Unit)} (hP : laidMet Tryz.prog (("internal/strconv.uint64pow10", Rows.laid_internal_strconv_uint64pow10) :: r1) W) : Env W :=
  ⟨Lib.tabIs_of_head (k := .u64) (zs := Lib.pow10Tab) gPow gPowT Tryz.underlying216 Tryz.underlying35 cellsU64 cellsPow hP⟩
end Go.Proofs.YtdngjkjoahgelaaGreatDoor
