/-
  acreage/acreagelaw18.TabletKnown: the pieces joined.
-/
import Derived.Test.YtojmkniahnkgbaaGreatDoorTk1
import Derived.Test.YtojmkniahnkgbaaGreatDoorTk2
import Derived.Test.YtojmkniahnkgbaaGreatDoorTk3
import Derived.Test.YtojmkniahnkgbaaGreatDoorTk4
import Derived.Test.YtojmkniahnkgbaaGreatDoorTk5
import Derived.Test.YtojmkniahnkgbaaGreatDoorTk6
namespace Go.Proofs.YtojmkniahnkgbaaGreatDoor
set_option linter.all false
set_option maxRecDepth 1000000
namespace Tk
open Ex Go.RowKit
theorem a2_1 : All Tryz.prog (.code c2_1) cx2 l2_1.st K2 = true := all_run noNum primsT_ok mixed p3
theorem a2_0 : All Tryz.prog (.code c2_0) cx2 l2_0.st K2 = true := seqs_cut noNum primsT_ok mixed (l := l2_1) 8 c2_0 l2_0.st (by kernel_rfl) p2 a2_1
theorem body2 : Tryz.f23.body = some c2_0 := by kernel_rfl
theorem met2 : Ex.Met Tryz.prog 23 (litP l2_0 88 r2) := (by first | exact met_lit noNum Tryz.func23 body2 a2_0 | (show Ex.Met _ _ (litP _ Tryz.ntmps23 _); exact met_lit noNum Tryz.func23 body2 a2_0))
theorem prims1_ok : PrimOk Tryz.prog prims1 := primOk_or met2 primsT_ok
theorem a1_1 : All Tryz.prog (.code c1_1) cx1 l1_1.st K1 = true := all_run noNum prims1_ok mixed p4
theorem a1_0 : All Tryz.prog (.code c1_0) cx1 l1_0.st K1 = true := seqs_cut noNum primsT_ok mixed (l := l1_1) 3 c1_0 l1_0.st (by kernel_rfl) p1 a1_1
theorem body1 : Tryz.f4.body = some c1_0 := by kernel_rfl
theorem met1 : Ex.Met Tryz.prog 4 (litP l1_0 48 r1) := (by first | exact met_lit noNum Tryz.func4 body1 a1_0 | (show Ex.Met _ _ (litP _ Tryz.ntmps4 _); exact met_lit noNum Tryz.func4 body1 a1_0))
theorem prims2_ok : PrimOk Tryz.prog prims2 := primOk_or met1 prims1_ok
theorem a5_1 : All Tryz.prog (.code c5_1) cx5 l5_1.st K5 = true := all_run noNum prims2_ok mixed p10
theorem a5_0 : All Tryz.prog (.code c5_0) cx5 l5_0.st K5 = true := seqs_cut noNum prims2_ok mixed (l := l5_1) 7 c5_0 l5_0.st (by kernel_rfl) p9 a5_1
theorem body5 : Tryz.f82.body = some c5_0 := by kernel_rfl
theorem met5 : Ex.Met Tryz.prog 82 (litP l5_0 68 r5) := (by first | exact met_lit noNum Tryz.func82 body5 a5_0 | (show Ex.Met _ _ (litP _ Tryz.ntmps82 _); exact met_lit noNum Tryz.func82 body5 a5_0))
theorem prims3_ok : PrimOk Tryz.prog prims3 := primOk_or met5 prims2_ok
theorem a4_1 : All Tryz.prog (.code c4_1) cx4 l4_1.st K4 = true := all_run noNum prims3_ok mixed p11
theorem a4_0 : All Tryz.prog (.code c4_0) cx4 l4_0.st K4 = true := seqs_cut noNum prims2_ok mixed (l := l4_1) 1 c4_0 l4_0.st (by kernel_rfl) p8 a4_1
theorem body4 : Tryz.f36.body = some c4_0 := by kernel_rfl
theorem met4 : Ex.Met Tryz.prog 36 (litP l4_0 44 r4) := (by first | exact met_lit noNum Tryz.func36 body4 a4_0 | (show Ex.Met _ _ (litP _ Tryz.ntmps36 _); exact met_lit noNum Tryz.func36 body4 a4_0))
theorem prims4_ok : PrimOk Tryz.prog prims4 := primOk_or met4 prims3_ok
theorem a3_1 : All Tryz.prog (.code c3_1) cx3 l3_1.st K3 = true := all_run noNum prims4_ok mixed p12
theorem a3_0 : All Tryz.prog (.code c3_0) cx3 l3_0.st K3 = true := seqs_cut noNum prims2_ok mixed (l := l3_1) 8 c3_0 l3_0.st (by kernel_rfl) p7 a3_1
theorem body3 : Tryz.f6.body = some c3_0 := by kernel_rfl
theorem met3 : Ex.Met Tryz.prog 6 (litP l3_0 200 r3) := (by first | exact met_lit noNum Tryz.func6 body3 a3_0 | (show Ex.Met _ _ (litP _ Tryz.ntmps6 _); exact met_lit noNum Tryz.func6 body3 a3_0))
theorem prims5_ok : PrimOk Tryz.prog prims5 := primOk_or met3 prims4_ok
theorem a8_1 : All Tryz.prog (.code c8_1) cx8 l8_1.st K8 = true := all_run noNum prims5_ok mixed p19
theorem a8_0 : All Tryz.prog (.code c8_0) cx8 l8_0.st K8 = true := seqs_cut noNum prims5_ok mixed (l := l8_1) 8 c8_0 l8_0.st (by kernel_rfl) p18 a8_1
theorem body8 : Tryz.f23.body = some c8_0 := by kernel_rfl
theorem met8 : Ex.Met Tryz.prog 23 (litP l8_0 88 r8) := (by first | exact met_lit noNum Tryz.func23 body8 a8_0 | (show Ex.Met _ _ (litP _ Tryz.ntmps23 _); exact met_lit noNum Tryz.func23 body8 a8_0))
theorem prims6_ok : PrimOk Tryz.prog prims6 := primOk_or met8 prims5_ok
theorem a7_1 : All Tryz.prog (.code c7_1) cx7 l7_1.st K7 = true := all_run noNum prims6_ok mixed p20
theorem a7_0 : All Tryz.prog (.code c7_0) cx7 l7_0.st K7 = true := seqs_cut noNum prims5_ok mixed (l := l7_1) 5 c7_0 l7_0.st (by kernel_rfl) p17 a7_1
theorem body7 : Tryz.f36.body = some c7_0 := by kernel_rfl
theorem met7 : Ex.Met Tryz.prog 36 (litP l7_0 44 r7) := (by first | exact met_lit noNum Tryz.func36 body7 a7_0 | (show Ex.Met _ _ (litP _ Tryz.ntmps36 _); exact met_lit noNum Tryz.func36 body7 a7_0))
theorem prims7_ok : PrimOk Tryz.prog prims7 := primOk_or met7 prims6_ok
theorem a6_1 : All Tryz.prog (.code c6_1) cx6 l6_1.st K6 = true := all_run noNum prims7_ok mixed p21
theorem a6_0 : All Tryz.prog (.code c6_0) cx6 l6_0.st K6 = true := seqs_cut noNum prims5_ok mixed (l := l6_1) 8 c6_0 l6_0.st (by kernel_rfl) p16 a6_1
theorem body6 : Tryz.f6.body = some c6_0 := by kernel_rfl
theorem met6 : Ex.Met Tryz.prog 6 (litP l6_0 200 r6) := (by first | exact met_lit noNum Tryz.func6 body6 a6_0 | (show Ex.Met _ _ (litP _ Tryz.ntmps6 _); exact met_lit noNum Tryz.func6 body6 a6_0))
theorem prims8_ok : PrimOk Tryz.prog prims8 := primOk_or met6 prims7_ok
theorem a11_1 : All Tryz.prog (.code c11_1) cx11 l11_1.st K11 = true := all_run noNum prims8_ok mixed p27
theorem a11_0 : All Tryz.prog (.code c11_0) cx11 l11_0.st K11 = true := seqs_cut noNum prims8_ok mixed (l := l11_1) 7 c11_0 l11_0.st (by kernel_rfl) p26 a11_1
theorem body11 : Tryz.f82.body = some c11_0 := by kernel_rfl
theorem met11 : Ex.Met Tryz.prog 82 (litP l11_0 68 r11) := (by first | exact met_lit noNum Tryz.func82 body11 a11_0 | (show Ex.Met _ _ (litP _ Tryz.ntmps82 _); exact met_lit noNum Tryz.func82 body11 a11_0))
theorem prims9_ok : PrimOk Tryz.prog prims9 := primOk_or met11 prims8_ok
theorem a10_1 : All Tryz.prog (.code c10_1) cx10 l10_1.st K10 = true := all_run noNum prims9_ok mixed p28
theorem a10_0 : All Tryz.prog (.code c10_0) cx10 l10_0.st K10 = true := seqs_cut noNum prims8_ok mixed (l := l10_1) 1 c10_0 l10_0.st (by kernel_rfl) p25 a10_1
theorem body10 : Tryz.f36.body = some c10_0 := by kernel_rfl
theorem met10 : Ex.Met Tryz.prog 36 (litP l10_0 44 r10) := (by first | exact met_lit noNum Tryz.func36 body10 a10_0 | (show Ex.Met _ _ (litP _ Tryz.ntmps36 _); exact met_lit noNum Tryz.func36 body10 a10_0))
theorem prims10_ok : PrimOk Tryz.prog prims10 := primOk_or met10 prims9_ok
theorem a9_1 : All Tryz.prog (.code c9_1) cx9 l9_1.st K9 = true := all_run noNum prims10_ok mixed p29
theorem a9_0 : All Tryz.prog (.code c9_0) cx9 l9_0.st K9 = true := seqs_cut noNum prims8_ok mixed (l := l9_1) 8 c9_0 l9_0.st (by kernel_rfl) p24 a9_1
theorem body9 : Tryz.f6.body = some c9_0 := by kernel_rfl
theorem met9 : Ex.Met Tryz.prog 6 (litP l9_0 200 r9) := (by first | exact met_lit noNum Tryz.func6 body9 a9_0 | (show Ex.Met _ _ (litP _ Tryz.ntmps6 _); exact met_lit noNum Tryz.func6 body9 a9_0))
theorem prims11_ok : PrimOk Tryz.prog prims11 := primOk_or met9 prims10_ok
theorem a14_1 : All Tryz.prog (.code c14_1) cx14 l14_1.st K14 = true := all_run noNum prims11_ok mixed p35
theorem a14_0 : All Tryz.prog (.code c14_0) cx14 l14_0.st K14 = true := seqs_cut noNum prims11_ok mixed (l := l14_1) 8 c14_0 l14_0.st (by kernel_rfl) p34 a14_1
theorem body14 : Tryz.f23.body = some c14_0 := by kernel_rfl
theorem met14 : Ex.Met Tryz.prog 23 (litP l14_0 88 r14) := (by first | exact met_lit noNum Tryz.func23 body14 a14_0 | (show Ex.Met _ _ (litP _ Tryz.ntmps23 _); exact met_lit noNum Tryz.func23 body14 a14_0))
theorem prims12_ok : PrimOk Tryz.prog prims12 := primOk_or met14 prims11_ok
theorem a13_1 : All Tryz.prog (.code c13_1) cx13 l13_1.st K13 = true := all_run noNum prims12_ok mixed p36
theorem a13_0 : All Tryz.prog (.code c13_0) cx13 l13_0.st K13 = true := seqs_cut noNum prims11_ok mixed (l := l13_1) 3 c13_0 l13_0.st (by kernel_rfl) p33 a13_1
theorem body13 : Tryz.f4.body = some c13_0 := by kernel_rfl
theorem met13 : Ex.Met Tryz.prog 4 (litP l13_0 48 r13) := (by first | exact met_lit noNum Tryz.func4 body13 a13_0 | (show Ex.Met _ _ (litP _ Tryz.ntmps4 _); exact met_lit noNum Tryz.func4 body13 a13_0))
theorem prims13_ok : PrimOk Tryz.prog prims13 := primOk_or met13 prims12_ok
theorem a17_1 : All Tryz.prog (.code c17_1) cx17 l17_1.st K17 = true := all_run noNum prims13_ok mixed p42
theorem a17_0 : All Tryz.prog (.code c17_0) cx17 l17_0.st K17 = true := seqs_cut noNum prims13_ok mixed (l := l17_1) 7 c17_0 l17_0.st (by kernel_rfl) p41 a17_1
theorem body17 : Tryz.f82.body = some c17_0 := by kernel_rfl
theorem met17 : Ex.Met Tryz.prog 82 (litP l17_0 68 r17) := (by first | exact met_lit noNum Tryz.func82 body17 a17_0 | (show Ex.Met _ _ (litP _ Tryz.ntmps82 _); exact met_lit noNum Tryz.func82 body17 a17_0))
theorem prims14_ok : PrimOk Tryz.prog prims14 := primOk_or met17 prims13_ok
theorem a16_1 : All Tryz.prog (.code c16_1) cx16 l16_1.st K16 = true := all_run noNum prims14_ok mixed p43
theorem a16_0 : All Tryz.prog (.code c16_0) cx16 l16_0.st K16 = true := seqs_cut noNum prims13_ok mixed (l := l16_1) 1 c16_0 l16_0.st (by kernel_rfl) p40 a16_1
theorem body16 : Tryz.f36.body = some c16_0 := by kernel_rfl
theorem met16 : Ex.Met Tryz.prog 36 (litP l16_0 44 r16) := (by first | exact met_lit noNum Tryz.func36 body16 a16_0 | (show Ex.Met _ _ (litP _ Tryz.ntmps36 _); exact met_lit noNum Tryz.func36 body16 a16_0))
theorem prims15_ok : PrimOk Tryz.prog prims15 := primOk_or met16 prims14_ok
theorem a15_1 : All Tryz.prog (.code c15_1) cx15 l15_1.st K15 = true := all_run noNum prims15_ok mixed p44
theorem a15_0 : All Tryz.prog (.code c15_0) cx15 l15_0.st K15 = true := seqs_cut noNum prims13_ok mixed (l := l15_1) 8 c15_0 l15_0.st (by kernel_rfl) p39 a15_1
theorem body15 : Tryz.f6.body = some c15_0 := by kernel_rfl
theorem met15 : Ex.Met Tryz.prog 6 (litP l15_0 200 r15) := (by first | exact met_lit noNum Tryz.func6 body15 a15_0 | (show Ex.Met _ _ (litP _ Tryz.ntmps6 _); exact met_lit noNum Tryz.func6 body15 a15_0))
theorem prims16_ok : PrimOk Tryz.prog prims16 := primOk_or met15 prims15_ok
theorem a12_4 : All Tryz.prog (.code c12_4) cx12 l12_4.st K12 = true := all_run noNum prims16_ok mixed p46
theorem a12_3 : All Tryz.prog (.code c12_3) cx12 l12_3.st K12 = true := seqs_cut noNum prims16_ok mixed (l := l12_4) 1 c12_3 l12_3.st (by kernel_rfl) p45 a12_4
theorem a12_2 : All Tryz.prog (.code c12_2) cx12 l12_2.st K12 = true := seqs_cut noNum prims13_ok mixed (l := l12_3) 3 c12_2 l12_2.st (by kernel_rfl) p38 a12_3
theorem a12_1 : All Tryz.prog (.code c12_1) cx12 l12_1.st K12 = true := seqs_cut noNum prims13_ok mixed (l := l12_2) 1 c12_1 l12_1.st (by kernel_rfl) p37 a12_2
theorem a12_0 : All Tryz.prog (.code c12_0) cx12 l12_0.st K12 = true := seqs_cut noNum prims11_ok mixed (l := l12_1) 1 c12_0 l12_0.st (by kernel_rfl) p32 a12_1
theorem body12 : Tryz.f18.body = some c12_0 := by kernel_rfl
theorem met12 : Ex.Met Tryz.prog 18 (litP l12_0 70 r12) := (by first | exact met_lit noNum Tryz.func18 body12 a12_0 | (show Ex.Met _ _ (litP _ Tryz.ntmps18 _); exact met_lit noNum Tryz.func18 body12 a12_0))
theorem prims17_ok : PrimOk Tryz.prog prims17 := primOk_or met12 prims16_ok
theorem a0_10 : All Tryz.prog (.code c0_10) cx0 l0_9.st K0 = true := all_run noNum prims17_ok mixed p47
theorem a0_9 : All Tryz.prog (.code c0_9) cx0 l0_8.st K0 = true := seqs_cut noNum prims11_ok mixed (l := l0_9) 14 c0_9 l0_8.st (by kernel_rfl) p31 a0_10
theorem a0_8 : All Tryz.prog (.code c0_8) cx0 l0_7.st K0 = true := seqs_cut noNum prims11_ok mixed (l := l0_8) 1 c0_8 l0_7.st (by kernel_rfl) p30 a0_9
theorem a0_7 : All Tryz.prog (.code c0_7) cx0 l0_6.st K0 = true := seqs_cut noNum prims8_ok mixed (l := l0_7) 6 c0_7 l0_6.st (by kernel_rfl) p23 a0_8
theorem a0_6 : All Tryz.prog (.code c0_6) cx0 l0_5.st K0 = true := seqs_cut noNum prims8_ok mixed (l := l0_6) 1 c0_6 l0_5.st (by kernel_rfl) p22 a0_7
theorem a0_5 : All Tryz.prog (.code c0_5) cx0 l0_4.st K0 = true := seqs_cut noNum prims5_ok mixed (l := l0_5) 2 c0_5 l0_4.st (by kernel_rfl) p15 a0_6
theorem a0_4 : All Tryz.prog (.code c0_4) cx0 l0_3.st K0 = true := seqs_cut noNum prims5_ok mixed (l := l0_4) 4 c0_4 l0_3.st (by kernel_rfl) p14 a0_5
theorem a0_3 : All Tryz.prog (.code c0_3) cx0 l0_2.st K0 = true := seqs_cut noNum prims5_ok mixed (l := l0_3) 1 c0_3 l0_2.st (by kernel_rfl) p13 a0_4
theorem a0_2 : All Tryz.prog (.code c0_2) cx0 l0_1.st K0 = true := seqs_cut noNum prims2_ok mixed (l := l0_2) 2 c0_2 l0_1.st (by kernel_rfl) p6 a0_3
theorem a0_1 : All Tryz.prog (.code c0_1) cx0 l0_0.st K0 = true := seqs_cut noNum prims2_ok mixed (l := l0_1) 1 c0_1 l0_0.st (by kernel_rfl) p5 a0_2
theorem a0_0 : All Tryz.prog (.code c0_0) cx0 ⟨.nil, [], hp0 GL, 1000⟩ K0 = true := seqs_cut noNum primsT_ok mixed (l := l0_0) 1 c0_0 ⟨.nil, [], hp0 GL, 1000⟩ (by kernel_rfl) p0 a0_1
theorem body0 : Tryz.f3.body = some c0_0 := by kernel_rfl
end Tk
open Ex Go.RowKit
theorem known_walk (W : World) (hl : Laid Tk.GL W) : Calls Tryz.prog 3 #[] W fun e W' => e = .returned (.bool true) ∧ Below W.heap.size W W' :=
  closed_allL Tryz.func3 Tk.body0 Tk.a0_0 hl fun r m' w' v hk _ hv hE => by
    rw [eqI_eq hk] at hv
    cases hv
    exact ⟨rfl, hE.below⟩
end Go.Proofs.YtojmkniahnkgbaaGreatDoor
