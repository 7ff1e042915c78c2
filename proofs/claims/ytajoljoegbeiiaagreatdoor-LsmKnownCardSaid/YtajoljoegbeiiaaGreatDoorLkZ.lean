/-
  acreage/acreagelaw14.LsmKnown: the pieces joined.
-/
import Derived.Test.YtajoljoegbeiiaaGreatDoorLk1
import Derived.Test.YtajoljoegbeiiaaGreatDoorLk2
import Derived.Test.YtajoljoegbeiiaaGreatDoorLk3
import Derived.Test.YtajoljoegbeiiaaGreatDoorLk4
import Derived.Test.YtajoljoegbeiiaaGreatDoorLk5
import Derived.Test.YtajoljoegbeiiaaGreatDoorLk6
import Derived.Test.YtajoljoegbeiiaaGreatDoorLk7
import Derived.Test.YtajoljoegbeiiaaGreatDoorLk8
import Derived.Test.YtajoljoegbeiiaaGreatDoorLk9
import Derived.Test.YtajoljoegbeiiaaGreatDoorLk10
import Derived.Test.YtajoljoegbeiiaaGreatDoorLk11
import Derived.Test.YtajoljoegbeiiaaGreatDoorLk12
namespace Go.Proofs.YtajoljoegbeiiaaGreatDoor
set_option linter.all false
set_option maxRecDepth 1000000
namespace Lk
open Ex Go.RowKit
theorem of0 : primOf primsLL = primsL := primsLL_of
theorem of1 : primOf pl1 = prims1 := by unfold pl1 prims1; rw [primOf_or, of0]
theorem of2 : primOf pl2 = prims2 := by unfold pl2 prims2; rw [primOf_or, of1]
theorem of3 : primOf pl3 = prims3 := by unfold pl3 prims3; rw [primOf_or, of2]
theorem of4 : primOf pl4 = prims4 := by unfold pl4 prims4; rw [primOf_or, of3]
theorem of5 : primOf pl5 = prims5 := by unfold pl5 prims5; rw [primOf_or, of4]
theorem of6 : primOf pl6 = prims6 := by unfold pl6 prims6; rw [primOf_or, of5]
theorem of7 : primOf pl7 = prims7 := by unfold pl7 prims7; rw [primOf_or, of6]
theorem of8 : primOf pl8 = prims8 := by unfold pl8 prims8; rw [primOf_or, of7]
theorem of9 : primOf pl9 = prims9 := by unfold pl9 prims9; rw [primOf_or, of8]
theorem of10 : primOf pl10 = prims10 := by unfold pl10 prims10; rw [primOf_or, of9]
theorem of11 : primOf pl11 = prims11 := by unfold pl11 prims11; rw [primOf_or, of10]
theorem of12 : primOf pl12 = prims12 := by unfold pl12 prims12; rw [primOf_or, of11]
theorem of13 : primOf pl13 = prims13 := by unfold pl13 prims13; rw [primOf_or, of12]
theorem of14 : primOf pl14 = prims14 := by unfold pl14 prims14; rw [primOf_or, of13]
theorem of15 : primOf pl15 = prims15 := by unfold pl15 prims15; rw [primOf_or, of14]
theorem of16 : primOf pl16 = prims16 := by unfold pl16 prims16; rw [primOf_or, of15]
theorem of17 : primOf pl17 = prims17 := by unfold pl17 prims17; rw [primOf_or, of16]
theorem of18 : primOf pl18 = prims18 := by unfold pl18 prims18; rw [primOf_or, of17]
theorem of19 : primOf pl19 = prims19 := by unfold pl19 prims19; rw [primOf_or, of18]
theorem of20 : primOf pl20 = prims20 := by unfold pl20 prims20; rw [primOf_or, of19]
theorem of21 : primOf pl21 = prims21 := by unfold pl21 prims21; rw [primOf_or, of20]
theorem of22 : primOf pl22 = prims22 := by unfold pl22 prims22; rw [primOf_or, of21]
theorem of23 : primOf pl23 = prims23 := by unfold pl23 prims23; rw [primOf_or, of22]
theorem of24 : primOf pl24 = prims24 := by unfold pl24 prims24; rw [primOf_or, of23]
theorem of25 : primOf pl25 = prims25 := by unfold pl25 prims25; rw [primOf_or, of24]
theorem of26 : primOf pl26 = prims26 := by unfold pl26 prims26; rw [primOf_or, of25]
theorem of27 : primOf pl27 = prims27 := by unfold pl27 prims27; rw [primOf_or, of26]
theorem of28 : primOf pl28 = prims28 := by unfold pl28 prims28; rw [primOf_or, of27]
theorem of29 : primOf pl29 = prims29 := by unfold pl29 prims29; rw [primOf_or, of28]
theorem of30 : primOf pl30 = prims30 := by unfold pl30 prims30; rw [primOf_or, of29]
theorem of31 : primOf pl31 = prims31 := by unfold pl31 prims31; rw [primOf_or, of30]
theorem fr0 : run Tryz.prog primsL 100000000 = F0 := by unfold F0; rw [of0, runF_eq]
theorem fr1 : run Tryz.prog prims1 100000000 = F1 := by unfold F1; rw [of1, runF_eq]
theorem fr2 : run Tryz.prog prims2 100000000 = F2 := by unfold F2; rw [of2, runF_eq]
theorem fr3 : run Tryz.prog prims3 100000000 = F3 := by unfold F3; rw [of3, runF_eq]
theorem fr4 : run Tryz.prog prims4 100000000 = F4 := by unfold F4; rw [of4, runF_eq]
theorem fr5 : run Tryz.prog prims5 100000000 = F5 := by unfold F5; rw [of5, runF_eq]
theorem fr6 : run Tryz.prog prims6 100000000 = F6 := by unfold F6; rw [of6, runF_eq]
theorem fr7 : run Tryz.prog prims7 100000000 = F7 := by unfold F7; rw [of7, runF_eq]
theorem fr8 : run Tryz.prog prims8 100000000 = F8 := by unfold F8; rw [of8, runF_eq]
theorem fr9 : run Tryz.prog prims9 100000000 = F9 := by unfold F9; rw [of9, runF_eq]
theorem fr10 : run Tryz.prog prims10 100000000 = F10 := by unfold F10; rw [of10, runF_eq]
theorem fr11 : run Tryz.prog prims11 100000000 = F11 := by unfold F11; rw [of11, runF_eq]
theorem fr12 : run Tryz.prog prims12 100000000 = F12 := by unfold F12; rw [of12, runF_eq]
theorem fr13 : run Tryz.prog prims13 100000000 = F13 := by unfold F13; rw [of13, runF_eq]
theorem fr14 : run Tryz.prog prims14 100000000 = F14 := by unfold F14; rw [of14, runF_eq]
theorem fr15 : run Tryz.prog prims15 100000000 = F15 := by unfold F15; rw [of15, runF_eq]
theorem fr16 : run Tryz.prog prims16 100000000 = F16 := by unfold F16; rw [of16, runF_eq]
theorem fr17 : run Tryz.prog prims17 100000000 = F17 := by unfold F17; rw [of17, runF_eq]
theorem fr18 : run Tryz.prog prims18 100000000 = F18 := by unfold F18; rw [of18, runF_eq]
theorem fr19 : run Tryz.prog prims19 100000000 = F19 := by unfold F19; rw [of19, runF_eq]
theorem fr20 : run Tryz.prog prims20 100000000 = F20 := by unfold F20; rw [of20, runF_eq]
theorem fr21 : run Tryz.prog prims21 100000000 = F21 := by unfold F21; rw [of21, runF_eq]
theorem fr22 : run Tryz.prog prims22 100000000 = F22 := by unfold F22; rw [of22, runF_eq]
theorem fr23 : run Tryz.prog prims23 100000000 = F23 := by unfold F23; rw [of23, runF_eq]
theorem fr24 : run Tryz.prog prims24 100000000 = F24 := by unfold F24; rw [of24, runF_eq]
theorem fr25 : run Tryz.prog prims25 100000000 = F25 := by unfold F25; rw [of25, runF_eq]
theorem fr26 : run Tryz.prog prims26 100000000 = F26 := by unfold F26; rw [of26, runF_eq]
theorem fr27 : run Tryz.prog prims27 100000000 = F27 := by unfold F27; rw [of27, runF_eq]
theorem fr28 : run Tryz.prog prims28 100000000 = F28 := by unfold F28; rw [of28, runF_eq]
theorem fr29 : run Tryz.prog prims29 100000000 = F29 := by unfold F29; rw [of29, runF_eq]
theorem fr30 : run Tryz.prog prims30 100000000 = F30 := by unfold F30; rw [of30, runF_eq]
theorem fr31 : run Tryz.prog prims31 100000000 = F31 := by unfold F31; rw [of31, runF_eq]
theorem p0 : seqsK (run Tryz.prog primsL 100000000) cx0 3 c0_0 ⟨.nil, [], hp0 GL, 1000⟩ (litB l0_0 cx0.sz) = true := by rw [fr0]; exact q0
theorem p1 : seqsK (run Tryz.prog primsL 100000000) cx0 1 c0_2 l0_0.st (litB l0_1 cx0.sz) = true := by rw [fr0]; exact q1
theorem p2 : roundsK (run Tryz.prog primsL 100000000) (inner c0_4) cx0 2 l0_1.st (litB l0_2 cx0.sz) = true := by rw [fr0]; exact q2
theorem p3 : roundsK (run Tryz.prog primsL 100000000) (inner c0_4) cx0 2 l0_2.st (litB l0_3 cx0.sz) = true := by rw [fr0]; exact q3
theorem p4 : run Tryz.prog primsL 100000000 (.code c0_4) cx0 l0_3.st (exK 0 l0_4 cx0.sz) = true := by rw [fr0]; exact q4
theorem p5 : seqsK (run Tryz.prog primsL 100000000) cx0 2 c0_5 l0_4.st (litB l0_5 cx0.sz) = true := by rw [fr0]; exact q5
theorem p6 : seqsK (run Tryz.prog primsL 100000000) cx0 3 c0_6 l0_5.st (litB l0_6 cx0.sz) = true := by rw [fr0]; exact q6
theorem p7 : seqsK (run Tryz.prog primsL 100000000) cx0 1 c0_7 l0_6.st (litB l0_7 cx0.sz) = true := by rw [fr0]; exact q7
theorem p8 : seqsK (run Tryz.prog primsL 100000000) cx0 3 c0_8 l0_7.st (litB l0_8 cx0.sz) = true := by rw [fr0]; exact q8
theorem p9 : seqsK (run Tryz.prog primsL 100000000) cx0 1 c0_9 l0_8.st (litB l0_9 cx0.sz) = true := by rw [fr0]; exact q9
theorem p10 : seqsK (run Tryz.prog primsL 100000000) cx0 5 c0_10 l0_9.st (litB l0_10 cx0.sz) = true := by rw [fr0]; exact q10
theorem p11 : seqsK (run Tryz.prog primsL 100000000) cx1 3 c1_0 l1_0.st (litB l1_1 cx1.sz) = true := by rw [fr0]; exact q11
theorem p12 : seqsK (run Tryz.prog primsL 100000000) cx1 1 c1_2 l1_1.st (litB l1_2 cx1.sz) = true := by rw [fr0]; exact q12
theorem p13 : seqsK (run Tryz.prog primsL 100000000) cx1 1 c1_5 l1_2.st (litB l1_3 cx1.sz) = true := by rw [fr0]; exact q13
theorem p14 : seqsK (run Tryz.prog primsL 100000000) cx1 1 c1_9 l1_3.st (litB l1_4 cx1.sz) = true := by rw [fr0]; exact q14
theorem p15 : roundsK (run Tryz.prog primsL 100000000) (inner c1_11) cx1 2 l1_4.st (litB l1_5 cx1.sz) = true := by rw [fr0]; exact q15
theorem p16 : roundsK (run Tryz.prog primsL 100000000) (inner c1_11) cx1 2 l1_5.st (litB l1_6 cx1.sz) = true := by rw [fr0]; exact q16
theorem p17 : roundsK (run Tryz.prog primsL 100000000) (inner c1_11) cx1 2 l1_6.st (litB l1_7 cx1.sz) = true := by rw [fr0]; exact q17
theorem p18 : roundsK (run Tryz.prog primsL 100000000) (inner c1_11) cx1 2 l1_7.st (litB l1_8 cx1.sz) = true := by rw [fr0]; exact q18
theorem p19 : roundsK (run Tryz.prog primsL 100000000) (inner c1_11) cx1 2 l1_8.st (litB l1_9 cx1.sz) = true := by rw [fr0]; exact q19
theorem p20 : roundsK (run Tryz.prog primsL 100000000) (inner c1_11) cx1 2 l1_9.st (litB l1_10 cx1.sz) = true := by rw [fr0]; exact q20
theorem p21 : roundsK (run Tryz.prog primsL 100000000) (inner c1_11) cx1 2 l1_10.st (litB l1_11 cx1.sz) = true := by rw [fr0]; exact q21
theorem p22 : roundsK (run Tryz.prog primsL 100000000) (inner c1_11) cx1 2 l1_11.st (litB l1_12 cx1.sz) = true := by rw [fr0]; exact q22
theorem p23 : roundsK (run Tryz.prog primsL 100000000) (inner c1_11) cx1 2 l1_12.st (litB l1_13 cx1.sz) = true := by rw [fr0]; exact q23
theorem p24 : roundsK (run Tryz.prog primsL 100000000) (inner c1_11) cx1 2 l1_13.st (litB l1_14 cx1.sz) = true := by rw [fr0]; exact q24
theorem p25 : roundsK (run Tryz.prog primsL 100000000) (inner c1_11) cx1 2 l1_14.st (litB l1_15 cx1.sz) = true := by rw [fr0]; exact q25
theorem p26 : roundsK (run Tryz.prog primsL 100000000) (inner c1_11) cx1 2 l1_15.st (litB l1_16 cx1.sz) = true := by rw [fr0]; exact q26
theorem p27 : roundsK (run Tryz.prog primsL 100000000) (inner c1_11) cx1 2 l1_16.st (litB l1_17 cx1.sz) = true := by rw [fr0]; exact q27
theorem p28 : roundsK (run Tryz.prog primsL 100000000) (inner c1_11) cx1 2 l1_17.st (litB l1_18 cx1.sz) = true := by rw [fr0]; exact q28
theorem p29 : roundsK (run Tryz.prog primsL 100000000) (inner c1_11) cx1 2 l1_18.st (litB l1_19 cx1.sz) = true := by rw [fr0]; exact q29
theorem p30 : roundsK (run Tryz.prog primsL 100000000) (inner c1_11) cx1 2 l1_19.st (litB l1_20 cx1.sz) = true := by rw [fr0]; exact q30
theorem p31 : roundsK (run Tryz.prog primsL 100000000) (inner c1_11) cx1 2 l1_20.st (litB l1_21 cx1.sz) = true := by rw [fr0]; exact q31
theorem p32 : roundsK (run Tryz.prog primsL 100000000) (inner c1_11) cx1 2 l1_21.st (litB l1_22 cx1.sz) = true := by rw [fr0]; exact q32
theorem p33 : roundsK (run Tryz.prog primsL 100000000) (inner c1_11) cx1 2 l1_22.st (litB l1_23 cx1.sz) = true := by rw [fr0]; exact q33
theorem p34 : roundsK (run Tryz.prog primsL 100000000) (inner c1_11) cx1 2 l1_23.st (litB l1_24 cx1.sz) = true := by rw [fr0]; exact q34
theorem p35 : run Tryz.prog primsL 100000000 (.code c1_11) cx1 l1_24.st (exK 2 l1_25 cx1.sz) = true := by rw [fr0]; exact q35
theorem p36 : run Tryz.prog primsL 100000000 (.code c1_12) cx1 l1_25.st (cutK l1_26 cx1.sz) = true := by rw [fr0]; exact q36
theorem p37 : run Tryz.prog primsL 100000000 (.code c1_13) cx1 l1_26.st (cutK l1_27 cx1.sz) = true := by rw [fr0]; exact q37
theorem p38 : seqsK (run Tryz.prog primsL 100000000) cx1 1 c1_15 l1_27.st (litB l1_28 cx1.sz) = true := by rw [fr0]; exact q38
theorem p39 : seqsK (run Tryz.prog primsL 100000000) cx1 1 c1_19 l1_28.st (litB l1_29 cx1.sz) = true := by rw [fr0]; exact q39
theorem p40 : roundsK (run Tryz.prog primsL 100000000) (inner c1_21) cx1 2 l1_29.st (litB l1_30 cx1.sz) = true := by rw [fr0]; exact q40
theorem p41 : roundsK (run Tryz.prog primsL 100000000) (inner c1_21) cx1 2 l1_30.st (litB l1_31 cx1.sz) = true := by rw [fr0]; exact q41
theorem p42 : roundsK (run Tryz.prog primsL 100000000) (inner c1_21) cx1 2 l1_31.st (litB l1_32 cx1.sz) = true := by rw [fr0]; exact q42
theorem p43 : roundsK (run Tryz.prog primsL 100000000) (inner c1_21) cx1 2 l1_32.st (litB l1_33 cx1.sz) = true := by rw [fr0]; exact q43
theorem p44 : roundsK (run Tryz.prog primsL 100000000) (inner c1_21) cx1 2 l1_33.st (litB l1_34 cx1.sz) = true := by rw [fr0]; exact q44
theorem p45 : roundsK (run Tryz.prog primsL 100000000) (inner c1_21) cx1 2 l1_34.st (litB l1_35 cx1.sz) = true := by rw [fr0]; exact q45
theorem p46 : roundsK (run Tryz.prog primsL 100000000) (inner c1_21) cx1 2 l1_35.st (litB l1_36 cx1.sz) = true := by rw [fr0]; exact q46
theorem p47 : roundsK (run Tryz.prog primsL 100000000) (inner c1_21) cx1 2 l1_36.st (litB l1_37 cx1.sz) = true := by rw [fr0]; exact q47
theorem p48 : roundsK (run Tryz.prog primsL 100000000) (inner c1_21) cx1 2 l1_37.st (litB l1_38 cx1.sz) = true := by rw [fr0]; exact q48
theorem p49 : roundsK (run Tryz.prog primsL 100000000) (inner c1_21) cx1 2 l1_38.st (litB l1_39 cx1.sz) = true := by rw [fr0]; exact q49
theorem p50 : roundsK (run Tryz.prog primsL 100000000) (inner c1_21) cx1 2 l1_39.st (litB l1_40 cx1.sz) = true := by rw [fr0]; exact q50
theorem p51 : roundsK (run Tryz.prog primsL 100000000) (inner c1_21) cx1 2 l1_40.st (litB l1_41 cx1.sz) = true := by rw [fr0]; exact q51
theorem p52 : roundsK (run Tryz.prog primsL 100000000) (inner c1_21) cx1 2 l1_41.st (litB l1_42 cx1.sz) = true := by rw [fr0]; exact q52
theorem p53 : roundsK (run Tryz.prog primsL 100000000) (inner c1_21) cx1 2 l1_42.st (litB l1_43 cx1.sz) = true := by rw [fr0]; exact q53
theorem p54 : roundsK (run Tryz.prog primsL 100000000) (inner c1_21) cx1 2 l1_43.st (litB l1_44 cx1.sz) = true := by rw [fr0]; exact q54
theorem p55 : roundsK (run Tryz.prog primsL 100000000) (inner c1_21) cx1 2 l1_44.st (litB l1_45 cx1.sz) = true := by rw [fr0]; exact q55
theorem p56 : roundsK (run Tryz.prog primsL 100000000) (inner c1_21) cx1 2 l1_45.st (litB l1_46 cx1.sz) = true := by rw [fr0]; exact q56
theorem p57 : roundsK (run Tryz.prog primsL 100000000) (inner c1_21) cx1 2 l1_46.st (litB l1_47 cx1.sz) = true := by rw [fr0]; exact q57
theorem p58 : roundsK (run Tryz.prog primsL 100000000) (inner c1_21) cx1 2 l1_47.st (litB l1_48 cx1.sz) = true := by rw [fr0]; exact q58
theorem p59 : roundsK (run Tryz.prog primsL 100000000) (inner c1_21) cx1 2 l1_48.st (litB l1_49 cx1.sz) = true := by rw [fr0]; exact q59
theorem p60 : run Tryz.prog primsL 100000000 (.code c1_21) cx1 l1_49.st (exK 2 l1_50 cx1.sz) = true := by rw [fr0]; exact q60
theorem p61 : run Tryz.prog primsL 100000000 (.code c1_22) cx1 l1_50.st (cutK l1_51 cx1.sz) = true := by rw [fr0]; exact q61
theorem p62 : run Tryz.prog primsL 100000000 (.code c1_23) cx1 l1_51.st (cutK l1_52 cx1.sz) = true := by rw [fr0]; exact q62
theorem p63 : run Tryz.prog primsL 100000000 (.code c1_24) cx1 l1_52.st (exK 0 l1_53 cx1.sz) = true := by rw [fr0]; exact q63
theorem p64 : seqsK (run Tryz.prog primsL 100000000) cx1 1 c1_25 l1_53.st (litB l1_54 cx1.sz) = true := by rw [fr0]; exact q64
theorem p65 : run Tryz.prog primsL 100000000 (.code c1_26) cx1 l1_54.st K1 = true := by rw [fr0]; exact q65
theorem p66 : seqsK (run Tryz.prog prims1 100000000) cx2 3 c2_0 l2_0.st (litB l2_1 cx2.sz) = true := by rw [fr1]; exact q66
theorem p67 : seqsK (run Tryz.prog prims1 100000000) cx2 1 c2_2 l2_1.st (litB l2_2 cx2.sz) = true := by rw [fr1]; exact q67
theorem p68 : seqsK (run Tryz.prog prims1 100000000) cx2 1 c2_5 l2_2.st (litB l2_3 cx2.sz) = true := by rw [fr1]; exact q68
theorem p69 : seqsK (run Tryz.prog prims1 100000000) cx2 2 c2_8 l2_3.st (litB l2_4 cx2.sz) = true := by rw [fr1]; exact q69
theorem p70 : seqsK (run Tryz.prog prims1 100000000) cx3 7 c3_0 l3_0.st (litB l3_1 cx3.sz) = true := by rw [fr1]; exact q70
theorem p71 : seqsK (run Tryz.prog prims1 100000000) cx4 4 c4_0 l4_0.st (litB l4_1 cx4.sz) = true := by rw [fr1]; exact q71
theorem p72 : seqsK (run Tryz.prog prims1 100000000) cx5 2 c5_0 l5_0.st (litB l5_1 cx5.sz) = true := by rw [fr1]; exact q72
theorem p73 : seqsK (run Tryz.prog prims1 100000000) cx5 4 c5_1 l5_1.st (litB l5_2 cx5.sz) = true := by rw [fr1]; exact q73
theorem p74 : run Tryz.prog prims1 100000000 (.code c5_2) cx5 l5_2.st K5 = true := by rw [fr1]; exact q74
theorem p75 : seqsK (run Tryz.prog prims2 100000000) cx4 1 c4_1 l4_1.st (litB l4_2 cx4.sz) = true := by rw [fr2]; exact q75
theorem p76 : seqsK (run Tryz.prog prims2 100000000) cx4 5 c4_2 l4_2.st (litB l4_3 cx4.sz) = true := by rw [fr2]; exact q76
theorem p77 : run Tryz.prog prims2 100000000 (.code c4_3) cx4 l4_3.st K4 = true := by rw [fr2]; exact q77
theorem p78 : seqsK (run Tryz.prog prims3 100000000) cx3 1 c3_1 l3_1.st (litB l3_2 cx3.sz) = true := by rw [fr3]; exact q78
theorem p79 : seqsK (run Tryz.prog prims3 100000000) cx3 1 c3_2 l3_2.st (litB l3_3 cx3.sz) = true := by rw [fr3]; exact q79
theorem p80 : run Tryz.prog prims3 100000000 (.code c3_3) cx3 l3_3.st K3 = true := by rw [fr3]; exact q80
theorem p81 : run Tryz.prog prims4 100000000 (.code c2_9) cx2 l2_4.st (cutK l2_5 cx2.sz) = true := by rw [fr4]; exact q81
theorem p82 : run Tryz.prog prims4 100000000 (.code c2_10) cx2 l2_5.st (cutK l2_6 cx2.sz) = true := by rw [fr4]; exact q82
theorem p83 : seqsK (run Tryz.prog prims4 100000000) cx2 1 c2_12 l2_6.st (litB l2_7 cx2.sz) = true := by rw [fr4]; exact q83
theorem p84 : seqsK (run Tryz.prog prims4 100000000) cx2 2 c2_15 l2_7.st (litB l2_8 cx2.sz) = true := by rw [fr4]; exact q84
theorem p85 : seqsK (run Tryz.prog prims4 100000000) cx6 7 c6_0 l6_0.st (litB l6_1 cx6.sz) = true := by rw [fr4]; exact q85
theorem p86 : seqsK (run Tryz.prog prims4 100000000) cx7 4 c7_0 l7_0.st (litB l7_1 cx7.sz) = true := by rw [fr4]; exact q86
theorem p87 : seqsK (run Tryz.prog prims4 100000000) cx8 2 c8_0 l8_0.st (litB l8_1 cx8.sz) = true := by rw [fr4]; exact q87
theorem p88 : seqsK (run Tryz.prog prims4 100000000) cx8 4 c8_1 l8_1.st (litB l8_2 cx8.sz) = true := by rw [fr4]; exact q88
theorem p89 : run Tryz.prog prims4 100000000 (.code c8_2) cx8 l8_2.st K8 = true := by rw [fr4]; exact q89
theorem p90 : seqsK (run Tryz.prog prims5 100000000) cx7 1 c7_1 l7_1.st (litB l7_2 cx7.sz) = true := by rw [fr5]; exact q90
theorem p91 : seqsK (run Tryz.prog prims5 100000000) cx7 5 c7_2 l7_2.st (litB l7_3 cx7.sz) = true := by rw [fr5]; exact q91
theorem p92 : run Tryz.prog prims5 100000000 (.code c7_3) cx7 l7_3.st K7 = true := by rw [fr5]; exact q92
theorem p93 : seqsK (run Tryz.prog prims6 100000000) cx6 1 c6_1 l6_1.st (litB l6_2 cx6.sz) = true := by rw [fr6]; exact q93
theorem p94 : seqsK (run Tryz.prog prims6 100000000) cx6 1 c6_2 l6_2.st (litB l6_3 cx6.sz) = true := by rw [fr6]; exact q94
theorem p95 : run Tryz.prog prims6 100000000 (.code c6_3) cx6 l6_3.st K6 = true := by rw [fr6]; exact q95
theorem p96 : run Tryz.prog prims7 100000000 (.code c2_16) cx2 l2_8.st (cutK l2_9 cx2.sz) = true := by rw [fr7]; exact q96
theorem p97 : run Tryz.prog prims7 100000000 (.code c2_17) cx2 l2_9.st (cutK l2_10 cx2.sz) = true := by rw [fr7]; exact q97
theorem p98 : seqsK (run Tryz.prog prims7 100000000) cx2 1 c2_19 l2_10.st (litB l2_11 cx2.sz) = true := by rw [fr7]; exact q98
theorem p99 : seqsK (run Tryz.prog prims7 100000000) cx2 2 c2_22 l2_11.st (litB l2_12 cx2.sz) = true := by rw [fr7]; exact q99
theorem p100 : seqsK (run Tryz.prog prims7 100000000) cx9 7 c9_0 l9_0.st (litB l9_1 cx9.sz) = true := by rw [fr7]; exact q100
theorem p101 : seqsK (run Tryz.prog prims7 100000000) cx10 4 c10_0 l10_0.st (litB l10_1 cx10.sz) = true := by rw [fr7]; exact q101
theorem p102 : seqsK (run Tryz.prog prims7 100000000) cx11 2 c11_0 l11_0.st (litB l11_1 cx11.sz) = true := by rw [fr7]; exact q102
theorem p103 : seqsK (run Tryz.prog prims7 100000000) cx11 4 c11_1 l11_1.st (litB l11_2 cx11.sz) = true := by rw [fr7]; exact q103
theorem p104 : run Tryz.prog prims7 100000000 (.code c11_2) cx11 l11_2.st K11 = true := by rw [fr7]; exact q104
theorem p105 : seqsK (run Tryz.prog prims8 100000000) cx10 1 c10_1 l10_1.st (litB l10_2 cx10.sz) = true := by rw [fr8]; exact q105
theorem p106 : seqsK (run Tryz.prog prims8 100000000) cx10 5 c10_2 l10_2.st (litB l10_3 cx10.sz) = true := by rw [fr8]; exact q106
theorem p107 : run Tryz.prog prims8 100000000 (.code c10_3) cx10 l10_3.st K10 = true := by rw [fr8]; exact q107
theorem p108 : seqsK (run Tryz.prog prims9 100000000) cx9 1 c9_1 l9_1.st (litB l9_2 cx9.sz) = true := by rw [fr9]; exact q108
theorem p109 : seqsK (run Tryz.prog prims9 100000000) cx9 1 c9_2 l9_2.st (litB l9_3 cx9.sz) = true := by rw [fr9]; exact q109
theorem p110 : run Tryz.prog prims9 100000000 (.code c9_3) cx9 l9_3.st K9 = true := by rw [fr9]; exact q110
theorem p111 : run Tryz.prog prims10 100000000 (.code c2_23) cx2 l2_12.st (cutK l2_13 cx2.sz) = true := by rw [fr10]; exact q111
theorem p112 : run Tryz.prog prims10 100000000 (.code c2_24) cx2 l2_13.st (cutK l2_14 cx2.sz) = true := by rw [fr10]; exact q112
theorem p113 : seqsK (run Tryz.prog prims10 100000000) cx2 1 c2_26 l2_14.st (litB l2_15 cx2.sz) = true := by rw [fr10]; exact q113
theorem p114 : seqsK (run Tryz.prog prims10 100000000) cx2 2 c2_29 l2_15.st (litB l2_16 cx2.sz) = true := by rw [fr10]; exact q114
theorem p115 : seqsK (run Tryz.prog prims10 100000000) cx12 7 c12_0 l12_0.st (litB l12_1 cx12.sz) = true := by rw [fr10]; exact q115
theorem p116 : seqsK (run Tryz.prog prims10 100000000) cx13 4 c13_0 l13_0.st (litB l13_1 cx13.sz) = true := by rw [fr10]; exact q116
theorem p117 : seqsK (run Tryz.prog prims10 100000000) cx14 2 c14_0 l14_0.st (litB l14_1 cx14.sz) = true := by rw [fr10]; exact q117
theorem p118 : seqsK (run Tryz.prog prims10 100000000) cx14 4 c14_1 l14_1.st (litB l14_2 cx14.sz) = true := by rw [fr10]; exact q118
theorem p119 : run Tryz.prog prims10 100000000 (.code c14_2) cx14 l14_2.st K14 = true := by rw [fr10]; exact q119
theorem p120 : seqsK (run Tryz.prog prims11 100000000) cx13 1 c13_1 l13_1.st (litB l13_2 cx13.sz) = true := by rw [fr11]; exact q120
theorem p121 : seqsK (run Tryz.prog prims11 100000000) cx13 5 c13_2 l13_2.st (litB l13_3 cx13.sz) = true := by rw [fr11]; exact q121
theorem p122 : run Tryz.prog prims11 100000000 (.code c13_3) cx13 l13_3.st K13 = true := by rw [fr11]; exact q122
theorem p123 : seqsK (run Tryz.prog prims12 100000000) cx12 1 c12_1 l12_1.st (litB l12_2 cx12.sz) = true := by rw [fr12]; exact q123
theorem p124 : seqsK (run Tryz.prog prims12 100000000) cx15 13 c15_0 l15_0.st (litB l15_1 cx15.sz) = true := by rw [fr12]; exact q124
theorem p125 : seqsK (run Tryz.prog prims12 100000000) cx15 1 c15_1 l15_1.st (litB l15_2 cx15.sz) = true := by rw [fr12]; exact q125
theorem p126 : seqsK (run Tryz.prog prims12 100000000) cx16 2 c16_0 l16_0.st (litB l16_1 cx16.sz) = true := by rw [fr12]; exact q126
theorem p127 : roundsK (run Tryz.prog prims12 100000000) (inner c16_3) cx16 6 l16_1.st (litB l16_2 cx16.sz) = true := by rw [fr12]; exact q127
theorem p128 : roundsK (run Tryz.prog prims12 100000000) (inner c16_3) cx16 6 l16_2.st (litB l16_3 cx16.sz) = true := by rw [fr12]; exact q128
theorem p129 : run Tryz.prog prims12 100000000 (.code c16_3) cx16 l16_3.st (exK 0 l16_4 cx16.sz) = true := by rw [fr12]; exact q129
theorem p130 : seqsK (run Tryz.prog prims12 100000000) cx16 1 c16_4 l16_4.st (litB l16_5 cx16.sz) = true := by rw [fr12]; exact q130
theorem p131 : run Tryz.prog prims12 100000000 (.code c16_5) cx16 l16_5.st K16 = true := by rw [fr12]; exact q131
theorem p132 : seqsK (run Tryz.prog prims13 100000000) cx15 1 c15_2 l15_2.st (litB l15_3 cx15.sz) = true := by rw [fr13]; exact q132
theorem p133 : seqsK (run Tryz.prog prims13 100000000) cx15 1 c15_3 l15_3.st (litB l15_4 cx15.sz) = true := by rw [fr13]; exact q133
theorem p134 : seqsK (run Tryz.prog prims13 100000000) cx15 1 c15_4 l15_4.st (litB l15_5 cx15.sz) = true := by rw [fr13]; exact q134
theorem p135 : roundsK (run Tryz.prog prims13 100000000) (inner c15_7) cx15 1 l15_5.st (litB l15_6 cx15.sz) = true := by rw [fr13]; exact q135
theorem p136 : roundsK (run Tryz.prog prims13 100000000) (inner c15_7) cx15 1 l15_6.st (litB l15_7 cx15.sz) = true := by rw [fr13]; exact q136
theorem p137 : run Tryz.prog prims13 100000000 (.code c15_7) cx15 l15_7.st (exK 8 l15_8 cx15.sz) = true := by rw [fr13]; exact q137
theorem p138 : seqsK (run Tryz.prog prims13 100000000) cx15 7 c15_8 l15_8.st (litB l15_9 cx15.sz) = true := by rw [fr13]; exact q138
theorem p139 : run Tryz.prog prims13 100000000 (.code c15_9) cx15 l15_9.st K15 = true := by rw [fr13]; exact q139
theorem p140 : seqsK (run Tryz.prog prims14 100000000) cx12 1 c12_2 l12_2.st (litB l12_3 cx12.sz) = true := by rw [fr14]; exact q140
theorem p141 : run Tryz.prog prims14 100000000 (.code c12_3) cx12 l12_3.st K12 = true := by rw [fr14]; exact q141
theorem p142 : run Tryz.prog prims15 100000000 (.code c2_30) cx2 l2_16.st (cutK l2_17 cx2.sz) = true := by rw [fr15]; exact q142
theorem p143 : run Tryz.prog prims15 100000000 (.code c2_31) cx2 l2_17.st (cutK l2_18 cx2.sz) = true := by rw [fr15]; exact q143
theorem p144 : seqsK (run Tryz.prog prims15 100000000) cx2 1 c2_33 l2_18.st (litB l2_19 cx2.sz) = true := by rw [fr15]; exact q144
theorem p145 : seqsK (run Tryz.prog prims15 100000000) cx2 2 c2_36 l2_19.st (litB l2_20 cx2.sz) = true := by rw [fr15]; exact q145
theorem p146 : seqsK (run Tryz.prog prims15 100000000) cx17 7 c17_0 l17_0.st (litB l17_1 cx17.sz) = true := by rw [fr15]; exact q146
theorem p147 : seqsK (run Tryz.prog prims15 100000000) cx18 4 c18_0 l18_0.st (litB l18_1 cx18.sz) = true := by rw [fr15]; exact q147
theorem p148 : seqsK (run Tryz.prog prims15 100000000) cx19 2 c19_0 l19_0.st (litB l19_1 cx19.sz) = true := by rw [fr15]; exact q148
theorem p149 : seqsK (run Tryz.prog prims15 100000000) cx19 4 c19_1 l19_1.st (litB l19_2 cx19.sz) = true := by rw [fr15]; exact q149
theorem p150 : run Tryz.prog prims15 100000000 (.code c19_2) cx19 l19_2.st K19 = true := by rw [fr15]; exact q150
theorem p151 : seqsK (run Tryz.prog prims16 100000000) cx18 1 c18_1 l18_1.st (litB l18_2 cx18.sz) = true := by rw [fr16]; exact q151
theorem p152 : seqsK (run Tryz.prog prims16 100000000) cx18 5 c18_2 l18_2.st (litB l18_3 cx18.sz) = true := by rw [fr16]; exact q152
theorem p153 : run Tryz.prog prims16 100000000 (.code c18_3) cx18 l18_3.st K18 = true := by rw [fr16]; exact q153
theorem p154 : seqsK (run Tryz.prog prims17 100000000) cx17 1 c17_1 l17_1.st (litB l17_2 cx17.sz) = true := by rw [fr17]; exact q154
theorem p155 : seqsK (run Tryz.prog prims17 100000000) cx17 1 c17_2 l17_2.st (litB l17_3 cx17.sz) = true := by rw [fr17]; exact q155
theorem p156 : run Tryz.prog prims17 100000000 (.code c17_3) cx17 l17_3.st K17 = true := by rw [fr17]; exact q156
theorem p157 : run Tryz.prog prims18 100000000 (.code c2_37) cx2 l2_20.st (cutK l2_21 cx2.sz) = true := by rw [fr18]; exact q157
theorem p158 : run Tryz.prog prims18 100000000 (.code c2_38) cx2 l2_21.st (cutK l2_22 cx2.sz) = true := by rw [fr18]; exact q158
theorem p159 : seqsK (run Tryz.prog prims18 100000000) cx2 1 c2_40 l2_22.st (litB l2_23 cx2.sz) = true := by rw [fr18]; exact q159
theorem p160 : seqsK (run Tryz.prog prims18 100000000) cx2 2 c2_43 l2_23.st (litB l2_24 cx2.sz) = true := by rw [fr18]; exact q160
theorem p161 : seqsK (run Tryz.prog prims18 100000000) cx20 7 c20_0 l20_0.st (litB l20_1 cx20.sz) = true := by rw [fr18]; exact q161
theorem p162 : seqsK (run Tryz.prog prims18 100000000) cx21 4 c21_0 l21_0.st (litB l21_1 cx21.sz) = true := by rw [fr18]; exact q162
theorem p163 : seqsK (run Tryz.prog prims18 100000000) cx22 2 c22_0 l22_0.st (litB l22_1 cx22.sz) = true := by rw [fr18]; exact q163
theorem p164 : seqsK (run Tryz.prog prims18 100000000) cx22 4 c22_1 l22_1.st (litB l22_2 cx22.sz) = true := by rw [fr18]; exact q164
theorem p165 : run Tryz.prog prims18 100000000 (.code c22_2) cx22 l22_2.st K22 = true := by rw [fr18]; exact q165
theorem p166 : seqsK (run Tryz.prog prims19 100000000) cx21 1 c21_1 l21_1.st (litB l21_2 cx21.sz) = true := by rw [fr19]; exact q166
theorem p167 : seqsK (run Tryz.prog prims19 100000000) cx21 5 c21_2 l21_2.st (litB l21_3 cx21.sz) = true := by rw [fr19]; exact q167
theorem p168 : run Tryz.prog prims19 100000000 (.code c21_3) cx21 l21_3.st K21 = true := by rw [fr19]; exact q168
theorem p169 : seqsK (run Tryz.prog prims20 100000000) cx20 1 c20_1 l20_1.st (litB l20_2 cx20.sz) = true := by rw [fr20]; exact q169
theorem p170 : seqsK (run Tryz.prog prims20 100000000) cx20 1 c20_2 l20_2.st (litB l20_3 cx20.sz) = true := by rw [fr20]; exact q170
theorem p171 : run Tryz.prog prims20 100000000 (.code c20_3) cx20 l20_3.st K20 = true := by rw [fr20]; exact q171
theorem p172 : run Tryz.prog prims21 100000000 (.code c2_44) cx2 l2_24.st (cutK l2_25 cx2.sz) = true := by rw [fr21]; exact q172
theorem p173 : run Tryz.prog prims21 100000000 (.code c2_45) cx2 l2_25.st (cutK l2_26 cx2.sz) = true := by rw [fr21]; exact q173
theorem p174 : seqsK (run Tryz.prog prims21 100000000) cx2 1 c2_47 l2_26.st (litB l2_27 cx2.sz) = true := by rw [fr21]; exact q174
theorem p175 : seqsK (run Tryz.prog prims21 100000000) cx2 2 c2_50 l2_27.st (litB l2_28 cx2.sz) = true := by rw [fr21]; exact q175
theorem p176 : seqsK (run Tryz.prog prims21 100000000) cx23 7 c23_0 l23_0.st (litB l23_1 cx23.sz) = true := by rw [fr21]; exact q176
theorem p177 : seqsK (run Tryz.prog prims21 100000000) cx24 4 c24_0 l24_0.st (litB l24_1 cx24.sz) = true := by rw [fr21]; exact q177
theorem p178 : seqsK (run Tryz.prog prims21 100000000) cx25 2 c25_0 l25_0.st (litB l25_1 cx25.sz) = true := by rw [fr21]; exact q178
theorem p179 : seqsK (run Tryz.prog prims21 100000000) cx25 4 c25_1 l25_1.st (litB l25_2 cx25.sz) = true := by rw [fr21]; exact q179
theorem p180 : run Tryz.prog prims21 100000000 (.code c25_2) cx25 l25_2.st K25 = true := by rw [fr21]; exact q180
theorem p181 : seqsK (run Tryz.prog prims22 100000000) cx24 1 c24_1 l24_1.st (litB l24_2 cx24.sz) = true := by rw [fr22]; exact q181
theorem p182 : seqsK (run Tryz.prog prims22 100000000) cx24 5 c24_2 l24_2.st (litB l24_3 cx24.sz) = true := by rw [fr22]; exact q182
theorem p183 : run Tryz.prog prims22 100000000 (.code c24_3) cx24 l24_3.st K24 = true := by rw [fr22]; exact q183
theorem p184 : seqsK (run Tryz.prog prims23 100000000) cx23 1 c23_1 l23_1.st (litB l23_2 cx23.sz) = true := by rw [fr23]; exact q184
theorem p185 : seqsK (run Tryz.prog prims23 100000000) cx23 1 c23_2 l23_2.st (litB l23_3 cx23.sz) = true := by rw [fr23]; exact q185
theorem p186 : run Tryz.prog prims23 100000000 (.code c23_3) cx23 l23_3.st K23 = true := by rw [fr23]; exact q186
theorem p187 : run Tryz.prog prims24 100000000 (.code c2_51) cx2 l2_28.st (cutK l2_29 cx2.sz) = true := by rw [fr24]; exact q187
theorem p188 : run Tryz.prog prims24 100000000 (.code c2_52) cx2 l2_29.st (cutK l2_30 cx2.sz) = true := by rw [fr24]; exact q188
theorem p189 : seqsK (run Tryz.prog prims24 100000000) cx2 1 c2_54 l2_30.st (litB l2_31 cx2.sz) = true := by rw [fr24]; exact q189
theorem p190 : seqsK (run Tryz.prog prims24 100000000) cx2 2 c2_57 l2_31.st (litB l2_32 cx2.sz) = true := by rw [fr24]; exact q190
theorem p191 : seqsK (run Tryz.prog prims24 100000000) cx26 7 c26_0 l26_0.st (litB l26_1 cx26.sz) = true := by rw [fr24]; exact q191
theorem p192 : seqsK (run Tryz.prog prims24 100000000) cx27 4 c27_0 l27_0.st (litB l27_1 cx27.sz) = true := by rw [fr24]; exact q192
theorem p193 : seqsK (run Tryz.prog prims24 100000000) cx28 2 c28_0 l28_0.st (litB l28_1 cx28.sz) = true := by rw [fr24]; exact q193
theorem p194 : seqsK (run Tryz.prog prims24 100000000) cx28 4 c28_1 l28_1.st (litB l28_2 cx28.sz) = true := by rw [fr24]; exact q194
theorem p195 : run Tryz.prog prims24 100000000 (.code c28_2) cx28 l28_2.st K28 = true := by rw [fr24]; exact q195
theorem p196 : seqsK (run Tryz.prog prims25 100000000) cx27 1 c27_1 l27_1.st (litB l27_2 cx27.sz) = true := by rw [fr25]; exact q196
theorem p197 : seqsK (run Tryz.prog prims25 100000000) cx27 5 c27_2 l27_2.st (litB l27_3 cx27.sz) = true := by rw [fr25]; exact q197
theorem p198 : run Tryz.prog prims25 100000000 (.code c27_3) cx27 l27_3.st K27 = true := by rw [fr25]; exact q198
theorem p199 : seqsK (run Tryz.prog prims26 100000000) cx26 1 c26_1 l26_1.st (litB l26_2 cx26.sz) = true := by rw [fr26]; exact q199
theorem p200 : seqsK (run Tryz.prog prims26 100000000) cx29 13 c29_0 l29_0.st (litB l29_1 cx29.sz) = true := by rw [fr26]; exact q200
theorem p201 : seqsK (run Tryz.prog prims26 100000000) cx29 1 c29_1 l29_1.st (litB l29_2 cx29.sz) = true := by rw [fr26]; exact q201
theorem p202 : seqsK (run Tryz.prog prims26 100000000) cx30 2 c30_0 l30_0.st (litB l30_1 cx30.sz) = true := by rw [fr26]; exact q202
theorem p203 : roundsK (run Tryz.prog prims26 100000000) (inner c30_3) cx30 6 l30_1.st (litB l30_2 cx30.sz) = true := by rw [fr26]; exact q203
theorem p204 : roundsK (run Tryz.prog prims26 100000000) (inner c30_3) cx30 6 l30_2.st (litB l30_3 cx30.sz) = true := by rw [fr26]; exact q204
theorem p205 : run Tryz.prog prims26 100000000 (.code c30_3) cx30 l30_3.st (exK 0 l30_4 cx30.sz) = true := by rw [fr26]; exact q205
theorem p206 : seqsK (run Tryz.prog prims26 100000000) cx30 1 c30_4 l30_4.st (litB l30_5 cx30.sz) = true := by rw [fr26]; exact q206
theorem p207 : run Tryz.prog prims26 100000000 (.code c30_5) cx30 l30_5.st K30 = true := by rw [fr26]; exact q207
theorem p208 : seqsK (run Tryz.prog prims27 100000000) cx29 1 c29_2 l29_2.st (litB l29_3 cx29.sz) = true := by rw [fr27]; exact q208
theorem p209 : seqsK (run Tryz.prog prims27 100000000) cx29 1 c29_3 l29_3.st (litB l29_4 cx29.sz) = true := by rw [fr27]; exact q209
theorem p210 : seqsK (run Tryz.prog prims27 100000000) cx29 1 c29_4 l29_4.st (litB l29_5 cx29.sz) = true := by rw [fr27]; exact q210
theorem p211 : roundsK (run Tryz.prog prims27 100000000) (inner c29_7) cx29 1 l29_5.st (litB l29_6 cx29.sz) = true := by rw [fr27]; exact q211
theorem p212 : roundsK (run Tryz.prog prims27 100000000) (inner c29_7) cx29 1 l29_6.st (litB l29_7 cx29.sz) = true := by rw [fr27]; exact q212
theorem p213 : run Tryz.prog prims27 100000000 (.code c29_7) cx29 l29_7.st (exK 8 l29_8 cx29.sz) = true := by rw [fr27]; exact q213
theorem p214 : seqsK (run Tryz.prog prims27 100000000) cx29 7 c29_8 l29_8.st (litB l29_9 cx29.sz) = true := by rw [fr27]; exact q214
theorem p215 : run Tryz.prog prims27 100000000 (.code c29_9) cx29 l29_9.st K29 = true := by rw [fr27]; exact q215
theorem p216 : seqsK (run Tryz.prog prims28 100000000) cx26 1 c26_2 l26_2.st (litB l26_3 cx26.sz) = true := by rw [fr28]; exact q216
theorem p217 : run Tryz.prog prims28 100000000 (.code c26_3) cx26 l26_3.st K26 = true := by rw [fr28]; exact q217
theorem p218 : run Tryz.prog prims29 100000000 (.code c2_58) cx2 l2_32.st (cutK l2_33 cx2.sz) = true := by rw [fr29]; exact q218
theorem p219 : run Tryz.prog prims29 100000000 (.code c2_59) cx2 l2_33.st (cutK l2_34 cx2.sz) = true := by rw [fr29]; exact q219
theorem p220 : run Tryz.prog prims29 100000000 (.code c2_60) cx2 l2_34.st (exK 0 l2_35 cx2.sz) = true := by rw [fr29]; exact q220
theorem p221 : seqsK (run Tryz.prog prims29 100000000) cx2 1 c2_61 l2_35.st (litB l2_36 cx2.sz) = true := by rw [fr29]; exact q221
theorem p222 : run Tryz.prog prims29 100000000 (.code c2_62) cx2 l2_36.st K2 = true := by rw [fr29]; exact q222
theorem p223 : seqsK (run Tryz.prog prims30 100000000) cx0 1 c0_11 l0_10.st (litB l0_11 cx0.sz) = true := by rw [fr30]; exact q223
theorem p224 : seqsK (run Tryz.prog prims30 100000000) cx0 5 c0_12 l0_11.st (litB l0_12 cx0.sz) = true := by rw [fr30]; exact q224
theorem p225 : seqsK (run Tryz.prog prims30 100000000) cx31 5 c31_0 l31_0.st (litB l31_1 cx31.sz) = true := by rw [fr30]; exact q225
theorem p226 : run Tryz.prog prims30 100000000 (.code c31_1) cx31 l31_1.st K31 = true := by rw [fr30]; exact q226
theorem p227 : run Tryz.prog prims31 100000000 (.code c0_13) cx0 l0_12.st K0 = true := by rw [fr31]; exact q227
theorem a1_66 : All Tryz.prog (.code c1_26) cx1 l1_54.st K1 = true := all_run noNum primsL_ok mixed p65
theorem a1_65 : All Tryz.prog (.code c1_25) cx1 l1_53.st K1 = true := seqs_cut noNum primsL_ok mixed (l := l1_54) 1 c1_25 l1_53.st (by kernel_rfl) p64 a1_66
theorem a1_64 : All Tryz.prog (.code c1_24) cx1 l1_52.st (blockX 0 (thenX (All Tryz.prog) (rgt c1_1) cx1 K1)) = true := loop_end noNum primsL_ok mixed p63 (then_lit a1_65)
theorem a1_63 : All Tryz.prog (.code c1_23) cx1 l1_51.st (thenX (All Tryz.prog) c1_14 cx1 (blockX 0 (thenX (All Tryz.prog) (rgt c1_1) cx1 K1))) = true := pass_end noNum primsL_ok mixed p62 (fun σ' hl => all_lit hl a1_64)
theorem a1_62 : All Tryz.prog (.code c1_22) cx1 l1_50.st (blockX 1 (thenX (All Tryz.prog) (rgt c1_16) cx1 (thenX (All Tryz.prog) c1_14 cx1 (blockX 0 (thenX (All Tryz.prog) (rgt c1_1) cx1 K1))))) = true := pass_end noNum primsL_ok mixed p61 (fun σ' hl => all_lit hl a1_63)
theorem a1_61 : All Tryz.prog (.code c1_21) cx1 l1_49.st (blockX 2 (thenX (All Tryz.prog) (rgt c1_18) cx1 (blockX 1 (thenX (All Tryz.prog) (rgt c1_16) cx1 (thenX (All Tryz.prog) c1_14 cx1 (blockX 0 (thenX (All Tryz.prog) (rgt c1_1) cx1 K1))))))) = true := loop_end noNum primsL_ok mixed p60 (then_lit a1_62)
theorem a1_60 : All Tryz.prog (.code c1_21) cx1 l1_48.st (blockX 2 (thenX (All Tryz.prog) (rgt c1_18) cx1 (blockX 1 (thenX (All Tryz.prog) (rgt c1_16) cx1 (thenX (All Tryz.prog) c1_14 cx1 (blockX 0 (thenX (All Tryz.prog) (rgt c1_1) cx1 K1))))))) = true := loop_cut noNum primsL_ok mixed (by kernel_rfl) a1_61 2 l1_48.st p59
theorem a1_59 : All Tryz.prog (.code c1_21) cx1 l1_47.st (blockX 2 (thenX (All Tryz.prog) (rgt c1_18) cx1 (blockX 1 (thenX (All Tryz.prog) (rgt c1_16) cx1 (thenX (All Tryz.prog) c1_14 cx1 (blockX 0 (thenX (All Tryz.prog) (rgt c1_1) cx1 K1))))))) = true := loop_cut noNum primsL_ok mixed (by kernel_rfl) a1_60 2 l1_47.st p58
theorem a1_58 : All Tryz.prog (.code c1_21) cx1 l1_46.st (blockX 2 (thenX (All Tryz.prog) (rgt c1_18) cx1 (blockX 1 (thenX (All Tryz.prog) (rgt c1_16) cx1 (thenX (All Tryz.prog) c1_14 cx1 (blockX 0 (thenX (All Tryz.prog) (rgt c1_1) cx1 K1))))))) = true := loop_cut noNum primsL_ok mixed (by kernel_rfl) a1_59 2 l1_46.st p57
theorem a1_57 : All Tryz.prog (.code c1_21) cx1 l1_45.st (blockX 2 (thenX (All Tryz.prog) (rgt c1_18) cx1 (blockX 1 (thenX (All Tryz.prog) (rgt c1_16) cx1 (thenX (All Tryz.prog) c1_14 cx1 (blockX 0 (thenX (All Tryz.prog) (rgt c1_1) cx1 K1))))))) = true := loop_cut noNum primsL_ok mixed (by kernel_rfl) a1_58 2 l1_45.st p56
theorem a1_56 : All Tryz.prog (.code c1_21) cx1 l1_44.st (blockX 2 (thenX (All Tryz.prog) (rgt c1_18) cx1 (blockX 1 (thenX (All Tryz.prog) (rgt c1_16) cx1 (thenX (All Tryz.prog) c1_14 cx1 (blockX 0 (thenX (All Tryz.prog) (rgt c1_1) cx1 K1))))))) = true := loop_cut noNum primsL_ok mixed (by kernel_rfl) a1_57 2 l1_44.st p55
theorem a1_55 : All Tryz.prog (.code c1_21) cx1 l1_43.st (blockX 2 (thenX (All Tryz.prog) (rgt c1_18) cx1 (blockX 1 (thenX (All Tryz.prog) (rgt c1_16) cx1 (thenX (All Tryz.prog) c1_14 cx1 (blockX 0 (thenX (All Tryz.prog) (rgt c1_1) cx1 K1))))))) = true := loop_cut noNum primsL_ok mixed (by kernel_rfl) a1_56 2 l1_43.st p54
theorem a1_54 : All Tryz.prog (.code c1_21) cx1 l1_42.st (blockX 2 (thenX (All Tryz.prog) (rgt c1_18) cx1 (blockX 1 (thenX (All Tryz.prog) (rgt c1_16) cx1 (thenX (All Tryz.prog) c1_14 cx1 (blockX 0 (thenX (All Tryz.prog) (rgt c1_1) cx1 K1))))))) = true := loop_cut noNum primsL_ok mixed (by kernel_rfl) a1_55 2 l1_42.st p53
theorem a1_53 : All Tryz.prog (.code c1_21) cx1 l1_41.st (blockX 2 (thenX (All Tryz.prog) (rgt c1_18) cx1 (blockX 1 (thenX (All Tryz.prog) (rgt c1_16) cx1 (thenX (All Tryz.prog) c1_14 cx1 (blockX 0 (thenX (All Tryz.prog) (rgt c1_1) cx1 K1))))))) = true := loop_cut noNum primsL_ok mixed (by kernel_rfl) a1_54 2 l1_41.st p52
theorem a1_52 : All Tryz.prog (.code c1_21) cx1 l1_40.st (blockX 2 (thenX (All Tryz.prog) (rgt c1_18) cx1 (blockX 1 (thenX (All Tryz.prog) (rgt c1_16) cx1 (thenX (All Tryz.prog) c1_14 cx1 (blockX 0 (thenX (All Tryz.prog) (rgt c1_1) cx1 K1))))))) = true := loop_cut noNum primsL_ok mixed (by kernel_rfl) a1_53 2 l1_40.st p51
theorem a1_51 : All Tryz.prog (.code c1_21) cx1 l1_39.st (blockX 2 (thenX (All Tryz.prog) (rgt c1_18) cx1 (blockX 1 (thenX (All Tryz.prog) (rgt c1_16) cx1 (thenX (All Tryz.prog) c1_14 cx1 (blockX 0 (thenX (All Tryz.prog) (rgt c1_1) cx1 K1))))))) = true := loop_cut noNum primsL_ok mixed (by kernel_rfl) a1_52 2 l1_39.st p50
theorem a1_50 : All Tryz.prog (.code c1_21) cx1 l1_38.st (blockX 2 (thenX (All Tryz.prog) (rgt c1_18) cx1 (blockX 1 (thenX (All Tryz.prog) (rgt c1_16) cx1 (thenX (All Tryz.prog) c1_14 cx1 (blockX 0 (thenX (All Tryz.prog) (rgt c1_1) cx1 K1))))))) = true := loop_cut noNum primsL_ok mixed (by kernel_rfl) a1_51 2 l1_38.st p49
theorem a1_49 : All Tryz.prog (.code c1_21) cx1 l1_37.st (blockX 2 (thenX (All Tryz.prog) (rgt c1_18) cx1 (blockX 1 (thenX (All Tryz.prog) (rgt c1_16) cx1 (thenX (All Tryz.prog) c1_14 cx1 (blockX 0 (thenX (All Tryz.prog) (rgt c1_1) cx1 K1))))))) = true := loop_cut noNum primsL_ok mixed (by kernel_rfl) a1_50 2 l1_37.st p48
theorem a1_48 : All Tryz.prog (.code c1_21) cx1 l1_36.st (blockX 2 (thenX (All Tryz.prog) (rgt c1_18) cx1 (blockX 1 (thenX (All Tryz.prog) (rgt c1_16) cx1 (thenX (All Tryz.prog) c1_14 cx1 (blockX 0 (thenX (All Tryz.prog) (rgt c1_1) cx1 K1))))))) = true := loop_cut noNum primsL_ok mixed (by kernel_rfl) a1_49 2 l1_36.st p47
theorem a1_47 : All Tryz.prog (.code c1_21) cx1 l1_35.st (blockX 2 (thenX (All Tryz.prog) (rgt c1_18) cx1 (blockX 1 (thenX (All Tryz.prog) (rgt c1_16) cx1 (thenX (All Tryz.prog) c1_14 cx1 (blockX 0 (thenX (All Tryz.prog) (rgt c1_1) cx1 K1))))))) = true := loop_cut noNum primsL_ok mixed (by kernel_rfl) a1_48 2 l1_35.st p46
theorem a1_46 : All Tryz.prog (.code c1_21) cx1 l1_34.st (blockX 2 (thenX (All Tryz.prog) (rgt c1_18) cx1 (blockX 1 (thenX (All Tryz.prog) (rgt c1_16) cx1 (thenX (All Tryz.prog) c1_14 cx1 (blockX 0 (thenX (All Tryz.prog) (rgt c1_1) cx1 K1))))))) = true := loop_cut noNum primsL_ok mixed (by kernel_rfl) a1_47 2 l1_34.st p45
theorem a1_45 : All Tryz.prog (.code c1_21) cx1 l1_33.st (blockX 2 (thenX (All Tryz.prog) (rgt c1_18) cx1 (blockX 1 (thenX (All Tryz.prog) (rgt c1_16) cx1 (thenX (All Tryz.prog) c1_14 cx1 (blockX 0 (thenX (All Tryz.prog) (rgt c1_1) cx1 K1))))))) = true := loop_cut noNum primsL_ok mixed (by kernel_rfl) a1_46 2 l1_33.st p44
theorem a1_44 : All Tryz.prog (.code c1_21) cx1 l1_32.st (blockX 2 (thenX (All Tryz.prog) (rgt c1_18) cx1 (blockX 1 (thenX (All Tryz.prog) (rgt c1_16) cx1 (thenX (All Tryz.prog) c1_14 cx1 (blockX 0 (thenX (All Tryz.prog) (rgt c1_1) cx1 K1))))))) = true := loop_cut noNum primsL_ok mixed (by kernel_rfl) a1_45 2 l1_32.st p43
theorem a1_43 : All Tryz.prog (.code c1_21) cx1 l1_31.st (blockX 2 (thenX (All Tryz.prog) (rgt c1_18) cx1 (blockX 1 (thenX (All Tryz.prog) (rgt c1_16) cx1 (thenX (All Tryz.prog) c1_14 cx1 (blockX 0 (thenX (All Tryz.prog) (rgt c1_1) cx1 K1))))))) = true := loop_cut noNum primsL_ok mixed (by kernel_rfl) a1_44 2 l1_31.st p42
theorem a1_42 : All Tryz.prog (.code c1_21) cx1 l1_30.st (blockX 2 (thenX (All Tryz.prog) (rgt c1_18) cx1 (blockX 1 (thenX (All Tryz.prog) (rgt c1_16) cx1 (thenX (All Tryz.prog) c1_14 cx1 (blockX 0 (thenX (All Tryz.prog) (rgt c1_1) cx1 K1))))))) = true := loop_cut noNum primsL_ok mixed (by kernel_rfl) a1_43 2 l1_30.st p41
theorem a1_41 : All Tryz.prog (.code c1_21) cx1 l1_29.st (blockX 2 (thenX (All Tryz.prog) (rgt c1_18) cx1 (blockX 1 (thenX (All Tryz.prog) (rgt c1_16) cx1 (thenX (All Tryz.prog) c1_14 cx1 (blockX 0 (thenX (All Tryz.prog) (rgt c1_1) cx1 K1))))))) = true := loop_cut noNum primsL_ok mixed (by kernel_rfl) a1_42 2 l1_29.st p40
theorem a1_40 : All Tryz.prog (.code c1_20) cx1 l1_29.st (thenX (All Tryz.prog) (rgt c1_18) cx1 (blockX 1 (thenX (All Tryz.prog) (rgt c1_16) cx1 (thenX (All Tryz.prog) c1_14 cx1 (blockX 0 (thenX (All Tryz.prog) (rgt c1_1) cx1 K1)))))) = true := block_in (by kernel_rfl) a1_41
theorem a1_39 : All Tryz.prog (.code c1_19) cx1 l1_28.st (thenX (All Tryz.prog) (rgt c1_18) cx1 (blockX 1 (thenX (All Tryz.prog) (rgt c1_16) cx1 (thenX (All Tryz.prog) c1_14 cx1 (blockX 0 (thenX (All Tryz.prog) (rgt c1_1) cx1 K1)))))) = true := seqs_cut noNum primsL_ok mixed (l := l1_29) 1 c1_19 l1_28.st (by kernel_rfl) p39 a1_40
theorem a1_38 : All Tryz.prog (.code c1_18) cx1 l1_28.st (blockX 1 (thenX (All Tryz.prog) (rgt c1_16) cx1 (thenX (All Tryz.prog) c1_14 cx1 (blockX 0 (thenX (All Tryz.prog) (rgt c1_1) cx1 K1))))) = true := seq_left (by kernel_rfl) a1_39
theorem a1_37 : All Tryz.prog (.code c1_17) cx1 l1_28.st (thenX (All Tryz.prog) (rgt c1_16) cx1 (thenX (All Tryz.prog) c1_14 cx1 (blockX 0 (thenX (All Tryz.prog) (rgt c1_1) cx1 K1)))) = true := block_in (by kernel_rfl) a1_38
theorem a1_36 : All Tryz.prog (.code c1_16) cx1 l1_28.st (thenX (All Tryz.prog) c1_14 cx1 (blockX 0 (thenX (All Tryz.prog) (rgt c1_1) cx1 K1))) = true := seq_left (by kernel_rfl) a1_37
theorem a1_35 : All Tryz.prog (.code c1_15) cx1 l1_27.st (thenX (All Tryz.prog) c1_14 cx1 (blockX 0 (thenX (All Tryz.prog) (rgt c1_1) cx1 K1))) = true := seqs_cut noNum primsL_ok mixed (l := l1_28) 1 c1_15 l1_27.st (by kernel_rfl) p38 a1_36
theorem a1_34 : All Tryz.prog (.code c1_14) cx1 l1_27.st (blockX 0 (thenX (All Tryz.prog) (rgt c1_1) cx1 K1)) = true := loop_open (by kernel_rfl) a1_35
theorem a1_33 : All Tryz.prog (.code c1_13) cx1 l1_26.st (thenX (All Tryz.prog) c1_4 cx1 (blockX 0 (thenX (All Tryz.prog) (rgt c1_1) cx1 K1))) = true := pass_end noNum primsL_ok mixed p37 (fun σ' hl => all_lit hl a1_34)
theorem a1_32 : All Tryz.prog (.code c1_12) cx1 l1_25.st (blockX 1 (thenX (All Tryz.prog) (rgt c1_6) cx1 (thenX (All Tryz.prog) c1_4 cx1 (blockX 0 (thenX (All Tryz.prog) (rgt c1_1) cx1 K1))))) = true := pass_end noNum primsL_ok mixed p36 (fun σ' hl => all_lit hl a1_33)
theorem a1_31 : All Tryz.prog (.code c1_11) cx1 l1_24.st (blockX 2 (thenX (All Tryz.prog) (rgt c1_8) cx1 (blockX 1 (thenX (All Tryz.prog) (rgt c1_6) cx1 (thenX (All Tryz.prog) c1_4 cx1 (blockX 0 (thenX (All Tryz.prog) (rgt c1_1) cx1 K1))))))) = true := loop_end noNum primsL_ok mixed p35 (then_lit a1_32)
theorem a1_30 : All Tryz.prog (.code c1_11) cx1 l1_23.st (blockX 2 (thenX (All Tryz.prog) (rgt c1_8) cx1 (blockX 1 (thenX (All Tryz.prog) (rgt c1_6) cx1 (thenX (All Tryz.prog) c1_4 cx1 (blockX 0 (thenX (All Tryz.prog) (rgt c1_1) cx1 K1))))))) = true := loop_cut noNum primsL_ok mixed (by kernel_rfl) a1_31 2 l1_23.st p34
theorem a1_29 : All Tryz.prog (.code c1_11) cx1 l1_22.st (blockX 2 (thenX (All Tryz.prog) (rgt c1_8) cx1 (blockX 1 (thenX (All Tryz.prog) (rgt c1_6) cx1 (thenX (All Tryz.prog) c1_4 cx1 (blockX 0 (thenX (All Tryz.prog) (rgt c1_1) cx1 K1))))))) = true := loop_cut noNum primsL_ok mixed (by kernel_rfl) a1_30 2 l1_22.st p33
theorem a1_28 : All Tryz.prog (.code c1_11) cx1 l1_21.st (blockX 2 (thenX (All Tryz.prog) (rgt c1_8) cx1 (blockX 1 (thenX (All Tryz.prog) (rgt c1_6) cx1 (thenX (All Tryz.prog) c1_4 cx1 (blockX 0 (thenX (All Tryz.prog) (rgt c1_1) cx1 K1))))))) = true := loop_cut noNum primsL_ok mixed (by kernel_rfl) a1_29 2 l1_21.st p32
theorem a1_27 : All Tryz.prog (.code c1_11) cx1 l1_20.st (blockX 2 (thenX (All Tryz.prog) (rgt c1_8) cx1 (blockX 1 (thenX (All Tryz.prog) (rgt c1_6) cx1 (thenX (All Tryz.prog) c1_4 cx1 (blockX 0 (thenX (All Tryz.prog) (rgt c1_1) cx1 K1))))))) = true := loop_cut noNum primsL_ok mixed (by kernel_rfl) a1_28 2 l1_20.st p31
theorem a1_26 : All Tryz.prog (.code c1_11) cx1 l1_19.st (blockX 2 (thenX (All Tryz.prog) (rgt c1_8) cx1 (blockX 1 (thenX (All Tryz.prog) (rgt c1_6) cx1 (thenX (All Tryz.prog) c1_4 cx1 (blockX 0 (thenX (All Tryz.prog) (rgt c1_1) cx1 K1))))))) = true := loop_cut noNum primsL_ok mixed (by kernel_rfl) a1_27 2 l1_19.st p30
theorem a1_25 : All Tryz.prog (.code c1_11) cx1 l1_18.st (blockX 2 (thenX (All Tryz.prog) (rgt c1_8) cx1 (blockX 1 (thenX (All Tryz.prog) (rgt c1_6) cx1 (thenX (All Tryz.prog) c1_4 cx1 (blockX 0 (thenX (All Tryz.prog) (rgt c1_1) cx1 K1))))))) = true := loop_cut noNum primsL_ok mixed (by kernel_rfl) a1_26 2 l1_18.st p29
theorem a1_24 : All Tryz.prog (.code c1_11) cx1 l1_17.st (blockX 2 (thenX (All Tryz.prog) (rgt c1_8) cx1 (blockX 1 (thenX (All Tryz.prog) (rgt c1_6) cx1 (thenX (All Tryz.prog) c1_4 cx1 (blockX 0 (thenX (All Tryz.prog) (rgt c1_1) cx1 K1))))))) = true := loop_cut noNum primsL_ok mixed (by kernel_rfl) a1_25 2 l1_17.st p28
theorem a1_23 : All Tryz.prog (.code c1_11) cx1 l1_16.st (blockX 2 (thenX (All Tryz.prog) (rgt c1_8) cx1 (blockX 1 (thenX (All Tryz.prog) (rgt c1_6) cx1 (thenX (All Tryz.prog) c1_4 cx1 (blockX 0 (thenX (All Tryz.prog) (rgt c1_1) cx1 K1))))))) = true := loop_cut noNum primsL_ok mixed (by kernel_rfl) a1_24 2 l1_16.st p27
theorem a1_22 : All Tryz.prog (.code c1_11) cx1 l1_15.st (blockX 2 (thenX (All Tryz.prog) (rgt c1_8) cx1 (blockX 1 (thenX (All Tryz.prog) (rgt c1_6) cx1 (thenX (All Tryz.prog) c1_4 cx1 (blockX 0 (thenX (All Tryz.prog) (rgt c1_1) cx1 K1))))))) = true := loop_cut noNum primsL_ok mixed (by kernel_rfl) a1_23 2 l1_15.st p26
theorem a1_21 : All Tryz.prog (.code c1_11) cx1 l1_14.st (blockX 2 (thenX (All Tryz.prog) (rgt c1_8) cx1 (blockX 1 (thenX (All Tryz.prog) (rgt c1_6) cx1 (thenX (All Tryz.prog) c1_4 cx1 (blockX 0 (thenX (All Tryz.prog) (rgt c1_1) cx1 K1))))))) = true := loop_cut noNum primsL_ok mixed (by kernel_rfl) a1_22 2 l1_14.st p25
theorem a1_20 : All Tryz.prog (.code c1_11) cx1 l1_13.st (blockX 2 (thenX (All Tryz.prog) (rgt c1_8) cx1 (blockX 1 (thenX (All Tryz.prog) (rgt c1_6) cx1 (thenX (All Tryz.prog) c1_4 cx1 (blockX 0 (thenX (All Tryz.prog) (rgt c1_1) cx1 K1))))))) = true := loop_cut noNum primsL_ok mixed (by kernel_rfl) a1_21 2 l1_13.st p24
theorem a1_19 : All Tryz.prog (.code c1_11) cx1 l1_12.st (blockX 2 (thenX (All Tryz.prog) (rgt c1_8) cx1 (blockX 1 (thenX (All Tryz.prog) (rgt c1_6) cx1 (thenX (All Tryz.prog) c1_4 cx1 (blockX 0 (thenX (All Tryz.prog) (rgt c1_1) cx1 K1))))))) = true := loop_cut noNum primsL_ok mixed (by kernel_rfl) a1_20 2 l1_12.st p23
theorem a1_18 : All Tryz.prog (.code c1_11) cx1 l1_11.st (blockX 2 (thenX (All Tryz.prog) (rgt c1_8) cx1 (blockX 1 (thenX (All Tryz.prog) (rgt c1_6) cx1 (thenX (All Tryz.prog) c1_4 cx1 (blockX 0 (thenX (All Tryz.prog) (rgt c1_1) cx1 K1))))))) = true := loop_cut noNum primsL_ok mixed (by kernel_rfl) a1_19 2 l1_11.st p22
theorem a1_17 : All Tryz.prog (.code c1_11) cx1 l1_10.st (blockX 2 (thenX (All Tryz.prog) (rgt c1_8) cx1 (blockX 1 (thenX (All Tryz.prog) (rgt c1_6) cx1 (thenX (All Tryz.prog) c1_4 cx1 (blockX 0 (thenX (All Tryz.prog) (rgt c1_1) cx1 K1))))))) = true := loop_cut noNum primsL_ok mixed (by kernel_rfl) a1_18 2 l1_10.st p21
theorem a1_16 : All Tryz.prog (.code c1_11) cx1 l1_9.st (blockX 2 (thenX (All Tryz.prog) (rgt c1_8) cx1 (blockX 1 (thenX (All Tryz.prog) (rgt c1_6) cx1 (thenX (All Tryz.prog) c1_4 cx1 (blockX 0 (thenX (All Tryz.prog) (rgt c1_1) cx1 K1))))))) = true := loop_cut noNum primsL_ok mixed (by kernel_rfl) a1_17 2 l1_9.st p20
theorem a1_15 : All Tryz.prog (.code c1_11) cx1 l1_8.st (blockX 2 (thenX (All Tryz.prog) (rgt c1_8) cx1 (blockX 1 (thenX (All Tryz.prog) (rgt c1_6) cx1 (thenX (All Tryz.prog) c1_4 cx1 (blockX 0 (thenX (All Tryz.prog) (rgt c1_1) cx1 K1))))))) = true := loop_cut noNum primsL_ok mixed (by kernel_rfl) a1_16 2 l1_8.st p19
theorem a1_14 : All Tryz.prog (.code c1_11) cx1 l1_7.st (blockX 2 (thenX (All Tryz.prog) (rgt c1_8) cx1 (blockX 1 (thenX (All Tryz.prog) (rgt c1_6) cx1 (thenX (All Tryz.prog) c1_4 cx1 (blockX 0 (thenX (All Tryz.prog) (rgt c1_1) cx1 K1))))))) = true := loop_cut noNum primsL_ok mixed (by kernel_rfl) a1_15 2 l1_7.st p18
theorem a1_13 : All Tryz.prog (.code c1_11) cx1 l1_6.st (blockX 2 (thenX (All Tryz.prog) (rgt c1_8) cx1 (blockX 1 (thenX (All Tryz.prog) (rgt c1_6) cx1 (thenX (All Tryz.prog) c1_4 cx1 (blockX 0 (thenX (All Tryz.prog) (rgt c1_1) cx1 K1))))))) = true := loop_cut noNum primsL_ok mixed (by kernel_rfl) a1_14 2 l1_6.st p17
theorem a1_12 : All Tryz.prog (.code c1_11) cx1 l1_5.st (blockX 2 (thenX (All Tryz.prog) (rgt c1_8) cx1 (blockX 1 (thenX (All Tryz.prog) (rgt c1_6) cx1 (thenX (All Tryz.prog) c1_4 cx1 (blockX 0 (thenX (All Tryz.prog) (rgt c1_1) cx1 K1))))))) = true := loop_cut noNum primsL_ok mixed (by kernel_rfl) a1_13 2 l1_5.st p16
theorem a1_11 : All Tryz.prog (.code c1_11) cx1 l1_4.st (blockX 2 (thenX (All Tryz.prog) (rgt c1_8) cx1 (blockX 1 (thenX (All Tryz.prog) (rgt c1_6) cx1 (thenX (All Tryz.prog) c1_4 cx1 (blockX 0 (thenX (All Tryz.prog) (rgt c1_1) cx1 K1))))))) = true := loop_cut noNum primsL_ok mixed (by kernel_rfl) a1_12 2 l1_4.st p15
theorem a1_10 : All Tryz.prog (.code c1_10) cx1 l1_4.st (thenX (All Tryz.prog) (rgt c1_8) cx1 (blockX 1 (thenX (All Tryz.prog) (rgt c1_6) cx1 (thenX (All Tryz.prog) c1_4 cx1 (blockX 0 (thenX (All Tryz.prog) (rgt c1_1) cx1 K1)))))) = true := block_in (by kernel_rfl) a1_11
theorem a1_9 : All Tryz.prog (.code c1_9) cx1 l1_3.st (thenX (All Tryz.prog) (rgt c1_8) cx1 (blockX 1 (thenX (All Tryz.prog) (rgt c1_6) cx1 (thenX (All Tryz.prog) c1_4 cx1 (blockX 0 (thenX (All Tryz.prog) (rgt c1_1) cx1 K1)))))) = true := seqs_cut noNum primsL_ok mixed (l := l1_4) 1 c1_9 l1_3.st (by kernel_rfl) p14 a1_10
theorem a1_8 : All Tryz.prog (.code c1_8) cx1 l1_3.st (blockX 1 (thenX (All Tryz.prog) (rgt c1_6) cx1 (thenX (All Tryz.prog) c1_4 cx1 (blockX 0 (thenX (All Tryz.prog) (rgt c1_1) cx1 K1))))) = true := seq_left (by kernel_rfl) a1_9
theorem a1_7 : All Tryz.prog (.code c1_7) cx1 l1_3.st (thenX (All Tryz.prog) (rgt c1_6) cx1 (thenX (All Tryz.prog) c1_4 cx1 (blockX 0 (thenX (All Tryz.prog) (rgt c1_1) cx1 K1)))) = true := block_in (by kernel_rfl) a1_8
theorem a1_6 : All Tryz.prog (.code c1_6) cx1 l1_3.st (thenX (All Tryz.prog) c1_4 cx1 (blockX 0 (thenX (All Tryz.prog) (rgt c1_1) cx1 K1))) = true := seq_left (by kernel_rfl) a1_7
theorem a1_5 : All Tryz.prog (.code c1_5) cx1 l1_2.st (thenX (All Tryz.prog) c1_4 cx1 (blockX 0 (thenX (All Tryz.prog) (rgt c1_1) cx1 K1))) = true := seqs_cut noNum primsL_ok mixed (l := l1_3) 1 c1_5 l1_2.st (by kernel_rfl) p13 a1_6
theorem a1_4 : All Tryz.prog (.code c1_4) cx1 l1_2.st (blockX 0 (thenX (All Tryz.prog) (rgt c1_1) cx1 K1)) = true := loop_open (by kernel_rfl) a1_5
theorem a1_3 : All Tryz.prog (.code c1_3) cx1 l1_2.st (thenX (All Tryz.prog) (rgt c1_1) cx1 K1) = true := block_in (by kernel_rfl) a1_4
theorem a1_2 : All Tryz.prog (.code c1_2) cx1 l1_1.st (thenX (All Tryz.prog) (rgt c1_1) cx1 K1) = true := seqs_cut noNum primsL_ok mixed (l := l1_2) 1 c1_2 l1_1.st (by kernel_rfl) p12 a1_3
theorem a1_1 : All Tryz.prog (.code c1_1) cx1 l1_1.st K1 = true := seq_left (by kernel_rfl) a1_2
theorem a1_0 : All Tryz.prog (.code c1_0) cx1 l1_0.st K1 = true := seqs_cut noNum primsL_ok mixed (l := l1_1) 3 c1_0 l1_0.st (by kernel_rfl) p11 a1_1
theorem body1 : Tryz.f14.body = some c1_0 := by kernel_rfl
theorem met1 : Ex.Met Tryz.prog 14 (litP l1_0 55 r1) := (by first | exact met_lit noNum Tryz.func14 body1 a1_0 | (show Ex.Met _ _ (litP _ Tryz.ntmps14 _); exact met_lit noNum Tryz.func14 body1 a1_0))
theorem prims1_ok : PrimOk Tryz.prog prims1 := primOk_or met1 primsL_ok
theorem a5_2 : All Tryz.prog (.code c5_2) cx5 l5_2.st K5 = true := all_run noNum prims1_ok mixed p74
theorem a5_1 : All Tryz.prog (.code c5_1) cx5 l5_1.st K5 = true := seqs_cut noNum prims1_ok mixed (l := l5_2) 4 c5_1 l5_1.st (by kernel_rfl) p73 a5_2
theorem a5_0 : All Tryz.prog (.code c5_0) cx5 l5_0.st K5 = true := seqs_cut noNum prims1_ok mixed (l := l5_1) 2 c5_0 l5_0.st (by kernel_rfl) p72 a5_1
theorem body5 : Tryz.f40.body = some c5_0 := by kernel_rfl
theorem met5 : Ex.Met Tryz.prog 40 (litP l5_0 75 r5) := (by first | exact met_lit noNum Tryz.func40 body5 a5_0 | (show Ex.Met _ _ (litP _ Tryz.ntmps40 _); exact met_lit noNum Tryz.func40 body5 a5_0))
theorem prims2_ok : PrimOk Tryz.prog prims2 := primOk_or met5 prims1_ok
theorem a4_3 : All Tryz.prog (.code c4_3) cx4 l4_3.st K4 = true := all_run noNum prims2_ok mixed p77
theorem a4_2 : All Tryz.prog (.code c4_2) cx4 l4_2.st K4 = true := seqs_cut noNum prims2_ok mixed (l := l4_3) 5 c4_2 l4_2.st (by kernel_rfl) p76 a4_3
theorem a4_1 : All Tryz.prog (.code c4_1) cx4 l4_1.st K4 = true := seqs_cut noNum prims2_ok mixed (l := l4_2) 1 c4_1 l4_1.st (by kernel_rfl) p75 a4_2
theorem a4_0 : All Tryz.prog (.code c4_0) cx4 l4_0.st K4 = true := seqs_cut noNum prims1_ok mixed (l := l4_1) 4 c4_0 l4_0.st (by kernel_rfl) p71 a4_1
theorem body4 : Tryz.f19.body = some c4_0 := by kernel_rfl
theorem met4 : Ex.Met Tryz.prog 19 (litP l4_0 79 r4) := (by first | exact met_lit noNum Tryz.func19 body4 a4_0 | (show Ex.Met _ _ (litP _ Tryz.ntmps19 _); exact met_lit noNum Tryz.func19 body4 a4_0))
theorem prims3_ok : PrimOk Tryz.prog prims3 := primOk_or met4 prims2_ok
theorem a3_3 : All Tryz.prog (.code c3_3) cx3 l3_3.st K3 = true := all_run noNum prims3_ok mixed p80
theorem a3_2 : All Tryz.prog (.code c3_2) cx3 l3_2.st K3 = true := seqs_cut noNum prims3_ok mixed (l := l3_3) 1 c3_2 l3_2.st (by kernel_rfl) p79 a3_3
theorem a3_1 : All Tryz.prog (.code c3_1) cx3 l3_1.st K3 = true := seqs_cut noNum prims3_ok mixed (l := l3_2) 1 c3_1 l3_1.st (by kernel_rfl) p78 a3_2
theorem a3_0 : All Tryz.prog (.code c3_0) cx3 l3_0.st K3 = true := seqs_cut noNum prims1_ok mixed (l := l3_1) 7 c3_0 l3_0.st (by kernel_rfl) p70 a3_1
theorem body3 : Tryz.f6.body = some c3_0 := by kernel_rfl
theorem met3 : Ex.Met Tryz.prog 6 (litP l3_0 68 r3) := (by first | exact met_lit noNum Tryz.func6 body3 a3_0 | (show Ex.Met _ _ (litP _ Tryz.ntmps6 _); exact met_lit noNum Tryz.func6 body3 a3_0))
theorem prims4_ok : PrimOk Tryz.prog prims4 := primOk_or met3 prims3_ok
theorem a8_2 : All Tryz.prog (.code c8_2) cx8 l8_2.st K8 = true := all_run noNum prims4_ok mixed p89
theorem a8_1 : All Tryz.prog (.code c8_1) cx8 l8_1.st K8 = true := seqs_cut noNum prims4_ok mixed (l := l8_2) 4 c8_1 l8_1.st (by kernel_rfl) p88 a8_2
theorem a8_0 : All Tryz.prog (.code c8_0) cx8 l8_0.st K8 = true := seqs_cut noNum prims4_ok mixed (l := l8_1) 2 c8_0 l8_0.st (by kernel_rfl) p87 a8_1
theorem body8 : Tryz.f40.body = some c8_0 := by kernel_rfl
theorem met8 : Ex.Met Tryz.prog 40 (litP l8_0 75 r8) := (by first | exact met_lit noNum Tryz.func40 body8 a8_0 | (show Ex.Met _ _ (litP _ Tryz.ntmps40 _); exact met_lit noNum Tryz.func40 body8 a8_0))
theorem prims5_ok : PrimOk Tryz.prog prims5 := primOk_or met8 prims4_ok
theorem a7_3 : All Tryz.prog (.code c7_3) cx7 l7_3.st K7 = true := all_run noNum prims5_ok mixed p92
theorem a7_2 : All Tryz.prog (.code c7_2) cx7 l7_2.st K7 = true := seqs_cut noNum prims5_ok mixed (l := l7_3) 5 c7_2 l7_2.st (by kernel_rfl) p91 a7_3
theorem a7_1 : All Tryz.prog (.code c7_1) cx7 l7_1.st K7 = true := seqs_cut noNum prims5_ok mixed (l := l7_2) 1 c7_1 l7_1.st (by kernel_rfl) p90 a7_2
theorem a7_0 : All Tryz.prog (.code c7_0) cx7 l7_0.st K7 = true := seqs_cut noNum prims4_ok mixed (l := l7_1) 4 c7_0 l7_0.st (by kernel_rfl) p86 a7_1
theorem body7 : Tryz.f19.body = some c7_0 := by kernel_rfl
theorem met7 : Ex.Met Tryz.prog 19 (litP l7_0 79 r7) := (by first | exact met_lit noNum Tryz.func19 body7 a7_0 | (show Ex.Met _ _ (litP _ Tryz.ntmps19 _); exact met_lit noNum Tryz.func19 body7 a7_0))
theorem prims6_ok : PrimOk Tryz.prog prims6 := primOk_or met7 prims5_ok
theorem a6_3 : All Tryz.prog (.code c6_3) cx6 l6_3.st K6 = true := all_run noNum prims6_ok mixed p95
theorem a6_2 : All Tryz.prog (.code c6_2) cx6 l6_2.st K6 = true := seqs_cut noNum prims6_ok mixed (l := l6_3) 1 c6_2 l6_2.st (by kernel_rfl) p94 a6_3
theorem a6_1 : All Tryz.prog (.code c6_1) cx6 l6_1.st K6 = true := seqs_cut noNum prims6_ok mixed (l := l6_2) 1 c6_1 l6_1.st (by kernel_rfl) p93 a6_2
theorem a6_0 : All Tryz.prog (.code c6_0) cx6 l6_0.st K6 = true := seqs_cut noNum prims4_ok mixed (l := l6_1) 7 c6_0 l6_0.st (by kernel_rfl) p85 a6_1
theorem body6 : Tryz.f6.body = some c6_0 := by kernel_rfl
theorem met6 : Ex.Met Tryz.prog 6 (litP l6_0 68 r6) := (by first | exact met_lit noNum Tryz.func6 body6 a6_0 | (show Ex.Met _ _ (litP _ Tryz.ntmps6 _); exact met_lit noNum Tryz.func6 body6 a6_0))
theorem prims7_ok : PrimOk Tryz.prog prims7 := primOk_or met6 prims6_ok
theorem a11_2 : All Tryz.prog (.code c11_2) cx11 l11_2.st K11 = true := all_run noNum prims7_ok mixed p104
theorem a11_1 : All Tryz.prog (.code c11_1) cx11 l11_1.st K11 = true := seqs_cut noNum prims7_ok mixed (l := l11_2) 4 c11_1 l11_1.st (by kernel_rfl) p103 a11_2
theorem a11_0 : All Tryz.prog (.code c11_0) cx11 l11_0.st K11 = true := seqs_cut noNum prims7_ok mixed (l := l11_1) 2 c11_0 l11_0.st (by kernel_rfl) p102 a11_1
theorem body11 : Tryz.f40.body = some c11_0 := by kernel_rfl
theorem met11 : Ex.Met Tryz.prog 40 (litP l11_0 75 r11) := (by first | exact met_lit noNum Tryz.func40 body11 a11_0 | (show Ex.Met _ _ (litP _ Tryz.ntmps40 _); exact met_lit noNum Tryz.func40 body11 a11_0))
theorem prims8_ok : PrimOk Tryz.prog prims8 := primOk_or met11 prims7_ok
theorem a10_3 : All Tryz.prog (.code c10_3) cx10 l10_3.st K10 = true := all_run noNum prims8_ok mixed p107
theorem a10_2 : All Tryz.prog (.code c10_2) cx10 l10_2.st K10 = true := seqs_cut noNum prims8_ok mixed (l := l10_3) 5 c10_2 l10_2.st (by kernel_rfl) p106 a10_3
theorem a10_1 : All Tryz.prog (.code c10_1) cx10 l10_1.st K10 = true := seqs_cut noNum prims8_ok mixed (l := l10_2) 1 c10_1 l10_1.st (by kernel_rfl) p105 a10_2
theorem a10_0 : All Tryz.prog (.code c10_0) cx10 l10_0.st K10 = true := seqs_cut noNum prims7_ok mixed (l := l10_1) 4 c10_0 l10_0.st (by kernel_rfl) p101 a10_1
theorem body10 : Tryz.f19.body = some c10_0 := by kernel_rfl
theorem met10 : Ex.Met Tryz.prog 19 (litP l10_0 79 r10) := (by first | exact met_lit noNum Tryz.func19 body10 a10_0 | (show Ex.Met _ _ (litP _ Tryz.ntmps19 _); exact met_lit noNum Tryz.func19 body10 a10_0))
theorem prims9_ok : PrimOk Tryz.prog prims9 := primOk_or met10 prims8_ok
theorem a9_3 : All Tryz.prog (.code c9_3) cx9 l9_3.st K9 = true := all_run noNum prims9_ok mixed p110
theorem a9_2 : All Tryz.prog (.code c9_2) cx9 l9_2.st K9 = true := seqs_cut noNum prims9_ok mixed (l := l9_3) 1 c9_2 l9_2.st (by kernel_rfl) p109 a9_3
theorem a9_1 : All Tryz.prog (.code c9_1) cx9 l9_1.st K9 = true := seqs_cut noNum prims9_ok mixed (l := l9_2) 1 c9_1 l9_1.st (by kernel_rfl) p108 a9_2
theorem a9_0 : All Tryz.prog (.code c9_0) cx9 l9_0.st K9 = true := seqs_cut noNum prims7_ok mixed (l := l9_1) 7 c9_0 l9_0.st (by kernel_rfl) p100 a9_1
theorem body9 : Tryz.f6.body = some c9_0 := by kernel_rfl
theorem met9 : Ex.Met Tryz.prog 6 (litP l9_0 68 r9) := (by first | exact met_lit noNum Tryz.func6 body9 a9_0 | (show Ex.Met _ _ (litP _ Tryz.ntmps6 _); exact met_lit noNum Tryz.func6 body9 a9_0))
theorem prims10_ok : PrimOk Tryz.prog prims10 := primOk_or met9 prims9_ok
theorem a14_2 : All Tryz.prog (.code c14_2) cx14 l14_2.st K14 = true := all_run noNum prims10_ok mixed p119
theorem a14_1 : All Tryz.prog (.code c14_1) cx14 l14_1.st K14 = true := seqs_cut noNum prims10_ok mixed (l := l14_2) 4 c14_1 l14_1.st (by kernel_rfl) p118 a14_2
theorem a14_0 : All Tryz.prog (.code c14_0) cx14 l14_0.st K14 = true := seqs_cut noNum prims10_ok mixed (l := l14_1) 2 c14_0 l14_0.st (by kernel_rfl) p117 a14_1
theorem body14 : Tryz.f40.body = some c14_0 := by kernel_rfl
theorem met14 : Ex.Met Tryz.prog 40 (litP l14_0 75 r14) := (by first | exact met_lit noNum Tryz.func40 body14 a14_0 | (show Ex.Met _ _ (litP _ Tryz.ntmps40 _); exact met_lit noNum Tryz.func40 body14 a14_0))
theorem prims11_ok : PrimOk Tryz.prog prims11 := primOk_or met14 prims10_ok
theorem a13_3 : All Tryz.prog (.code c13_3) cx13 l13_3.st K13 = true := all_run noNum prims11_ok mixed p122
theorem a13_2 : All Tryz.prog (.code c13_2) cx13 l13_2.st K13 = true := seqs_cut noNum prims11_ok mixed (l := l13_3) 5 c13_2 l13_2.st (by kernel_rfl) p121 a13_3
theorem a13_1 : All Tryz.prog (.code c13_1) cx13 l13_1.st K13 = true := seqs_cut noNum prims11_ok mixed (l := l13_2) 1 c13_1 l13_1.st (by kernel_rfl) p120 a13_2
theorem a13_0 : All Tryz.prog (.code c13_0) cx13 l13_0.st K13 = true := seqs_cut noNum prims10_ok mixed (l := l13_1) 4 c13_0 l13_0.st (by kernel_rfl) p116 a13_1
theorem body13 : Tryz.f19.body = some c13_0 := by kernel_rfl
theorem met13 : Ex.Met Tryz.prog 19 (litP l13_0 79 r13) := (by first | exact met_lit noNum Tryz.func19 body13 a13_0 | (show Ex.Met _ _ (litP _ Tryz.ntmps19 _); exact met_lit noNum Tryz.func19 body13 a13_0))
theorem prims12_ok : PrimOk Tryz.prog prims12 := primOk_or met13 prims11_ok
theorem a16_7 : All Tryz.prog (.code c16_5) cx16 l16_5.st K16 = true := all_run noNum prims12_ok mixed p131
theorem a16_6 : All Tryz.prog (.code c16_4) cx16 l16_4.st K16 = true := seqs_cut noNum prims12_ok mixed (l := l16_5) 1 c16_4 l16_4.st (by kernel_rfl) p130 a16_7
theorem a16_5 : All Tryz.prog (.code c16_3) cx16 l16_3.st (blockX 0 (thenX (All Tryz.prog) (rgt c16_1) cx16 K16)) = true := loop_end noNum prims12_ok mixed p129 (then_lit a16_6)
theorem a16_4 : All Tryz.prog (.code c16_3) cx16 l16_2.st (blockX 0 (thenX (All Tryz.prog) (rgt c16_1) cx16 K16)) = true := loop_cut noNum prims12_ok mixed (by kernel_rfl) a16_5 6 l16_2.st p128
theorem a16_3 : All Tryz.prog (.code c16_3) cx16 l16_1.st (blockX 0 (thenX (All Tryz.prog) (rgt c16_1) cx16 K16)) = true := loop_cut noNum prims12_ok mixed (by kernel_rfl) a16_4 6 l16_1.st p127
theorem a16_2 : All Tryz.prog (.code c16_2) cx16 l16_1.st (thenX (All Tryz.prog) (rgt c16_1) cx16 K16) = true := block_in (by kernel_rfl) a16_3
theorem a16_1 : All Tryz.prog (.code c16_1) cx16 l16_1.st K16 = true := seq_left (by kernel_rfl) a16_2
theorem a16_0 : All Tryz.prog (.code c16_0) cx16 l16_0.st K16 = true := seqs_cut noNum prims12_ok mixed (l := l16_1) 2 c16_0 l16_0.st (by kernel_rfl) p126 a16_1
theorem body16 : Tryz.f52.body = some c16_0 := by kernel_rfl
theorem met16 : Ex.Met Tryz.prog 52 (litP l16_0 28 r16) := (by first | exact met_lit noNum Tryz.func52 body16 a16_0 | (show Ex.Met _ _ (litP _ Tryz.ntmps52 _); exact met_lit noNum Tryz.func52 body16 a16_0))
theorem prims13_ok : PrimOk Tryz.prog prims13 := primOk_or met16 prims12_ok
theorem a15_11 : All Tryz.prog (.code c15_9) cx15 l15_9.st K15 = true := all_run noNum prims13_ok mixed p139
theorem a15_10 : All Tryz.prog (.code c15_8) cx15 l15_8.st K15 = true := seqs_cut noNum prims13_ok mixed (l := l15_9) 7 c15_8 l15_8.st (by kernel_rfl) p138 a15_11
theorem a15_9 : All Tryz.prog (.code c15_7) cx15 l15_7.st (blockX 8 (thenX (All Tryz.prog) (rgt c15_5) cx15 K15)) = true := loop_end noNum prims13_ok mixed p137 (then_lit a15_10)
theorem a15_8 : All Tryz.prog (.code c15_7) cx15 l15_6.st (blockX 8 (thenX (All Tryz.prog) (rgt c15_5) cx15 K15)) = true := loop_cut noNum prims13_ok mixed (by kernel_rfl) a15_9 1 l15_6.st p136
theorem a15_7 : All Tryz.prog (.code c15_7) cx15 l15_5.st (blockX 8 (thenX (All Tryz.prog) (rgt c15_5) cx15 K15)) = true := loop_cut noNum prims13_ok mixed (by kernel_rfl) a15_8 1 l15_5.st p135
theorem a15_6 : All Tryz.prog (.code c15_6) cx15 l15_5.st (thenX (All Tryz.prog) (rgt c15_5) cx15 K15) = true := block_in (by kernel_rfl) a15_7
theorem a15_5 : All Tryz.prog (.code c15_5) cx15 l15_5.st K15 = true := seq_left (by kernel_rfl) a15_6
theorem a15_4 : All Tryz.prog (.code c15_4) cx15 l15_4.st K15 = true := seqs_cut noNum prims13_ok mixed (l := l15_5) 1 c15_4 l15_4.st (by kernel_rfl) p134 a15_5
theorem a15_3 : All Tryz.prog (.code c15_3) cx15 l15_3.st K15 = true := seqs_cut noNum prims13_ok mixed (l := l15_4) 1 c15_3 l15_3.st (by kernel_rfl) p133 a15_4
theorem a15_2 : All Tryz.prog (.code c15_2) cx15 l15_2.st K15 = true := seqs_cut noNum prims13_ok mixed (l := l15_3) 1 c15_2 l15_2.st (by kernel_rfl) p132 a15_3
theorem a15_1 : All Tryz.prog (.code c15_1) cx15 l15_1.st K15 = true := seqs_cut noNum prims12_ok mixed (l := l15_2) 1 c15_1 l15_1.st (by kernel_rfl) p125 a15_2
theorem a15_0 : All Tryz.prog (.code c15_0) cx15 l15_0.st K15 = true := seqs_cut noNum prims12_ok mixed (l := l15_1) 13 c15_0 l15_0.st (by kernel_rfl) p124 a15_1
theorem body15 : Tryz.f17.body = some c15_0 := by kernel_rfl
theorem met15 : Ex.Met Tryz.prog 17 (litP l15_0 268 r15) := (by first | exact met_lit noNum Tryz.func17 body15 a15_0 | (show Ex.Met _ _ (litP _ Tryz.ntmps17 _); exact met_lit noNum Tryz.func17 body15 a15_0))
theorem prims14_ok : PrimOk Tryz.prog prims14 := primOk_or met15 prims13_ok
theorem a12_3 : All Tryz.prog (.code c12_3) cx12 l12_3.st K12 = true := all_run noNum prims14_ok mixed p141
theorem a12_2 : All Tryz.prog (.code c12_2) cx12 l12_2.st K12 = true := seqs_cut noNum prims14_ok mixed (l := l12_3) 1 c12_2 l12_2.st (by kernel_rfl) p140 a12_3
theorem a12_1 : All Tryz.prog (.code c12_1) cx12 l12_1.st K12 = true := seqs_cut noNum prims12_ok mixed (l := l12_2) 1 c12_1 l12_1.st (by kernel_rfl) p123 a12_2
theorem a12_0 : All Tryz.prog (.code c12_0) cx12 l12_0.st K12 = true := seqs_cut noNum prims10_ok mixed (l := l12_1) 7 c12_0 l12_0.st (by kernel_rfl) p115 a12_1
theorem body12 : Tryz.f6.body = some c12_0 := by kernel_rfl
theorem met12 : Ex.Met Tryz.prog 6 (litP l12_0 68 r12) := (by first | exact met_lit noNum Tryz.func6 body12 a12_0 | (show Ex.Met _ _ (litP _ Tryz.ntmps6 _); exact met_lit noNum Tryz.func6 body12 a12_0))
theorem prims15_ok : PrimOk Tryz.prog prims15 := primOk_or met12 prims14_ok
theorem a19_2 : All Tryz.prog (.code c19_2) cx19 l19_2.st K19 = true := all_run noNum prims15_ok mixed p150
theorem a19_1 : All Tryz.prog (.code c19_1) cx19 l19_1.st K19 = true := seqs_cut noNum prims15_ok mixed (l := l19_2) 4 c19_1 l19_1.st (by kernel_rfl) p149 a19_2
theorem a19_0 : All Tryz.prog (.code c19_0) cx19 l19_0.st K19 = true := seqs_cut noNum prims15_ok mixed (l := l19_1) 2 c19_0 l19_0.st (by kernel_rfl) p148 a19_1
theorem body19 : Tryz.f40.body = some c19_0 := by kernel_rfl
theorem met19 : Ex.Met Tryz.prog 40 (litP l19_0 75 r19) := (by first | exact met_lit noNum Tryz.func40 body19 a19_0 | (show Ex.Met _ _ (litP _ Tryz.ntmps40 _); exact met_lit noNum Tryz.func40 body19 a19_0))
theorem prims16_ok : PrimOk Tryz.prog prims16 := primOk_or met19 prims15_ok
theorem a18_3 : All Tryz.prog (.code c18_3) cx18 l18_3.st K18 = true := all_run noNum prims16_ok mixed p153
theorem a18_2 : All Tryz.prog (.code c18_2) cx18 l18_2.st K18 = true := seqs_cut noNum prims16_ok mixed (l := l18_3) 5 c18_2 l18_2.st (by kernel_rfl) p152 a18_3
theorem a18_1 : All Tryz.prog (.code c18_1) cx18 l18_1.st K18 = true := seqs_cut noNum prims16_ok mixed (l := l18_2) 1 c18_1 l18_1.st (by kernel_rfl) p151 a18_2
theorem a18_0 : All Tryz.prog (.code c18_0) cx18 l18_0.st K18 = true := seqs_cut noNum prims15_ok mixed (l := l18_1) 4 c18_0 l18_0.st (by kernel_rfl) p147 a18_1
theorem body18 : Tryz.f19.body = some c18_0 := by kernel_rfl
theorem met18 : Ex.Met Tryz.prog 19 (litP l18_0 79 r18) := (by first | exact met_lit noNum Tryz.func19 body18 a18_0 | (show Ex.Met _ _ (litP _ Tryz.ntmps19 _); exact met_lit noNum Tryz.func19 body18 a18_0))
theorem prims17_ok : PrimOk Tryz.prog prims17 := primOk_or met18 prims16_ok
theorem a17_3 : All Tryz.prog (.code c17_3) cx17 l17_3.st K17 = true := all_run noNum prims17_ok mixed p156
theorem a17_2 : All Tryz.prog (.code c17_2) cx17 l17_2.st K17 = true := seqs_cut noNum prims17_ok mixed (l := l17_3) 1 c17_2 l17_2.st (by kernel_rfl) p155 a17_3
theorem a17_1 : All Tryz.prog (.code c17_1) cx17 l17_1.st K17 = true := seqs_cut noNum prims17_ok mixed (l := l17_2) 1 c17_1 l17_1.st (by kernel_rfl) p154 a17_2
theorem a17_0 : All Tryz.prog (.code c17_0) cx17 l17_0.st K17 = true := seqs_cut noNum prims15_ok mixed (l := l17_1) 7 c17_0 l17_0.st (by kernel_rfl) p146 a17_1
theorem body17 : Tryz.f6.body = some c17_0 := by kernel_rfl
theorem met17 : Ex.Met Tryz.prog 6 (litP l17_0 68 r17) := (by first | exact met_lit noNum Tryz.func6 body17 a17_0 | (show Ex.Met _ _ (litP _ Tryz.ntmps6 _); exact met_lit noNum Tryz.func6 body17 a17_0))
theorem prims18_ok : PrimOk Tryz.prog prims18 := primOk_or met17 prims17_ok
theorem a22_2 : All Tryz.prog (.code c22_2) cx22 l22_2.st K22 = true := all_run noNum prims18_ok mixed p165
theorem a22_1 : All Tryz.prog (.code c22_1) cx22 l22_1.st K22 = true := seqs_cut noNum prims18_ok mixed (l := l22_2) 4 c22_1 l22_1.st (by kernel_rfl) p164 a22_2
theorem a22_0 : All Tryz.prog (.code c22_0) cx22 l22_0.st K22 = true := seqs_cut noNum prims18_ok mixed (l := l22_1) 2 c22_0 l22_0.st (by kernel_rfl) p163 a22_1
theorem body22 : Tryz.f40.body = some c22_0 := by kernel_rfl
theorem met22 : Ex.Met Tryz.prog 40 (litP l22_0 75 r22) := (by first | exact met_lit noNum Tryz.func40 body22 a22_0 | (show Ex.Met _ _ (litP _ Tryz.ntmps40 _); exact met_lit noNum Tryz.func40 body22 a22_0))
theorem prims19_ok : PrimOk Tryz.prog prims19 := primOk_or met22 prims18_ok
theorem a21_3 : All Tryz.prog (.code c21_3) cx21 l21_3.st K21 = true := all_run noNum prims19_ok mixed p168
theorem a21_2 : All Tryz.prog (.code c21_2) cx21 l21_2.st K21 = true := seqs_cut noNum prims19_ok mixed (l := l21_3) 5 c21_2 l21_2.st (by kernel_rfl) p167 a21_3
theorem a21_1 : All Tryz.prog (.code c21_1) cx21 l21_1.st K21 = true := seqs_cut noNum prims19_ok mixed (l := l21_2) 1 c21_1 l21_1.st (by kernel_rfl) p166 a21_2
theorem a21_0 : All Tryz.prog (.code c21_0) cx21 l21_0.st K21 = true := seqs_cut noNum prims18_ok mixed (l := l21_1) 4 c21_0 l21_0.st (by kernel_rfl) p162 a21_1
theorem body21 : Tryz.f19.body = some c21_0 := by kernel_rfl
theorem met21 : Ex.Met Tryz.prog 19 (litP l21_0 79 r21) := (by first | exact met_lit noNum Tryz.func19 body21 a21_0 | (show Ex.Met _ _ (litP _ Tryz.ntmps19 _); exact met_lit noNum Tryz.func19 body21 a21_0))
theorem prims20_ok : PrimOk Tryz.prog prims20 := primOk_or met21 prims19_ok
theorem a20_3 : All Tryz.prog (.code c20_3) cx20 l20_3.st K20 = true := all_run noNum prims20_ok mixed p171
theorem a20_2 : All Tryz.prog (.code c20_2) cx20 l20_2.st K20 = true := seqs_cut noNum prims20_ok mixed (l := l20_3) 1 c20_2 l20_2.st (by kernel_rfl) p170 a20_3
theorem a20_1 : All Tryz.prog (.code c20_1) cx20 l20_1.st K20 = true := seqs_cut noNum prims20_ok mixed (l := l20_2) 1 c20_1 l20_1.st (by kernel_rfl) p169 a20_2
theorem a20_0 : All Tryz.prog (.code c20_0) cx20 l20_0.st K20 = true := seqs_cut noNum prims18_ok mixed (l := l20_1) 7 c20_0 l20_0.st (by kernel_rfl) p161 a20_1
theorem body20 : Tryz.f6.body = some c20_0 := by kernel_rfl
theorem met20 : Ex.Met Tryz.prog 6 (litP l20_0 68 r20) := (by first | exact met_lit noNum Tryz.func6 body20 a20_0 | (show Ex.Met _ _ (litP _ Tryz.ntmps6 _); exact met_lit noNum Tryz.func6 body20 a20_0))
theorem prims21_ok : PrimOk Tryz.prog prims21 := primOk_or met20 prims20_ok
theorem a25_2 : All Tryz.prog (.code c25_2) cx25 l25_2.st K25 = true := all_run noNum prims21_ok mixed p180
theorem a25_1 : All Tryz.prog (.code c25_1) cx25 l25_1.st K25 = true := seqs_cut noNum prims21_ok mixed (l := l25_2) 4 c25_1 l25_1.st (by kernel_rfl) p179 a25_2
theorem a25_0 : All Tryz.prog (.code c25_0) cx25 l25_0.st K25 = true := seqs_cut noNum prims21_ok mixed (l := l25_1) 2 c25_0 l25_0.st (by kernel_rfl) p178 a25_1
theorem body25 : Tryz.f40.body = some c25_0 := by kernel_rfl
theorem met25 : Ex.Met Tryz.prog 40 (litP l25_0 75 r25) := (by first | exact met_lit noNum Tryz.func40 body25 a25_0 | (show Ex.Met _ _ (litP _ Tryz.ntmps40 _); exact met_lit noNum Tryz.func40 body25 a25_0))
theorem prims22_ok : PrimOk Tryz.prog prims22 := primOk_or met25 prims21_ok
theorem a24_3 : All Tryz.prog (.code c24_3) cx24 l24_3.st K24 = true := all_run noNum prims22_ok mixed p183
theorem a24_2 : All Tryz.prog (.code c24_2) cx24 l24_2.st K24 = true := seqs_cut noNum prims22_ok mixed (l := l24_3) 5 c24_2 l24_2.st (by kernel_rfl) p182 a24_3
theorem a24_1 : All Tryz.prog (.code c24_1) cx24 l24_1.st K24 = true := seqs_cut noNum prims22_ok mixed (l := l24_2) 1 c24_1 l24_1.st (by kernel_rfl) p181 a24_2
theorem a24_0 : All Tryz.prog (.code c24_0) cx24 l24_0.st K24 = true := seqs_cut noNum prims21_ok mixed (l := l24_1) 4 c24_0 l24_0.st (by kernel_rfl) p177 a24_1
theorem body24 : Tryz.f19.body = some c24_0 := by kernel_rfl
theorem met24 : Ex.Met Tryz.prog 19 (litP l24_0 79 r24) := (by first | exact met_lit noNum Tryz.func19 body24 a24_0 | (show Ex.Met _ _ (litP _ Tryz.ntmps19 _); exact met_lit noNum Tryz.func19 body24 a24_0))
theorem prims23_ok : PrimOk Tryz.prog prims23 := primOk_or met24 prims22_ok
theorem a23_3 : All Tryz.prog (.code c23_3) cx23 l23_3.st K23 = true := all_run noNum prims23_ok mixed p186
theorem a23_2 : All Tryz.prog (.code c23_2) cx23 l23_2.st K23 = true := seqs_cut noNum prims23_ok mixed (l := l23_3) 1 c23_2 l23_2.st (by kernel_rfl) p185 a23_3
theorem a23_1 : All Tryz.prog (.code c23_1) cx23 l23_1.st K23 = true := seqs_cut noNum prims23_ok mixed (l := l23_2) 1 c23_1 l23_1.st (by kernel_rfl) p184 a23_2
theorem a23_0 : All Tryz.prog (.code c23_0) cx23 l23_0.st K23 = true := seqs_cut noNum prims21_ok mixed (l := l23_1) 7 c23_0 l23_0.st (by kernel_rfl) p176 a23_1
theorem body23 : Tryz.f6.body = some c23_0 := by kernel_rfl
theorem met23 : Ex.Met Tryz.prog 6 (litP l23_0 68 r23) := (by first | exact met_lit noNum Tryz.func6 body23 a23_0 | (show Ex.Met _ _ (litP _ Tryz.ntmps6 _); exact met_lit noNum Tryz.func6 body23 a23_0))
theorem prims24_ok : PrimOk Tryz.prog prims24 := primOk_or met23 prims23_ok
theorem a28_2 : All Tryz.prog (.code c28_2) cx28 l28_2.st K28 = true := all_run noNum prims24_ok mixed p195
theorem a28_1 : All Tryz.prog (.code c28_1) cx28 l28_1.st K28 = true := seqs_cut noNum prims24_ok mixed (l := l28_2) 4 c28_1 l28_1.st (by kernel_rfl) p194 a28_2
theorem a28_0 : All Tryz.prog (.code c28_0) cx28 l28_0.st K28 = true := seqs_cut noNum prims24_ok mixed (l := l28_1) 2 c28_0 l28_0.st (by kernel_rfl) p193 a28_1
theorem body28 : Tryz.f40.body = some c28_0 := by kernel_rfl
theorem met28 : Ex.Met Tryz.prog 40 (litP l28_0 75 r28) := (by first | exact met_lit noNum Tryz.func40 body28 a28_0 | (show Ex.Met _ _ (litP _ Tryz.ntmps40 _); exact met_lit noNum Tryz.func40 body28 a28_0))
theorem prims25_ok : PrimOk Tryz.prog prims25 := primOk_or met28 prims24_ok
theorem a27_3 : All Tryz.prog (.code c27_3) cx27 l27_3.st K27 = true := all_run noNum prims25_ok mixed p198
theorem a27_2 : All Tryz.prog (.code c27_2) cx27 l27_2.st K27 = true := seqs_cut noNum prims25_ok mixed (l := l27_3) 5 c27_2 l27_2.st (by kernel_rfl) p197 a27_3
theorem a27_1 : All Tryz.prog (.code c27_1) cx27 l27_1.st K27 = true := seqs_cut noNum prims25_ok mixed (l := l27_2) 1 c27_1 l27_1.st (by kernel_rfl) p196 a27_2
theorem a27_0 : All Tryz.prog (.code c27_0) cx27 l27_0.st K27 = true := seqs_cut noNum prims24_ok mixed (l := l27_1) 4 c27_0 l27_0.st (by kernel_rfl) p192 a27_1
theorem body27 : Tryz.f19.body = some c27_0 := by kernel_rfl
theorem met27 : Ex.Met Tryz.prog 19 (litP l27_0 79 r27) := (by first | exact met_lit noNum Tryz.func19 body27 a27_0 | (show Ex.Met _ _ (litP _ Tryz.ntmps19 _); exact met_lit noNum Tryz.func19 body27 a27_0))
theorem prims26_ok : PrimOk Tryz.prog prims26 := primOk_or met27 prims25_ok
theorem a30_7 : All Tryz.prog (.code c30_5) cx30 l30_5.st K30 = true := all_run noNum prims26_ok mixed p207
theorem a30_6 : All Tryz.prog (.code c30_4) cx30 l30_4.st K30 = true := seqs_cut noNum prims26_ok mixed (l := l30_5) 1 c30_4 l30_4.st (by kernel_rfl) p206 a30_7
theorem a30_5 : All Tryz.prog (.code c30_3) cx30 l30_3.st (blockX 0 (thenX (All Tryz.prog) (rgt c30_1) cx30 K30)) = true := loop_end noNum prims26_ok mixed p205 (then_lit a30_6)
theorem a30_4 : All Tryz.prog (.code c30_3) cx30 l30_2.st (blockX 0 (thenX (All Tryz.prog) (rgt c30_1) cx30 K30)) = true := loop_cut noNum prims26_ok mixed (by kernel_rfl) a30_5 6 l30_2.st p204
theorem a30_3 : All Tryz.prog (.code c30_3) cx30 l30_1.st (blockX 0 (thenX (All Tryz.prog) (rgt c30_1) cx30 K30)) = true := loop_cut noNum prims26_ok mixed (by kernel_rfl) a30_4 6 l30_1.st p203
theorem a30_2 : All Tryz.prog (.code c30_2) cx30 l30_1.st (thenX (All Tryz.prog) (rgt c30_1) cx30 K30) = true := block_in (by kernel_rfl) a30_3
theorem a30_1 : All Tryz.prog (.code c30_1) cx30 l30_1.st K30 = true := seq_left (by kernel_rfl) a30_2
theorem a30_0 : All Tryz.prog (.code c30_0) cx30 l30_0.st K30 = true := seqs_cut noNum prims26_ok mixed (l := l30_1) 2 c30_0 l30_0.st (by kernel_rfl) p202 a30_1
theorem body30 : Tryz.f52.body = some c30_0 := by kernel_rfl
theorem met30 : Ex.Met Tryz.prog 52 (litP l30_0 28 r30) := (by first | exact met_lit noNum Tryz.func52 body30 a30_0 | (show Ex.Met _ _ (litP _ Tryz.ntmps52 _); exact met_lit noNum Tryz.func52 body30 a30_0))
theorem prims27_ok : PrimOk Tryz.prog prims27 := primOk_or met30 prims26_ok
theorem a29_11 : All Tryz.prog (.code c29_9) cx29 l29_9.st K29 = true := all_run noNum prims27_ok mixed p215
theorem a29_10 : All Tryz.prog (.code c29_8) cx29 l29_8.st K29 = true := seqs_cut noNum prims27_ok mixed (l := l29_9) 7 c29_8 l29_8.st (by kernel_rfl) p214 a29_11
theorem a29_9 : All Tryz.prog (.code c29_7) cx29 l29_7.st (blockX 8 (thenX (All Tryz.prog) (rgt c29_5) cx29 K29)) = true := loop_end noNum prims27_ok mixed p213 (then_lit a29_10)
theorem a29_8 : All Tryz.prog (.code c29_7) cx29 l29_6.st (blockX 8 (thenX (All Tryz.prog) (rgt c29_5) cx29 K29)) = true := loop_cut noNum prims27_ok mixed (by kernel_rfl) a29_9 1 l29_6.st p212
theorem a29_7 : All Tryz.prog (.code c29_7) cx29 l29_5.st (blockX 8 (thenX (All Tryz.prog) (rgt c29_5) cx29 K29)) = true := loop_cut noNum prims27_ok mixed (by kernel_rfl) a29_8 1 l29_5.st p211
theorem a29_6 : All Tryz.prog (.code c29_6) cx29 l29_5.st (thenX (All Tryz.prog) (rgt c29_5) cx29 K29) = true := block_in (by kernel_rfl) a29_7
theorem a29_5 : All Tryz.prog (.code c29_5) cx29 l29_5.st K29 = true := seq_left (by kernel_rfl) a29_6
theorem a29_4 : All Tryz.prog (.code c29_4) cx29 l29_4.st K29 = true := seqs_cut noNum prims27_ok mixed (l := l29_5) 1 c29_4 l29_4.st (by kernel_rfl) p210 a29_5
theorem a29_3 : All Tryz.prog (.code c29_3) cx29 l29_3.st K29 = true := seqs_cut noNum prims27_ok mixed (l := l29_4) 1 c29_3 l29_3.st (by kernel_rfl) p209 a29_4
theorem a29_2 : All Tryz.prog (.code c29_2) cx29 l29_2.st K29 = true := seqs_cut noNum prims27_ok mixed (l := l29_3) 1 c29_2 l29_2.st (by kernel_rfl) p208 a29_3
theorem a29_1 : All Tryz.prog (.code c29_1) cx29 l29_1.st K29 = true := seqs_cut noNum prims26_ok mixed (l := l29_2) 1 c29_1 l29_1.st (by kernel_rfl) p201 a29_2
theorem a29_0 : All Tryz.prog (.code c29_0) cx29 l29_0.st K29 = true := seqs_cut noNum prims26_ok mixed (l := l29_1) 13 c29_0 l29_0.st (by kernel_rfl) p200 a29_1
theorem body29 : Tryz.f17.body = some c29_0 := by kernel_rfl
theorem met29 : Ex.Met Tryz.prog 17 (litP l29_0 268 r29) := (by first | exact met_lit noNum Tryz.func17 body29 a29_0 | (show Ex.Met _ _ (litP _ Tryz.ntmps17 _); exact met_lit noNum Tryz.func17 body29 a29_0))
theorem prims28_ok : PrimOk Tryz.prog prims28 := primOk_or met29 prims27_ok
theorem a26_3 : All Tryz.prog (.code c26_3) cx26 l26_3.st K26 = true := all_run noNum prims28_ok mixed p217
theorem a26_2 : All Tryz.prog (.code c26_2) cx26 l26_2.st K26 = true := seqs_cut noNum prims28_ok mixed (l := l26_3) 1 c26_2 l26_2.st (by kernel_rfl) p216 a26_3
theorem a26_1 : All Tryz.prog (.code c26_1) cx26 l26_1.st K26 = true := seqs_cut noNum prims26_ok mixed (l := l26_2) 1 c26_1 l26_1.st (by kernel_rfl) p199 a26_2
theorem a26_0 : All Tryz.prog (.code c26_0) cx26 l26_0.st K26 = true := seqs_cut noNum prims24_ok mixed (l := l26_1) 7 c26_0 l26_0.st (by kernel_rfl) p191 a26_1
theorem body26 : Tryz.f6.body = some c26_0 := by kernel_rfl
theorem met26 : Ex.Met Tryz.prog 6 (litP l26_0 68 r26) := (by first | exact met_lit noNum Tryz.func6 body26 a26_0 | (show Ex.Met _ _ (litP _ Tryz.ntmps6 _); exact met_lit noNum Tryz.func6 body26 a26_0))
theorem prims29_ok : PrimOk Tryz.prog prims29 := primOk_or met26 prims28_ok
theorem a2_62 : All Tryz.prog (.code c2_62) cx2 l2_36.st K2 = true := all_run noNum prims29_ok mixed p222
theorem a2_61 : All Tryz.prog (.code c2_61) cx2 l2_35.st K2 = true := seqs_cut noNum prims29_ok mixed (l := l2_36) 1 c2_61 l2_35.st (by kernel_rfl) p221 a2_62
theorem a2_60 : All Tryz.prog (.code c2_60) cx2 l2_34.st (blockX 0 (thenX (All Tryz.prog) (rgt c2_1) cx2 K2)) = true := loop_end noNum prims29_ok mixed p220 (then_lit a2_61)
theorem a2_59 : All Tryz.prog (.code c2_59) cx2 l2_33.st (thenX (All Tryz.prog) c2_53 cx2 (blockX 0 (thenX (All Tryz.prog) (rgt c2_1) cx2 K2))) = true := pass_end noNum prims29_ok mixed p219 (fun σ' hl => all_lit hl a2_60)
theorem a2_58 : All Tryz.prog (.code c2_58) cx2 l2_32.st (blockX 1 (thenX (All Tryz.prog) (rgt c2_55) cx2 (thenX (All Tryz.prog) c2_53 cx2 (blockX 0 (thenX (All Tryz.prog) (rgt c2_1) cx2 K2))))) = true := pass_end noNum prims29_ok mixed p218 (fun σ' hl => all_lit hl a2_59)
theorem a2_57 : All Tryz.prog (.code c2_57) cx2 l2_31.st (blockX 1 (thenX (All Tryz.prog) (rgt c2_55) cx2 (thenX (All Tryz.prog) c2_53 cx2 (blockX 0 (thenX (All Tryz.prog) (rgt c2_1) cx2 K2))))) = true := seqs_cut noNum prims24_ok mixed (l := l2_32) 2 c2_57 l2_31.st (by kernel_rfl) p190 a2_58
theorem a2_56 : All Tryz.prog (.code c2_56) cx2 l2_31.st (thenX (All Tryz.prog) (rgt c2_55) cx2 (thenX (All Tryz.prog) c2_53 cx2 (blockX 0 (thenX (All Tryz.prog) (rgt c2_1) cx2 K2)))) = true := block_in (by kernel_rfl) a2_57
theorem a2_55 : All Tryz.prog (.code c2_55) cx2 l2_31.st (thenX (All Tryz.prog) c2_53 cx2 (blockX 0 (thenX (All Tryz.prog) (rgt c2_1) cx2 K2))) = true := seq_left (by kernel_rfl) a2_56
theorem a2_54 : All Tryz.prog (.code c2_54) cx2 l2_30.st (thenX (All Tryz.prog) c2_53 cx2 (blockX 0 (thenX (All Tryz.prog) (rgt c2_1) cx2 K2))) = true := seqs_cut noNum prims24_ok mixed (l := l2_31) 1 c2_54 l2_30.st (by kernel_rfl) p189 a2_55
theorem a2_53 : All Tryz.prog (.code c2_53) cx2 l2_30.st (blockX 0 (thenX (All Tryz.prog) (rgt c2_1) cx2 K2)) = true := loop_open (by kernel_rfl) a2_54
theorem a2_52 : All Tryz.prog (.code c2_52) cx2 l2_29.st (thenX (All Tryz.prog) c2_46 cx2 (blockX 0 (thenX (All Tryz.prog) (rgt c2_1) cx2 K2))) = true := pass_end noNum prims24_ok mixed p188 (fun σ' hl => all_lit hl a2_53)
theorem a2_51 : All Tryz.prog (.code c2_51) cx2 l2_28.st (blockX 1 (thenX (All Tryz.prog) (rgt c2_48) cx2 (thenX (All Tryz.prog) c2_46 cx2 (blockX 0 (thenX (All Tryz.prog) (rgt c2_1) cx2 K2))))) = true := pass_end noNum prims24_ok mixed p187 (fun σ' hl => all_lit hl a2_52)
theorem a2_50 : All Tryz.prog (.code c2_50) cx2 l2_27.st (blockX 1 (thenX (All Tryz.prog) (rgt c2_48) cx2 (thenX (All Tryz.prog) c2_46 cx2 (blockX 0 (thenX (All Tryz.prog) (rgt c2_1) cx2 K2))))) = true := seqs_cut noNum prims21_ok mixed (l := l2_28) 2 c2_50 l2_27.st (by kernel_rfl) p175 a2_51
theorem a2_49 : All Tryz.prog (.code c2_49) cx2 l2_27.st (thenX (All Tryz.prog) (rgt c2_48) cx2 (thenX (All Tryz.prog) c2_46 cx2 (blockX 0 (thenX (All Tryz.prog) (rgt c2_1) cx2 K2)))) = true := block_in (by kernel_rfl) a2_50
theorem a2_48 : All Tryz.prog (.code c2_48) cx2 l2_27.st (thenX (All Tryz.prog) c2_46 cx2 (blockX 0 (thenX (All Tryz.prog) (rgt c2_1) cx2 K2))) = true := seq_left (by kernel_rfl) a2_49
theorem a2_47 : All Tryz.prog (.code c2_47) cx2 l2_26.st (thenX (All Tryz.prog) c2_46 cx2 (blockX 0 (thenX (All Tryz.prog) (rgt c2_1) cx2 K2))) = true := seqs_cut noNum prims21_ok mixed (l := l2_27) 1 c2_47 l2_26.st (by kernel_rfl) p174 a2_48
theorem a2_46 : All Tryz.prog (.code c2_46) cx2 l2_26.st (blockX 0 (thenX (All Tryz.prog) (rgt c2_1) cx2 K2)) = true := loop_open (by kernel_rfl) a2_47
theorem a2_45 : All Tryz.prog (.code c2_45) cx2 l2_25.st (thenX (All Tryz.prog) c2_39 cx2 (blockX 0 (thenX (All Tryz.prog) (rgt c2_1) cx2 K2))) = true := pass_end noNum prims21_ok mixed p173 (fun σ' hl => all_lit hl a2_46)
theorem a2_44 : All Tryz.prog (.code c2_44) cx2 l2_24.st (blockX 1 (thenX (All Tryz.prog) (rgt c2_41) cx2 (thenX (All Tryz.prog) c2_39 cx2 (blockX 0 (thenX (All Tryz.prog) (rgt c2_1) cx2 K2))))) = true := pass_end noNum prims21_ok mixed p172 (fun σ' hl => all_lit hl a2_45)
theorem a2_43 : All Tryz.prog (.code c2_43) cx2 l2_23.st (blockX 1 (thenX (All Tryz.prog) (rgt c2_41) cx2 (thenX (All Tryz.prog) c2_39 cx2 (blockX 0 (thenX (All Tryz.prog) (rgt c2_1) cx2 K2))))) = true := seqs_cut noNum prims18_ok mixed (l := l2_24) 2 c2_43 l2_23.st (by kernel_rfl) p160 a2_44
theorem a2_42 : All Tryz.prog (.code c2_42) cx2 l2_23.st (thenX (All Tryz.prog) (rgt c2_41) cx2 (thenX (All Tryz.prog) c2_39 cx2 (blockX 0 (thenX (All Tryz.prog) (rgt c2_1) cx2 K2)))) = true := block_in (by kernel_rfl) a2_43
theorem a2_41 : All Tryz.prog (.code c2_41) cx2 l2_23.st (thenX (All Tryz.prog) c2_39 cx2 (blockX 0 (thenX (All Tryz.prog) (rgt c2_1) cx2 K2))) = true := seq_left (by kernel_rfl) a2_42
theorem a2_40 : All Tryz.prog (.code c2_40) cx2 l2_22.st (thenX (All Tryz.prog) c2_39 cx2 (blockX 0 (thenX (All Tryz.prog) (rgt c2_1) cx2 K2))) = true := seqs_cut noNum prims18_ok mixed (l := l2_23) 1 c2_40 l2_22.st (by kernel_rfl) p159 a2_41
theorem a2_39 : All Tryz.prog (.code c2_39) cx2 l2_22.st (blockX 0 (thenX (All Tryz.prog) (rgt c2_1) cx2 K2)) = true := loop_open (by kernel_rfl) a2_40
theorem a2_38 : All Tryz.prog (.code c2_38) cx2 l2_21.st (thenX (All Tryz.prog) c2_32 cx2 (blockX 0 (thenX (All Tryz.prog) (rgt c2_1) cx2 K2))) = true := pass_end noNum prims18_ok mixed p158 (fun σ' hl => all_lit hl a2_39)
theorem a2_37 : All Tryz.prog (.code c2_37) cx2 l2_20.st (blockX 1 (thenX (All Tryz.prog) (rgt c2_34) cx2 (thenX (All Tryz.prog) c2_32 cx2 (blockX 0 (thenX (All Tryz.prog) (rgt c2_1) cx2 K2))))) = true := pass_end noNum prims18_ok mixed p157 (fun σ' hl => all_lit hl a2_38)
theorem a2_36 : All Tryz.prog (.code c2_36) cx2 l2_19.st (blockX 1 (thenX (All Tryz.prog) (rgt c2_34) cx2 (thenX (All Tryz.prog) c2_32 cx2 (blockX 0 (thenX (All Tryz.prog) (rgt c2_1) cx2 K2))))) = true := seqs_cut noNum prims15_ok mixed (l := l2_20) 2 c2_36 l2_19.st (by kernel_rfl) p145 a2_37
theorem a2_35 : All Tryz.prog (.code c2_35) cx2 l2_19.st (thenX (All Tryz.prog) (rgt c2_34) cx2 (thenX (All Tryz.prog) c2_32 cx2 (blockX 0 (thenX (All Tryz.prog) (rgt c2_1) cx2 K2)))) = true := block_in (by kernel_rfl) a2_36
theorem a2_34 : All Tryz.prog (.code c2_34) cx2 l2_19.st (thenX (All Tryz.prog) c2_32 cx2 (blockX 0 (thenX (All Tryz.prog) (rgt c2_1) cx2 K2))) = true := seq_left (by kernel_rfl) a2_35
theorem a2_33 : All Tryz.prog (.code c2_33) cx2 l2_18.st (thenX (All Tryz.prog) c2_32 cx2 (blockX 0 (thenX (All Tryz.prog) (rgt c2_1) cx2 K2))) = true := seqs_cut noNum prims15_ok mixed (l := l2_19) 1 c2_33 l2_18.st (by kernel_rfl) p144 a2_34
theorem a2_32 : All Tryz.prog (.code c2_32) cx2 l2_18.st (blockX 0 (thenX (All Tryz.prog) (rgt c2_1) cx2 K2)) = true := loop_open (by kernel_rfl) a2_33
theorem a2_31 : All Tryz.prog (.code c2_31) cx2 l2_17.st (thenX (All Tryz.prog) c2_25 cx2 (blockX 0 (thenX (All Tryz.prog) (rgt c2_1) cx2 K2))) = true := pass_end noNum prims15_ok mixed p143 (fun σ' hl => all_lit hl a2_32)
theorem a2_30 : All Tryz.prog (.code c2_30) cx2 l2_16.st (blockX 1 (thenX (All Tryz.prog) (rgt c2_27) cx2 (thenX (All Tryz.prog) c2_25 cx2 (blockX 0 (thenX (All Tryz.prog) (rgt c2_1) cx2 K2))))) = true := pass_end noNum prims15_ok mixed p142 (fun σ' hl => all_lit hl a2_31)
theorem a2_29 : All Tryz.prog (.code c2_29) cx2 l2_15.st (blockX 1 (thenX (All Tryz.prog) (rgt c2_27) cx2 (thenX (All Tryz.prog) c2_25 cx2 (blockX 0 (thenX (All Tryz.prog) (rgt c2_1) cx2 K2))))) = true := seqs_cut noNum prims10_ok mixed (l := l2_16) 2 c2_29 l2_15.st (by kernel_rfl) p114 a2_30
theorem a2_28 : All Tryz.prog (.code c2_28) cx2 l2_15.st (thenX (All Tryz.prog) (rgt c2_27) cx2 (thenX (All Tryz.prog) c2_25 cx2 (blockX 0 (thenX (All Tryz.prog) (rgt c2_1) cx2 K2)))) = true := block_in (by kernel_rfl) a2_29
theorem a2_27 : All Tryz.prog (.code c2_27) cx2 l2_15.st (thenX (All Tryz.prog) c2_25 cx2 (blockX 0 (thenX (All Tryz.prog) (rgt c2_1) cx2 K2))) = true := seq_left (by kernel_rfl) a2_28
theorem a2_26 : All Tryz.prog (.code c2_26) cx2 l2_14.st (thenX (All Tryz.prog) c2_25 cx2 (blockX 0 (thenX (All Tryz.prog) (rgt c2_1) cx2 K2))) = true := seqs_cut noNum prims10_ok mixed (l := l2_15) 1 c2_26 l2_14.st (by kernel_rfl) p113 a2_27
theorem a2_25 : All Tryz.prog (.code c2_25) cx2 l2_14.st (blockX 0 (thenX (All Tryz.prog) (rgt c2_1) cx2 K2)) = true := loop_open (by kernel_rfl) a2_26
theorem a2_24 : All Tryz.prog (.code c2_24) cx2 l2_13.st (thenX (All Tryz.prog) c2_18 cx2 (blockX 0 (thenX (All Tryz.prog) (rgt c2_1) cx2 K2))) = true := pass_end noNum prims10_ok mixed p112 (fun σ' hl => all_lit hl a2_25)
theorem a2_23 : All Tryz.prog (.code c2_23) cx2 l2_12.st (blockX 1 (thenX (All Tryz.prog) (rgt c2_20) cx2 (thenX (All Tryz.prog) c2_18 cx2 (blockX 0 (thenX (All Tryz.prog) (rgt c2_1) cx2 K2))))) = true := pass_end noNum prims10_ok mixed p111 (fun σ' hl => all_lit hl a2_24)
theorem a2_22 : All Tryz.prog (.code c2_22) cx2 l2_11.st (blockX 1 (thenX (All Tryz.prog) (rgt c2_20) cx2 (thenX (All Tryz.prog) c2_18 cx2 (blockX 0 (thenX (All Tryz.prog) (rgt c2_1) cx2 K2))))) = true := seqs_cut noNum prims7_ok mixed (l := l2_12) 2 c2_22 l2_11.st (by kernel_rfl) p99 a2_23
theorem a2_21 : All Tryz.prog (.code c2_21) cx2 l2_11.st (thenX (All Tryz.prog) (rgt c2_20) cx2 (thenX (All Tryz.prog) c2_18 cx2 (blockX 0 (thenX (All Tryz.prog) (rgt c2_1) cx2 K2)))) = true := block_in (by kernel_rfl) a2_22
theorem a2_20 : All Tryz.prog (.code c2_20) cx2 l2_11.st (thenX (All Tryz.prog) c2_18 cx2 (blockX 0 (thenX (All Tryz.prog) (rgt c2_1) cx2 K2))) = true := seq_left (by kernel_rfl) a2_21
theorem a2_19 : All Tryz.prog (.code c2_19) cx2 l2_10.st (thenX (All Tryz.prog) c2_18 cx2 (blockX 0 (thenX (All Tryz.prog) (rgt c2_1) cx2 K2))) = true := seqs_cut noNum prims7_ok mixed (l := l2_11) 1 c2_19 l2_10.st (by kernel_rfl) p98 a2_20
theorem a2_18 : All Tryz.prog (.code c2_18) cx2 l2_10.st (blockX 0 (thenX (All Tryz.prog) (rgt c2_1) cx2 K2)) = true := loop_open (by kernel_rfl) a2_19
theorem a2_17 : All Tryz.prog (.code c2_17) cx2 l2_9.st (thenX (All Tryz.prog) c2_11 cx2 (blockX 0 (thenX (All Tryz.prog) (rgt c2_1) cx2 K2))) = true := pass_end noNum prims7_ok mixed p97 (fun σ' hl => all_lit hl a2_18)
theorem a2_16 : All Tryz.prog (.code c2_16) cx2 l2_8.st (blockX 1 (thenX (All Tryz.prog) (rgt c2_13) cx2 (thenX (All Tryz.prog) c2_11 cx2 (blockX 0 (thenX (All Tryz.prog) (rgt c2_1) cx2 K2))))) = true := pass_end noNum prims7_ok mixed p96 (fun σ' hl => all_lit hl a2_17)
theorem a2_15 : All Tryz.prog (.code c2_15) cx2 l2_7.st (blockX 1 (thenX (All Tryz.prog) (rgt c2_13) cx2 (thenX (All Tryz.prog) c2_11 cx2 (blockX 0 (thenX (All Tryz.prog) (rgt c2_1) cx2 K2))))) = true := seqs_cut noNum prims4_ok mixed (l := l2_8) 2 c2_15 l2_7.st (by kernel_rfl) p84 a2_16
theorem a2_14 : All Tryz.prog (.code c2_14) cx2 l2_7.st (thenX (All Tryz.prog) (rgt c2_13) cx2 (thenX (All Tryz.prog) c2_11 cx2 (blockX 0 (thenX (All Tryz.prog) (rgt c2_1) cx2 K2)))) = true := block_in (by kernel_rfl) a2_15
theorem a2_13 : All Tryz.prog (.code c2_13) cx2 l2_7.st (thenX (All Tryz.prog) c2_11 cx2 (blockX 0 (thenX (All Tryz.prog) (rgt c2_1) cx2 K2))) = true := seq_left (by kernel_rfl) a2_14
theorem a2_12 : All Tryz.prog (.code c2_12) cx2 l2_6.st (thenX (All Tryz.prog) c2_11 cx2 (blockX 0 (thenX (All Tryz.prog) (rgt c2_1) cx2 K2))) = true := seqs_cut noNum prims4_ok mixed (l := l2_7) 1 c2_12 l2_6.st (by kernel_rfl) p83 a2_13
theorem a2_11 : All Tryz.prog (.code c2_11) cx2 l2_6.st (blockX 0 (thenX (All Tryz.prog) (rgt c2_1) cx2 K2)) = true := loop_open (by kernel_rfl) a2_12
theorem a2_10 : All Tryz.prog (.code c2_10) cx2 l2_5.st (thenX (All Tryz.prog) c2_4 cx2 (blockX 0 (thenX (All Tryz.prog) (rgt c2_1) cx2 K2))) = true := pass_end noNum prims4_ok mixed p82 (fun σ' hl => all_lit hl a2_11)
theorem a2_9 : All Tryz.prog (.code c2_9) cx2 l2_4.st (blockX 1 (thenX (All Tryz.prog) (rgt c2_6) cx2 (thenX (All Tryz.prog) c2_4 cx2 (blockX 0 (thenX (All Tryz.prog) (rgt c2_1) cx2 K2))))) = true := pass_end noNum prims4_ok mixed p81 (fun σ' hl => all_lit hl a2_10)
theorem a2_8 : All Tryz.prog (.code c2_8) cx2 l2_3.st (blockX 1 (thenX (All Tryz.prog) (rgt c2_6) cx2 (thenX (All Tryz.prog) c2_4 cx2 (blockX 0 (thenX (All Tryz.prog) (rgt c2_1) cx2 K2))))) = true := seqs_cut noNum prims1_ok mixed (l := l2_4) 2 c2_8 l2_3.st (by kernel_rfl) p69 a2_9
theorem a2_7 : All Tryz.prog (.code c2_7) cx2 l2_3.st (thenX (All Tryz.prog) (rgt c2_6) cx2 (thenX (All Tryz.prog) c2_4 cx2 (blockX 0 (thenX (All Tryz.prog) (rgt c2_1) cx2 K2)))) = true := block_in (by kernel_rfl) a2_8
theorem a2_6 : All Tryz.prog (.code c2_6) cx2 l2_3.st (thenX (All Tryz.prog) c2_4 cx2 (blockX 0 (thenX (All Tryz.prog) (rgt c2_1) cx2 K2))) = true := seq_left (by kernel_rfl) a2_7
theorem a2_5 : All Tryz.prog (.code c2_5) cx2 l2_2.st (thenX (All Tryz.prog) c2_4 cx2 (blockX 0 (thenX (All Tryz.prog) (rgt c2_1) cx2 K2))) = true := seqs_cut noNum prims1_ok mixed (l := l2_3) 1 c2_5 l2_2.st (by kernel_rfl) p68 a2_6
theorem a2_4 : All Tryz.prog (.code c2_4) cx2 l2_2.st (blockX 0 (thenX (All Tryz.prog) (rgt c2_1) cx2 K2)) = true := loop_open (by kernel_rfl) a2_5
theorem a2_3 : All Tryz.prog (.code c2_3) cx2 l2_2.st (thenX (All Tryz.prog) (rgt c2_1) cx2 K2) = true := block_in (by kernel_rfl) a2_4
theorem a2_2 : All Tryz.prog (.code c2_2) cx2 l2_1.st (thenX (All Tryz.prog) (rgt c2_1) cx2 K2) = true := seqs_cut noNum prims1_ok mixed (l := l2_2) 1 c2_2 l2_1.st (by kernel_rfl) p67 a2_3
theorem a2_1 : All Tryz.prog (.code c2_1) cx2 l2_1.st K2 = true := seq_left (by kernel_rfl) a2_2
theorem a2_0 : All Tryz.prog (.code c2_0) cx2 l2_0.st K2 = true := seqs_cut noNum prims1_ok mixed (l := l2_1) 3 c2_0 l2_0.st (by kernel_rfl) p66 a2_1
theorem body2 : Tryz.f15.body = some c2_0 := by kernel_rfl
theorem met2 : Ex.Met Tryz.prog 15 (litP l2_0 57 r2) := (by first | exact met_lit noNum Tryz.func15 body2 a2_0 | (show Ex.Met _ _ (litP _ Tryz.ntmps15 _); exact met_lit noNum Tryz.func15 body2 a2_0))
theorem prims30_ok : PrimOk Tryz.prog prims30 := primOk_or met2 prims29_ok
theorem a31_1 : All Tryz.prog (.code c31_1) cx31 l31_1.st K31 = true := all_run noNum prims30_ok mixed p226
theorem a31_0 : All Tryz.prog (.code c31_0) cx31 l31_0.st K31 = true := seqs_cut noNum prims30_ok mixed (l := l31_1) 5 c31_0 l31_0.st (by kernel_rfl) p225 a31_1
theorem body31 : Tryz.f18.body = some c31_0 := by kernel_rfl
theorem met31 : Ex.Met Tryz.prog 18 (litP l31_0 101 r31) := (by first | exact met_lit noNum Tryz.func18 body31 a31_0 | (show Ex.Met _ _ (litP _ Tryz.ntmps18 _); exact met_lit noNum Tryz.func18 body31 a31_0))
theorem prims31_ok : PrimOk Tryz.prog prims31 := primOk_or met31 prims30_ok
theorem a0_15 : All Tryz.prog (.code c0_13) cx0 l0_12.st K0 = true := all_run noNum prims31_ok mixed p227
theorem a0_14 : All Tryz.prog (.code c0_12) cx0 l0_11.st K0 = true := seqs_cut noNum prims30_ok mixed (l := l0_12) 5 c0_12 l0_11.st (by kernel_rfl) p224 a0_15
theorem a0_13 : All Tryz.prog (.code c0_11) cx0 l0_10.st K0 = true := seqs_cut noNum prims30_ok mixed (l := l0_11) 1 c0_11 l0_10.st (by kernel_rfl) p223 a0_14
theorem a0_12 : All Tryz.prog (.code c0_10) cx0 l0_9.st K0 = true := seqs_cut noNum primsL_ok mixed (l := l0_10) 5 c0_10 l0_9.st (by kernel_rfl) p10 a0_13
theorem a0_11 : All Tryz.prog (.code c0_9) cx0 l0_8.st K0 = true := seqs_cut noNum primsL_ok mixed (l := l0_9) 1 c0_9 l0_8.st (by kernel_rfl) p9 a0_12
theorem a0_10 : All Tryz.prog (.code c0_8) cx0 l0_7.st K0 = true := seqs_cut noNum primsL_ok mixed (l := l0_8) 3 c0_8 l0_7.st (by kernel_rfl) p8 a0_11
theorem a0_9 : All Tryz.prog (.code c0_7) cx0 l0_6.st K0 = true := seqs_cut noNum primsL_ok mixed (l := l0_7) 1 c0_7 l0_6.st (by kernel_rfl) p7 a0_10
theorem a0_8 : All Tryz.prog (.code c0_6) cx0 l0_5.st K0 = true := seqs_cut noNum primsL_ok mixed (l := l0_6) 3 c0_6 l0_5.st (by kernel_rfl) p6 a0_9
theorem a0_7 : All Tryz.prog (.code c0_5) cx0 l0_4.st K0 = true := seqs_cut noNum primsL_ok mixed (l := l0_5) 2 c0_5 l0_4.st (by kernel_rfl) p5 a0_8
theorem a0_6 : All Tryz.prog (.code c0_4) cx0 l0_3.st (blockX 0 (thenX (All Tryz.prog) (rgt c0_1) cx0 K0)) = true := loop_end noNum primsL_ok mixed p4 (then_lit a0_7)
theorem a0_5 : All Tryz.prog (.code c0_4) cx0 l0_2.st (blockX 0 (thenX (All Tryz.prog) (rgt c0_1) cx0 K0)) = true := loop_cut noNum primsL_ok mixed (by kernel_rfl) a0_6 2 l0_2.st p3
theorem a0_4 : All Tryz.prog (.code c0_4) cx0 l0_1.st (blockX 0 (thenX (All Tryz.prog) (rgt c0_1) cx0 K0)) = true := loop_cut noNum primsL_ok mixed (by kernel_rfl) a0_5 2 l0_1.st p2
theorem a0_3 : All Tryz.prog (.code c0_3) cx0 l0_1.st (thenX (All Tryz.prog) (rgt c0_1) cx0 K0) = true := block_in (by kernel_rfl) a0_4
theorem a0_2 : All Tryz.prog (.code c0_2) cx0 l0_0.st (thenX (All Tryz.prog) (rgt c0_1) cx0 K0) = true := seqs_cut noNum primsL_ok mixed (l := l0_1) 1 c0_2 l0_0.st (by kernel_rfl) p1 a0_3
theorem a0_1 : All Tryz.prog (.code c0_1) cx0 l0_0.st K0 = true := seq_left (by kernel_rfl) a0_2
theorem a0_0 : All Tryz.prog (.code c0_0) cx0 ⟨.nil, [], hp0 GL, 1000⟩ K0 = true := seqs_cut noNum primsL_ok mixed (l := l0_0) 3 c0_0 ⟨.nil, [], hp0 GL, 1000⟩ (by kernel_rfl) p0 a0_1
theorem body0 : Tryz.f3.body = some c0_0 := by kernel_rfl
end Lk
open Ex Go.RowKit
theorem known_walk (W : World) (hl : Laid Lk.GL W) : Calls Tryz.prog 3 #[] W fun e W' => e = .returned (.bool true) ∧ Below W.heap.size W W' :=
  closed_allL Tryz.func3 Lk.body0 Lk.a0_0 hl fun r m' w' v hk _ hv hE => by
    rw [eqI_eq hk] at hv
    cases hv
    exact ⟨rfl, hE.below⟩
end Go.Proofs.YtajoljoegbeiiaaGreatDoor
