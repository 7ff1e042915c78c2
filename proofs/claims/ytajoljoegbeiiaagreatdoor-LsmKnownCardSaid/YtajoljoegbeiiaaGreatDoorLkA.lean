/-
  Functions that the executor meets by contracts: slices.Sorted of a map's keys, the table of sums, abi.NoEscape. Functions that the executor meets by contracts: those of WalP, and seal.Sum. Functions that the executor meets by contracts: those of KpP (seal.Sum, Sorted, the table of sums), and the comparison of two texts. LsmKnown: functions that the executor meets by contracts: those of TkP, and slices.Insert of one file ahead of the others.
-/
import Derived.Test.YtajoljoegbeiiaaGreatDoorExU
import Derived.Test.YtajoljoegbeiiaaGreatDoorExV
import Derived.Test.YtajoljoegbeiiaaGreatDoorShelfS
import Derived.Test.YtajoljoegbeiiaaGreatDoorExY
import Derived.Test.YtajoljoegbeiiaaGreatDoorExW
import Derived.Test.YtajoljoegbeiiaaGreatDoorExZ
import Derived.Test.YtajoljoegbeiiaaGreatDoorWrA
import Derived.Test.YtajoljoegbeiiaaGreatDoorFaA
namespace Go.Proofs.YtajoljoegbeiiaaGreatDoor
set_option linter.all false
set_option maxRecDepth 100000
open Ex Go.RowKit Go.Maps Go.Sort
theorem noNum : NoNum Tryz.prog := fun f fn hf => by
  have h : Tryz.prog.funcs.all (fun fn => !(fn.name == "runtime.NumGoroutine")) = true := by kernel_rfl
  have := Array.all_eq_true_iff_forall_mem.1 h fn (Array.mem_of_getElem? hf)
  simpa using this
theorem mixed : Tryz.prog.follows .mixedOrders = true := by kernel_rfl
def sums : List AV := [.int .u32 (.ofNat 0), .int .u32 (.ofNat 1996959894), .int .u32 (.ofNat 3993919788), .int .u32 (.ofNat 2567524794), .int .u32 (.ofNat 124634137), .int .u32 (.ofNat 1886057615), .int .u32 (.ofNat 3915621685), .int .u32 (.ofNat 2657392035), .int .u32 (.ofNat 249268274), .int .u32 (.ofNat 2044508324), .int .u32 (.ofNat 3772115230), .int .u32 (.ofNat 2547177864), .int .u32 (.ofNat 162941995), .int .u32 (.ofNat 2125561021), .int .u32 (.ofNat 3887607047), .int .u32 (.ofNat 2428444049), .int .u32 (.ofNat 498536548), .int .u32 (.ofNat 1789927666), .int .u32 (.ofNat 4089016648), .int .u32 (.ofNat 2227061214), .int .u32 (.ofNat 450548861), .int .u32 (.ofNat 1843258603), .int .u32 (.ofNat 4107580753), .int .u32 (.ofNat 2211677639), .int .u32 (.ofNat 325883990), .int .u32 (.ofNat 1684777152), .int .u32 (.ofNat 4251122042), .int .u32 (.ofNat 2321926636), .int .u32 (.ofNat 335633487), .int .u32 (.ofNat 1661365465), .int .u32 (.ofNat 4195302755), .int .u32 (.ofNat 2366115317), .int .u32 (.ofNat 997073096), .int .u32 (.ofNat 1281953886), .int .u32 (.ofNat 3579855332), .int .u32 (.ofNat 2724688242), .int .u32 (.ofNat 1006888145), .int .u32 (.ofNat 1258607687), .int .u32 (.ofNat 3524101629), .int .u32 (.ofNat 2768942443), .int .u32 (.ofNat 901097722), .int .u32 (.ofNat 1119000684), .int .u32 (.ofNat 3686517206), .int .u32 (.ofNat 2898065728), .int .u32 (.ofNat 853044451), .int .u32 (.ofNat 1172266101), .int .u32 (.ofNat 3705015759), .int .u32 (.ofNat 2882616665), .int .u32 (.ofNat 651767980), .int .u32 (.ofNat 1373503546), .int .u32 (.ofNat 3369554304), .int .u32 (.ofNat 3218104598), .int .u32 (.ofNat 565507253), .int .u32 (.ofNat 1454621731), .int .u32 (.ofNat 3485111705), .int .u32 (.ofNat 3099436303), .int .u32 (.ofNat 671266974), .int .u32 (.ofNat 1594198024), .int .u32 (.ofNat 3322730930), .int .u32 (.ofNat 2970347812), .int .u32 (.ofNat 795835527), .int .u32 (.ofNat 1483230225), .int .u32 (.ofNat 3244367275), .int .u32 (.ofNat 3060149565), .int .u32 (.ofNat 1994146192), .int .u32 (.ofNat 31158534), .int .u32 (.ofNat 2563907772), .int .u32 (.ofNat 4023717930), .int .u32 (.ofNat 1907459465), .int .u32 (.ofNat 112637215), .int .u32 (.ofNat 2680153253), .int .u32 (.ofNat 3904427059), .int .u32 (.ofNat 2013776290), .int .u32 (.ofNat 251722036), .int .u32 (.ofNat 2517215374), .int .u32 (.ofNat 3775830040), .int .u32 (.ofNat 2137656763), .int .u32 (.ofNat 141376813), .int .u32 (.ofNat 2439277719), .int .u32 (.ofNat 3865271297), .int .u32 (.ofNat 1802195444), .int .u32 (.ofNat 476864866), .int .u32 (.ofNat 2238001368), .int .u32 (.ofNat 4066508878), .int .u32 (.ofNat 1812370925), .int .u32 (.ofNat 453092731), .int .u32 (.ofNat 2181625025), .int .u32 (.ofNat 4111451223), .int .u32 (.ofNat 1706088902), .int .u32 (.ofNat 314042704), .int .u32 (.ofNat 2344532202), .int .u32 (.ofNat 4240017532), .int .u32 (.ofNat 1658658271), .int .u32 (.ofNat 366619977), .int .u32 (.ofNat 2362670323), .int .u32 (.ofNat 4224994405), .int .u32 (.ofNat 1303535960), .int .u32 (.ofNat 984961486), .int .u32 (.ofNat 2747007092), .int .u32 (.ofNat 3569037538), .int .u32 (.ofNat 1256170817), .int .u32 (.ofNat 1037604311), .int .u32 (.ofNat 2765210733), .int .u32 (.ofNat 3554079995), .int .u32 (.ofNat 1131014506), .int .u32 (.ofNat 879679996), .int .u32 (.ofNat 2909243462), .int .u32 (.ofNat 3663771856), .int .u32 (.ofNat 1141124467), .int .u32 (.ofNat 855842277), .int .u32 (.ofNat 2852801631), .int .u32 (.ofNat 3708648649), .int .u32 (.ofNat 1342533948), .int .u32 (.ofNat 654459306), .int .u32 (.ofNat 3188396048), .int .u32 (.ofNat 3373015174), .int .u32 (.ofNat 1466479909), .int .u32 (.ofNat 544179635), .int .u32 (.ofNat 3110523913), .int .u32 (.ofNat 3462522015), .int .u32 (.ofNat 1591671054), .int .u32 (.ofNat 702138776), .int .u32 (.ofNat 2966460450), .int .u32 (.ofNat 3352799412), .int .u32 (.ofNat 1504918807), .int .u32 (.ofNat 783551873), .int .u32 (.ofNat 3082640443), .int .u32 (.ofNat 3233442989), .int .u32 (.ofNat 3988292384), .int .u32 (.ofNat 2596254646), .int .u32 (.ofNat 62317068), .int .u32 (.ofNat 1957810842), .int .u32 (.ofNat 3939845945), .int .u32 (.ofNat 2647816111), .int .u32 (.ofNat 81470997), .int .u32 (.ofNat 1943803523), .int .u32 (.ofNat 3814918930), .int .u32 (.ofNat 2489596804), .int .u32 (.ofNat 225274430), .int .u32 (.ofNat 2053790376), .int .u32 (.ofNat 3826175755), .int .u32 (.ofNat 2466906013), .int .u32 (.ofNat 167816743), .int .u32 (.ofNat 2097651377), .int .u32 (.ofNat 4027552580), .int .u32 (.ofNat 2265490386), .int .u32 (.ofNat 503444072), .int .u32 (.ofNat 1762050814), .int .u32 (.ofNat 4150417245), .int .u32 (.ofNat 2154129355), .int .u32 (.ofNat 426522225), .int .u32 (.ofNat 1852507879), .int .u32 (.ofNat 4275313526), .int .u32 (.ofNat 2312317920), .int .u32 (.ofNat 282753626), .int .u32 (.ofNat 1742555852), .int .u32 (.ofNat 4189708143), .int .u32 (.ofNat 2394877945), .int .u32 (.ofNat 397917763), .int .u32 (.ofNat 1622183637), .int .u32 (.ofNat 3604390888), .int .u32 (.ofNat 2714866558), .int .u32 (.ofNat 953729732), .int .u32 (.ofNat 1340076626), .int .u32 (.ofNat 3518719985), .int .u32 (.ofNat 2797360999), .int .u32 (.ofNat 1068828381), .int .u32 (.ofNat 1219638859), .int .u32 (.ofNat 3624741850), .int .u32 (.ofNat 2936675148), .int .u32 (.ofNat 906185462), .int .u32 (.ofNat 1090812512), .int .u32 (.ofNat 3747672003), .int .u32 (.ofNat 2825379669), .int .u32 (.ofNat 829329135), .int .u32 (.ofNat 1181335161), .int .u32 (.ofNat 3412177804), .int .u32 (.ofNat 3160834842), .int .u32 (.ofNat 628085408), .int .u32 (.ofNat 1382605366), .int .u32 (.ofNat 3423369109), .int .u32 (.ofNat 3138078467), .int .u32 (.ofNat 570562233), .int .u32 (.ofNat 1426400815), .int .u32 (.ofNat 3317316542), .int .u32 (.ofNat 2998733608), .int .u32 (.ofNat 733239954), .int .u32 (.ofNat 1555261956), .int .u32 (.ofNat 3268935591), .int .u32 (.ofNat 3050360625), .int .u32 (.ofNat 752459403), .int .u32 (.ofNat 1541320221), .int .u32 (.ofNat 2607071920), .int .u32 (.ofNat 3965973030), .int .u32 (.ofNat 1969922972), .int .u32 (.ofNat 40735498), .int .u32 (.ofNat 2617837225), .int .u32 (.ofNat 3943577151), .int .u32 (.ofNat 1913087877), .int .u32 (.ofNat 83908371), .int .u32 (.ofNat 2512341634), .int .u32 (.ofNat 3803740692), .int .u32 (.ofNat 2075208622), .int .u32 (.ofNat 213261112), .int .u32 (.ofNat 2463272603), .int .u32 (.ofNat 3855990285), .int .u32 (.ofNat 2094854071), .int .u32 (.ofNat 198958881), .int .u32 (.ofNat 2262029012), .int .u32 (.ofNat 4057260610), .int .u32 (.ofNat 1759359992), .int .u32 (.ofNat 534414190), .int .u32 (.ofNat 2176718541), .int .u32 (.ofNat 4139329115), .int .u32 (.ofNat 1873836001), .int .u32 (.ofNat 414664567), .int .u32 (.ofNat 2282248934), .int .u32 (.ofNat 4279200368), .int .u32 (.ofNat 1711684554), .int .u32 (.ofNat 285281116), .int .u32 (.ofNat 2405801727), .int .u32 (.ofNat 4167216745), .int .u32 (.ofNat 1634467795), .int .u32 (.ofNat 376229701), .int .u32 (.ofNat 2685067896), .int .u32 (.ofNat 3608007406), .int .u32 (.ofNat 1308918612), .int .u32 (.ofNat 956543938), .int .u32 (.ofNat 2808555105), .int .u32 (.ofNat 3495958263), .int .u32 (.ofNat 1231636301), .int .u32 (.ofNat 1047427035), .int .u32 (.ofNat 2932959818), .int .u32 (.ofNat 3654703836), .int .u32 (.ofNat 1088359270), .int .u32 (.ofNat 936918000), .int .u32 (.ofNat 2847714899), .int .u32 (.ofNat 3736837829), .int .u32 (.ofNat 1202900863), .int .u32 (.ofNat 817233897), .int .u32 (.ofNat 3183342108), .int .u32 (.ofNat 3401237130), .int .u32 (.ofNat 1404277552), .int .u32 (.ofNat 615818150), .int .u32 (.ofNat 3134207493), .int .u32 (.ofNat 3453421203), .int .u32 (.ofNat 1423857449), .int .u32 (.ofNat 601450431), .int .u32 (.ofNat 3009837614), .int .u32 (.ofNat 3294710456), .int .u32 (.ofNat 1567103746), .int .u32 (.ofNat 711928724), .int .u32 (.ofNat 3020668471), .int .u32 (.ofNat 3272380065), .int .u32 (.ofNat 1510334235), .int .u32 (.ofNat 755167117)]
theorem sums_still : ∀ v ∈ sums, ∀ m m' u, VR m v u → VR m' v u := by
  intro v hv m m' u h
  have : ∃ z, v = .int .u32 z := by
    have hall : sums.all (fun v => match v with | .int .u32 _ => true | _ => false) = true := by kernel_rfl
    have := List.all_eq_true.1 hall v hv
    split at this
    · exact ⟨_, rfl⟩
    · cases this
  obtain ⟨z, rfl⟩ := this
  exact int_still _ _ _ _ _ h
theorem table_run : enterO Tryz.prog (run Tryz.prog primNone 1000000) [] (hp0 []) 1000 (cellsK sums 322) Tryz.prog.funcs[236]? = true := by kernel_rfl
theorem met_table : Ex.Met Tryz.prog 236 (cellsP sums 322) := met_cells noNum primOk_none mixed (n := 1000000) Tryz.func236 rfl sums_still table_run
theorem sortsA (m : Nat) : AnyZ.SortsIn Tryz.prog Tryz.sortedA_ren Fence.wide m :=
  ⟨fun blk off cap ss W hH hblk hsz => callsIn_wide.2 (AnyM.slices_Sort_string Tryz.sortA blk off cap ss W hH hblk hsz),
   fun p cap W => callsIn_wide.2 (AnyM.slices_Sort_string_none Tryz.sortA p cap W)⟩
theorem sizeStr : sizeT Tryz.prog 9 = some 1 := by kernel_rfl
theorem met_keys : Ex.Met Tryz.prog 92 (sortedP 166 9) :=
  met_sorted noNum Tryz.func92 rfl Tryz.underlying9 sizeStr
    (fun Bm b nn D w hB hm hown => AnyZ.keys_gives (ρ := Tryz.keysA_ren) { Tryz.keysA with } Fence.wide 2 trivial rfl (by omega) Bm b nn D w hB hm hown)
    (fun lb S N w hN hNb hseq => AnyZ.sorted_in Tryz.sortedA Fence.wide 5 trivial trivial trivial trivial rfl (by omega) (sortsA _) (enters_of Tryz.func165 (by kernel_rfl) rfl) 166 lb trivial (enters_of Tryz.func166 (by kernel_rfl) rfl) S N hN hNb w hseq)
theorem met_noEscape : Ex.Met Tryz.prog 299 sameP := met_same Tryz.func299 (by kernel_rfl) (by kernel_rfl) (by kernel_rfl) (by kernel_rfl)
noncomputable def prims : Prim := primAnd 92 (sortedP 166 9) (primAnd 236 (cellsP sums 322) (primAnd 299 sameP primNone))
theorem prims_ok : PrimOk Tryz.prog prims := primOk_and met_keys (primOk_and met_table (primOk_and met_noEscape primOk_none))
end Go.Proofs.YtajoljoegbeiiaaGreatDoor

namespace Go.Proofs.YtajoljoegbeiiaaGreatDoor
set_option maxRecDepth 100000
open Ex
noncomputable def primsS : Prim := primAnd 157 sumP prims
theorem primsS_ok : PrimOk Tryz.prog primsS := primOk_and (met_sum noNum) prims_ok
end Go.Proofs.YtajoljoegbeiiaaGreatDoor

namespace Go.Proofs.YtajoljoegbeiiaaGreatDoor
set_option maxRecDepth 100000
open Ex
theorem met_cmpS : Ex.Met Tryz.prog 198 cmpP := met_cmp Tryz.func198 (by kernel_rfl) (by kernel_rfl) (by kernel_rfl) (by kernel_rfl)
noncomputable def primsT : Prim := primAnd 198 cmpP primsS
theorem primsT_ok : PrimOk Tryz.prog primsT := primOk_and met_cmpS primsS_ok
end Go.Proofs.YtajoljoegbeiiaaGreatDoor

namespace Go.Proofs.YtajoljoegbeiiaaGreatDoor
set_option linter.all false
set_option maxRecDepth 100000
open Ex
noncomputable def primsL : Prim := primAnd 63 (insP 89 4) primsT
theorem primsL_ok : PrimOk Tryz.prog primsL := primOk_and (met_ins noNum) primsT_ok
noncomputable def primsLL : List Pr := [.and 63 (insP 89 4), .and 198 cmpP, .and 157 sumP,
  .and 92 (sortedP 166 9), .and 236 (cellsP sums 322), .and 299 sameP]
theorem primsLL_of : primOf primsLL = primsL := by
  unfold primsLL primsL primsT primsS prims
  rw [primOf_and, primOf_and, primOf_and, primOf_and, primOf_and, primOf_and, primOf_none]
end Go.Proofs.YtajoljoegbeiiaaGreatDoor
