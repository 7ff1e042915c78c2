/-
  Script: ScriptBack's walk.
-/
import Derived.Test.YtcjindifdghpgaaGreatDoorOpsA
import Derived.Test.YtcjindifdghpgaaGreatDoorOps9
import Derived.Test.YtcjindifdghpgaaGreatDoorScrW
import Derived.Test.YtcjindifdghpgaaGreatDoorScrI
import Derived.Test.YtcjindifdghpgaaGreatDoorScrH
namespace Go.Proofs.YtcjindifdghpgaaGreatDoor
set_option linter.all false
open Go.RowKit
section
variable {B w : World} {L : List HP}
theorem parsed_ok {s : Bs} {y : Ending} {w' : World} {a b c d e f g i j : Int} {raw : Bs} (hp : parseL s = .ok ([a, b, c, d, e, f, g, i, j], raw)) (h : parsed B L s y w') :
    ∃ (ra : Option Addr) (rc : Nat), y = .returned (.tuple #[.agg #[.int .i64 a, .int .i64 b, .int .i64 c, .int .i64 d, .int .i64 e, .int .i64 f, .int .i64 g, .int .i64 i, .int .i64 j], .slice ra raw.length rc, .nilIface]) ∧
      Sat B (row 5 1 (.slice ra raw.length rc) raw.length (u8s raw) :: L) w' := by
  rcases h with ⟨a', b', c', d', e', f', g', i', j', raw', ra, m, rc, h1, h2, h3, h4⟩ | ⟨c', i, p, h1, h2, h3⟩
  · rw [hp] at h1; cases h1; subst h3; exact ⟨ra, rc, h2, h4⟩
  · rw [hp] at h1; cases h1
theorem parsed_bad {s : Bs} {y : Ending} {w' : World} {c : Int} {k : Nat} (hp : parseL s = .error (c, k)) (h : parsed B L s y w') :
    ∃ p, y = .returned (.tuple #[zS, .slice none 0 0, .iface 36 (.pointer (some ⟨p, 0, none⟩))]) ∧ Sat B (pt p (.cells #[.int .i64 c, .int .i64 k] 40) :: L) w' := by
  rcases h with ⟨a, b, c, d, e, f, g, i, j, raw, ra, m, rc, h1, _⟩ | ⟨c', i, p, h1, h2, h3⟩
  · rw [hp] at h1; cases h1
  · rw [hp] at h1; cases h1; exact ⟨p, h2, h3⟩
theorem opOut_ok {s : Bs} {y : Ending} {w' : World} {k : Int} {r c v : Bs} {has : Bool} {e : Bs} (hp : readW (splL 32 s) = some (k, r, c, v, has, e)) (h : opOut s B L y w') :
    y = .returned (.tuple #[.agg (opC k (bA r) (bA c) (bA v) has (bA e)), .nilIface]) ∧ Sat B L w' := by
  rcases h with ⟨k', r', c', v', has', e', h1, h2, h3⟩ | ⟨h1, _⟩
  · rw [hp] at h1; cases h1; exact ⟨h2, h3⟩
  · rw [hp] at h1; cases h1
theorem tmod_small (x m q : Nat) (h : x % m = q) : (x : Int).tmod m = (q : Int) := by
  rw [Int.tmod_eq_emod_of_nonneg (by omega), ← h]; exact (Int.natCast_emod x m).symm
theorem popTextB {w : World} (hF : EnvF B) (k : Int) (r c v : Bs) (has : Bool) (e : Bs) (hm : mayOp k r c v has e = true) (hS : Sat B L w) :
    Calls Tryz.prog 10 #[.agg (opC k (bA r) (bA c) (bA v) has (bA e))] w fun y w' => y = .returned (.tuple #[.string ⟨(opLine k r c v has e).toArray⟩, .int .i64 0]) ∧ Sat B L w' := by
  have h := popText hF k (bA r) (bA c) (bA v) has (bA e) hS
  rw [if_pos (show mayOp k (bA r).data.toList (bA c).data.toList (bA v).data.toList has (bA e).data.toList = true from hm)] at h
  exact h
abbrev setB (a b c d e f g i j : Int) : Array Value := #[.int .i64 a, .int .i64 b, .int .i64 c, .int .i64 d, .int .i64 e, .int .i64 f, .int .i64 g, .int .i64 i, .int .i64 j]
set_option maxHeartbeats 8000000 in
set_option maxRecDepth 100000 in
theorem back_walk (hE : Env w) (hF : EnvF w) (hg : w.cell? ⟨0, 0, none⟩ = some (.iface 114 (.agg #[.pointer (some ⟨12, 33, none⟩)])))
    (na nb nc nd ne nf ng ni nj : Nat) (hng : ng < 256) (hni : ni < 256) (hnj : nj < 256) (va : Option Addr) (n cc : Nat) (raw : Bs) (hl : raw.length = n) (hr : reads w (.slice va n cc) n (u8s raw))
    (k : Nat) (r c : UInt8) (hk : k < 256) (v e : ByteArray) (has : Bool) :
    Calls Tryz.prog 3 #[.agg #[.int .u8 na, .int .u8 nb, .int .u8 nc, .int .u8 nd, .int .u8 ne, .int .u8 nf, .int .u8 ng, .int .u8 ni, .int .u8 nj], .slice va n cc, .agg (spotC k r c v e has)] w
      fun y w' => y = .returned (.bool true) ∧ Below w.heap.size w w' := by
  obtain ⟨hr0, hr1, hr2⟩ := reads_len hr
  obtain ⟨m, hm⟩ : ∃ m, (min (n : Int) 2000).toNat = m := ⟨_, rfl⟩
  have hmn : m ≤ n := by omega
  have hm1 : m ≤ 2000 := by omega
  have hm2 : min (n : Int) 2000 = m := by omega
  have hr3 := reads_take hr m m hmn
  obtain ⟨rw0, hrr⟩ : ∃ r, raw.take m = r := ⟨_, rfl⟩
  rw [show (u8s raw).take m = u8s (raw.take m) from by simp [u8s], hrr] at hr3
  have hlk : rw0.length = m := by rw [← hrr]; simp; omega
  clear hr hl hrr hm
  obtain ⟨xa, hxa⟩ : ∃ x : Int, 3 + (na : Int) % 3 = x := ⟨_, rfl⟩
  obtain ⟨xb, hxb⟩ : ∃ x : Int, 1 + (nb : Int) % 4 = x := ⟨_, rfl⟩
  obtain ⟨xc, hxc⟩ : ∃ x : Int, 4 + (nc : Int) % 17 = x := ⟨_, rfl⟩
  obtain ⟨xd, hxd⟩ : ∃ x : Int, 1 + (nd : Int) % 3 = x := ⟨_, rfl⟩
  obtain ⟨xe, hxe⟩ : ∃ x : Int, 2 + (ne : Int) % 49 = x := ⟨_, rfl⟩
  obtain ⟨xf, hxf⟩ : ∃ x : Int, 1 + (nf : Int) % 100 = x := ⟨_, rfl⟩
  obtain ⟨xg, hxg⟩ : ∃ x : Int, 4096 + (ng : Int) * 1048576 = x := ⟨_, rfl⟩
  obtain ⟨xi, hxi⟩ : ∃ x : Int, 1 + (ni : Int) = x := ⟨_, rfl⟩
  obtain ⟨xj, hxj⟩ : ∃ x : Int, 4 + (nj : Int) = x := ⟨_, rfl⟩
  have hmay : mayL [xa, xb, xc, xd, xe, xf, xg, xi, xj] = true := by
    simp [mayL]; omega
  have hpar := parse_print _ rfl hmay rw0 (by omega)
  have hcut := parse_cut _ rfl hmay rw0 (by omega)
  rw [hlk] at hcut
  obtain ⟨q, hq⟩ : ∃ q : Nat, (m + 31) / 32 = q := ⟨_, rfl⟩
  have hqi : ((m : Int) + 31) / 32 = q := by omega
  rw [hq] at hcut
  have hofm := of_may k r c v.data.toList e.data.toList has
  have hline := read_line hofm
  have hlen := line_len hofm
  obtain ⟨sS, hsS⟩ : ∃ sS : ByteArray, (⟨(printL [xa, xb, xc, xd, xe, xf, xg, xi, xj] rw0).toArray⟩ : ByteArray) = sS := ⟨_, rfl⟩
  have hSd : sS.data.toList = printL [xa, xb, xc, xd, xe, xf, xg, xi, xj] rw0 := by rw [← hsS]
  obtain ⟨ps, hps⟩ : ∃ ps, sS.size = ps + 1 := ⟨(printL [xa, xb, xc, xd, xe, xf, xg, xi, xj] rw0).length - 1, by
    rw [← slenB, hSd, printL]; simp; omega⟩
  have hpcut : parseL (sS.extract 0 ps).data.toList = .error (15, q) := by
    have hpl : (printL [xa, xb, xc, xd, xe, xf, xg, xi, xj] rw0).length - 1 = ps := by rw [← hSd, slenB, hps]; rfl
    rw [Value.string.inj (ext_val sS 0 ps), List.drop_zero, Nat.sub_zero, hSd, ← hcut, List.dropLast_eq_take, hpl]
  have hppar : parseL sS.data.toList = .ok ([xa, xb, xc, xd, xe, xf, xg, xi, xj], rw0) := by rw [hSd, hpar]
  have hps4 : ps ≤ 65536 := by
    have h1 := lineL_len [xa, xb, xc, xd, xe, xf, xg, xi, xj] (fun x hx => (may_bounds hmay x hx).2)
    have h2 := bodyL_len rw0
    have h3 : sS.size = (printL [xa, xb, xc, xd, xe, xf, xg, xi, xj] rw0).length := by rw [← hSd, slenB]
    have h4 : [xa, xb, xc, xd, xe, xf, xg, xi, xj].length = 9 := rfl
    rw [h4] at h1
    rw [printL, List.length_append, List.length_cons] at h3; omega
  have hps0 : ((sS.size : Int) == 0) = false := beq_eq_false_iff_ne.2 (by omega)
  have hps1 : (sS.size : Int) - 1 = ps := by omega
  have hps2 : ps ≤ sS.size := by omega
  have hps3 : (ps : Int) ≤ sS.size := by omega
  obtain ⟨kk, hkk⟩ : ∃ kk, ofK k = kk := ⟨_, rfl⟩
  obtain ⟨vv, hvv⟩ : ∃ x, ofV k v.data.toList = x := ⟨_, rfl⟩
  obtain ⟨hh, hhh⟩ : ∃ x, ofH k has = x := ⟨_, rfl⟩
  obtain ⟨ee, hee⟩ : ∃ x, ofE k has e.data.toList = x := ⟨_, rfl⟩
  have h0 := Sat.start w
  have hof := fun (B w : World) (L : List HP) (h : Sat B L w) => pof k r c hk v e has h
  simp only [hkk, hvv, hhh, hee] at hof hofm hline hlen
  obtain ⟨tS, htS⟩ : ∃ tS : ByteArray, (⟨(opLine kk [r, 114] [c] vv hh ee).toArray⟩ : ByteArray) = tS := ⟨_, rfl⟩
  have hTd : tS.data.toList = opLine kk [r, 114] [c] vv hh ee := by rw [← htS]
  have htl : tS.size ≤ 2000000 := by rw [← slenB, hTd]; omega
  have hrd : readW (splL 32 tS.data.toList) = some (kk, [r, 114], [c], vv, hh, ee) := by rw [hTd, hline]
  have Hl := Lib.hid (And.intro (And.intro hppar hpcut) (And.intro hrd hofm))
  have Hm := Lib.hid hmay
  have Hs := Lib.hid (And.intro hsS htS)
  have Hlk := Lib.hid hlk
  clear hpar hcut hline hlen hofm hmay hSd hppar hpcut hsS htS hTd hrd hps hq hkk hvv hhh hee hlk
  go_enter Tryz.func3, Tryz.ntmps3
  have h1 := ((h0.alloc' (.cells #[.int .u8 na, .int .u8 nb, .int .u8 nc, .int .u8 nd, .int .u8 ne, .int .u8 nf, .int .u8 ng, .int .u8 ni, .int .u8 nj] 22) (n := w.heap.size) rfl).alloc' (.cells (spotC k r c v e has) 25) (n := w.heap.size + 1) (by simp)).alloc' (.cells (setB xa xb xc xd xe xf xg xi xj) 28) (n := w.heap.size + 1 + 1) (by simp)
  go_wp2_with (first
    | (go_at_call 6; refine (pprint_ok (hE.at h1) xa xb xc xd xe xf xg xi xj va m cc rw0 Hm.out (by omega) Hlk.out (h1.reads hr3)).mono ?_; rintro e w2 ⟨rfl, hb2⟩; have h2 := h1.of_below hb2; rw [Hs.out.1])
    | (go_at_call_of 7 (Value.string sS); refine (pparse hE h2 _).mono ?_; rintro e w3 hp; obtain ⟨ra, rc, rfl, h3⟩ := parsed_ok Hl.out.1.1 hp; clear hp;
        have h4 := h3.alloc' (.cells (setB xa xb xc xd xe xf xg xi xj) 28) (n := w3.heap.size) rfl;
        have p7 := h4.p2.pt_cell; have p8 := h4.pt_cell;
        have q0 := p7 0; have q1 := p7 1; have q2 := p7 2; have q3 := p7 3; have q4 := p7 4; have q5 := p7 5; have q6 := p7 6; have q7 := p7 7; have q8 := p7 8;
        have z0 := p8 0; have z1 := p8 1; have z2 := p8 2; have z3 := p8 3; have z4 := p8 4; have z5 := p8 5; have z6 := p8 6; have z7 := p8 7; have z8 := p8 8;
        simp only [setB, List.getElem?_toArray, List.getElem?_cons_zero, List.getElem?_cons_succ] at q0 q1 q2 q3 q4 q5 q6 q7 q8 z0 z1 z2 z3 z4 z5 z6 z7 z8;
        clear p7 p8;
        have k1 := conv_row h4.swap.row_reads rfl; have k2 := conv_row (h4.reads hr3) Hlk.out)
    | (go_at_call_of 7 (Value.string (sS.extract 0 ps)); refine (pparse hE h4 _).mono ?_; rintro e w5 hp; obtain ⟨p, rfl, h5⟩ := parsed_bad Hl.out.1.2 hp; clear hp;
        have h6 := h5.alloc' (.cells #[.pointer none] 36) (n := w5.heap.size) rfl;
        have hAs := pas ⟨p, 0, none⟩ _ (.pointer none) hg h6)
    | (go_at_call 8; refine hAs.mono ?_; rintro e w6 ⟨rfl, h7⟩; have c6 := h7.pt_cell 0; have p60 : w6.cell? ⟨p, 0, none⟩ = some (.int .i64 15) := h7.swap.pt_cell 0; have p61 : w6.cell? ⟨p, 1, none⟩ = some (.int .i64 q) := h7.swap.pt_cell 1;
        have c5 := (h7.pull (i := 5) rfl).pt_cell;
        have e0 := c5 0; have e1 := c5 1; have e2 := c5 2; have e3 := c5 3; have e4 := c5 4; have e5 := c5 5;
        simp only [spotC, List.getElem?_toArray, List.getElem?_cons_zero, List.getElem?_cons_succ] at e0 e1 e2 e3 e4 e5; clear c5)
    | (go_at_call 9; refine (hof _ _ _ h7).mono ?_; rintro e w8 ⟨rfl, h8⟩;
        have h9 := h8.alloc' (.cells (opC kk (bA [r, 114]) (bA [c]) (bA vv) hh (bA ee)) 42) (n := w8.heap.size) rfl;
        have c9 := h9.pt_cell;
        have o0 := c9 0; have o1 := c9 1; have o2 := c9 2; have o3 := c9 3; have o4 := c9 4; have o5 := c9 5;
        simp only [opC, List.getElem?_toArray, List.getElem?_cons_zero, List.getElem?_cons_succ] at o0 o1 o2 o3 o4 o5; clear c9)
    | (go_at_call 10; refine (popTextB hF kk [r, 114] [c] vv hh ee Hl.out.2.2 h9).mono ?_; rintro e w10 ⟨rfl, h10⟩; rw [Hs.out.2])
    | (go_at_call 11; refine (pOp hE hF tS htl h10).mono ?_; rintro e w11 ho; obtain ⟨rfl, h11⟩ := opOut_ok Hl.out.2.1 ho; clear ho;
        have h12 := h11.alloc' (.cells (opC kk (bA [r, 114]) (bA [c]) (bA vv) hh (bA ee)) 42) (n := w11.heap.size) rfl;
        have c9 := h12.pt_cell;
        have i0 := c9 0; have i1 := c9 1; have i2 := c9 2; have i3 := c9 3; have i4 := c9 4; have i5 := c9 5;
        simp only [opC, List.getElem?_toArray, List.getElem?_cons_zero, List.getElem?_cons_succ] at i0 i1 i2 i3 i4 i5; clear c9;
        have c9 := h12.swap.pt_cell;
        have j0 := c9 0; have j1 := c9 1; have j2 := c9 2; have j3 := c9 3; have j4 := c9 4; have j5 := c9 5;
        simp only [opC, List.getElem?_toArray, List.getElem?_cons_zero, List.getElem?_cons_succ] at j0 j1 j2 j3 j4 j5; clear c9)
    | (go_at_call 12; refine (pworks (hE.at h12)).mono ?_; rintro e w13 ⟨rfl, hb13⟩; have h13 := h12.of_below hb13))
  go_ret
  exact ⟨rfl, h13.below⟩
end
end Go.Proofs.YtcjindifdghpgaaGreatDoor
