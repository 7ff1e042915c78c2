/-
  The document's at, bytes, Op: contracts. (Printed by a program of this repo: gen/opsf.py.)
-/
import Derived.Test.YtcjindifdghpgaaGreatDoorOpsCE
import Derived.Test.YtcjindifdghpgaaGreatDoorOpsD
import Derived.Test.YtcjindifdghpgaaGreatDoorOps7
import Derived.Test.YtcjindifdghpgaaGreatDoorScrJ
namespace Go.Proofs.YtcjindifdghpgaaGreatDoor
set_option linter.all false
open Go.RowKit
section
variable {B w : World} {L : List HP}
theorem rat (g off n cc i : Nat) (ii : Int) (hii : ii = i) (ws : List Bs) (hn : ws.length = n) (h : Sat B (row 9 1 (.slice (some ⟨g, off, none⟩) n cc) n (strL ws) :: L) w) :
    Calls Tryz.prog 51 #[.slice (some ⟨g, off, none⟩) n cc, .int .i64 ii] w fun y w' => y = .returned (.string (bA (atL ws i))) ∧ w' = w := by
  subst hii
  by_cases hi : i < n
  · have hi2 : (i : Int) < n := by omega
    obtain ⟨sp, hsp⟩ : ∃ sp : ByteArray, bA (atL ws i) = sp := ⟨_, rfl⟩
    have hw : ws[i]? = some (atL ws i) := by rw [atL, List.getD, List.getElem?_eq_getElem (by omega)]; rfl
    have c1 : w.cell? ⟨g, off + i, none⟩ = some (.string sp) := row_cell_at h i (.string sp) (by rw [← hsp]; simp [strL, hw])
    rw [hsp]
    clear hsp hw
    go_enter Tryz.func51, Tryz.ntmps51
    go_wp2_with fail
    go_ret
    exact ⟨rfl, rfl⟩
  · have hi2 : ¬ (i : Int) < n := by omega
    have hw : atL ws i = [] := by rw [atL, List.getD, List.getElem?_eq_none (by omega)]; rfl
    have Hw := Lib.hid hw
    clear hw
    go_enter Tryz.func51, Tryz.ntmps51
    go_wp2_with fail
    go_ret
    exact ⟨by rw [Hw.out]; rfl, rfl⟩
theorem rbytes (s : Bs) (hs : s.length ≤ 100000) (h : Sat B L w) : Calls Tryz.prog 50 #[.string (bA s)] w fun y w' => y = .returned (.string (bA (unB s))) ∧ Sat B L w' := by
  have hu := runhex (bA s) (by show s.length ≤ _; omega) h
  go_enter Tryz.func50, Tryz.ntmps50
  go_wp2_with (go_at_call 76; refine hu.mono ?_; rintro y w1 ⟨rfl, h1⟩)
  go_ret
  exact ⟨rfl, h1⟩
/-- What the document's Op answers. -/
def ropOut (s : Bs) (B : World) (L : List HP) (y : Ending) (w' : World) : Prop :=
  (∃ k r c v has e, opR s = some (k, r, c, v, has, e) ∧ y = .returned (.tuple #[.agg (opC k (bA r) (bA c) (bA v) has (bA e)), .bool true]) ∧ Sat B L w') ∨
  (opR s = none ∧ y = .returned (.tuple #[.agg (opC 0 (bA []) (bA []) (bA []) false (bA [])), .bool false]) ∧ Sat B L w')
theorem ropText_ok (k : Int) (r c v : Bs) (has : Bool) (e : Bs) (hm : mayOp k r c v has e = true) (hS : Sat B L w) :
    Calls Tryz.prog 13 #[.agg (opC k (bA r) (bA c) (bA v) has (bA e))] w fun y w' => y = .returned (.tuple #[.string (bA (opLine k r c v has e)), .int .i64 0]) ∧ Sat B L w' := by
  have h := ropText k (bA r) (bA c) (bA v) has (bA e) hS
  rw [if_pos (show mayOp k (bA r).data.toList (bA c).data.toList (bA v).data.toList has (bA e).data.toList = true from hm)] at h
  exact h
theorem ropText_no (k : Int) (r c v : Bs) (has : Bool) (e : Bs) (hm : ¬ mayOp k r c v has e = true) (hS : Sat B L w) :
    Calls Tryz.prog 13 #[.agg (opC k (bA r) (bA c) (bA v) has (bA e))] w fun y w' => y = .returned (.tuple #[.string ⟨#[]⟩, .int .i64 2]) ∧ Sat B L w' := by
  have h := ropText k (bA r) (bA c) (bA v) has (bA e) hS
  rw [if_neg (show ¬ mayOp k (bA r).data.toList (bA c).data.toList (bA v).data.toList has (bA e).data.toList = true from hm)] at h
  exact h
set_option maxHeartbeats 1000000 in
set_option maxRecDepth 100000 in
theorem rOp_big (s : ByteArray) (hs : 4000 < s.size) (h : Sat B L w) : Calls Tryz.prog 16 #[.string s] w (ropOut s.data.toList B L) := by
  have h1 := h.alloc' zOp (n := w.heap.size) rfl
  have hb : (4000 : Int) < s.size := by omega
  have ho : opR s.data.toList = none := by rw [opR, if_pos (by rw [slenB]; exact hs)]
  have Ho := Lib.hid ho
  clear ho hs
  go_enter Tryz.func16, Tryz.ntmps16
  go_wp2_with ((with_reducible change wpList _ _ _ ({ dst := _, op := Op.store _ (.tmp 2) _, type := _, pos := _, after := _, guard := _ } :: _) _ _); (refine wpList_store_all (vs := opC 0 (bA []) (bA []) (bA []) false (bA [])) rfl (.tmp 2) _ rfl rfl rfl (by kernel_rfl) h1 rfl (by simp [Value.oneCell']) ?_); intro w8 h8; have p6 := h8.pt_cell; have z0 := p6 0; have z1 := p6 1; have z2 := p6 2; have z3 := p6 3; have z4 := p6 4; have z5 := p6 5; simp only [List.getElem?_toArray, List.getElem?_cons_zero, List.getElem?_cons_succ] at z0 z1 z2 z3 z4 z5; clear p6; go_frame)
  exact bodyPost_ret (v := .tuple #[.agg (opC 0 (bA []) (bA []) (bA []) false (bA [])), .bool false]) (by simp [results, Tryz.results16, go_sem, z0, z1, z2, z3, z4, z5]) rfl (.inr ⟨Ho.out, rfl, h8.drop⟩)
set_option maxHeartbeats 4000000 in
set_option maxRecDepth 100000 in
theorem rOp_put (s : ByteArray) (hs : ¬ 4000 < s.size) (ws : List Bs) (hws : splL 32 s.data.toList = ws) (q0 : atL ws 0 = wPut) (h : Sat B L w) : Calls Tryz.prog 16 #[.string s] w (ropOut s.data.toList B L) := by
  have h1 := h.alloc' zOp (n := w.heap.size) rfl
  have hb : ¬ (4000 : Int) < s.size := by omega
  have hsp : Calls Tryz.prog 49 #[.string s, .int .u8 32] _ _ := rsplit s 32 (by omega) h1
  have hne : ws ≠ [] := by rw [← hws]; exact splL_ne _ _
  have hlen : ∀ p ∈ ws, p.length ≤ 4000 := fun p hp => by
    have := (splL_mem 32 s.data.toList p (by rw [hws]; exact hp)).1
    rw [slenB] at this; omega
  have hat : ∀ i, (atL ws i).length ≤ 100000 := fun i => by
    rw [atL, List.getD]
    cases hi : ws[i]? with
    | none => simp
    | some p => have := hlen p (List.mem_of_getElem? hi); simp; omega
  obtain ⟨S, hS⟩ : ∃ S, s.data.toList = S := ⟨_, rfl⟩
  rw [hS] at hws hsp ⊢
  rw [hws] at hsp
  have hopr : opR S = (if mayOp (candW ws).1 (candW ws).2.1 (candW ws).2.2.1 (candW ws).2.2.2.1 (candW ws).2.2.2.2.1 (candW ws).2.2.2.2.2 = true ∧ opLine (candW ws).1 (candW ws).2.1 (candW ws).2.2.1 (candW ws).2.2.2.1 (candW ws).2.2.2.2.1 (candW ws).2.2.2.2.2 = S then some (candW ws) else none) := by
    rw [opR, if_neg (by rw [← hS, slenB]; exact hs), hws]
  have hcand : candW ws = (1, unB (atL ws 1), unB (atL ws 2), (unB (atL ws 3)), false, []) := by simp [candW, q0]
  have e0 : (atL ws 0 == [112, 117, 116]) = true := by rw [q0]; rfl
  have hb1 := fun (M : List HP) (w' : World) (h' : Sat B M w') => rbytes (atL ws 1) (hat 1) h'
  have hb2 := fun (M : List HP) (w' : World) (h' : Sat B M w') => rbytes (atL ws 2) (hat 2) h'
  have hb3 := fun (M : List HP) (w' : World) (h' : Sat B M w') => rbytes (atL ws 3) (hat 3) h'
  have hb5 := fun (M : List HP) (w' : World) (h' : Sat B M w') => rbytes (atL ws 5) (hat 5) h'
  have Hopr := Lib.hid (And.intro hopr hS)
  have Hcand := Lib.hid hcand
  have Hne := Lib.hid hne
  clear hopr hcand hne hlen hat hws hS hs q0
  go_enter Tryz.func16, Tryz.ntmps16
  go_wp2_with (go_at_call 49; refine hsp.mono ?_; rintro y w1 ⟨a, n, cc, hn, rfl, h2⟩)
  obtain ⟨g, off, ha⟩ : ∃ g off, a = some ⟨g, off, none⟩ := by
    rcases h2.row_form with ⟨hx, h0, _⟩ | ⟨g, off, cap, hx, _⟩
    · exact absurd (List.eq_nil_of_length_eq_zero (hn.trans h0)) Hne.out
    · cases hx; exact ⟨g, off, rfl⟩
  subst ha
  have hn1 : 1 ≤ n := by rw [← hn]; exact List.length_pos_iff.2 Hne.out
  have hn2 : (0 : Int) < n := by omega
  have ha1 := fun (M : List HP) (w' : World) h' => rat (B := B) (L := M) (w := w') g off n cc 1 1 rfl ws hn h'
  have ha2 := fun (M : List HP) (w' : World) h' => rat (B := B) (L := M) (w := w') g off n cc 2 2 rfl ws hn h'
  have ha3 := fun (M : List HP) (w' : World) h' => rat (B := B) (L := M) (w := w') g off n cc 3 3 rfl ws hn h'
  have ha4 := fun (M : List HP) (w' : World) h' => rat (B := B) (L := M) (w := w') g off n cc 4 4 rfl ws hn h'
  have ha5 := fun (M : List HP) (w' : World) h' => rat (B := B) (L := M) (w := w') g off n cc 5 5 rfl ws hn h'
  have hw0 : ws[0]? = some (atL ws 0) := by rw [atL, List.getD, List.getElem?_eq_getElem (by omega)]; rfl
  have Hw0 := Lib.hid hw0
  have Hn := Lib.hid hn
  clear hw0 hn hsp h1 h
  go_wp2_with (first
    | (go_at_call_of 51 (Value.int .i64 1); refine (ha1 _ _ h2).mono ?_; rintro y w' ⟨rfl, rfl⟩)
    | (go_at_call_of 50 (Value.string (bA (atL ws 1))); refine (hb1 _ _ h2).mono ?_; rintro y w3 ⟨rfl, h3⟩)
    | (go_at_call_of 51 (Value.int .i64 2); refine (ha2 _ _ h3).mono ?_; rintro y w' ⟨rfl, rfl⟩)
    | (go_at_call_of 50 (Value.string (bA (atL ws 2))); refine (hb2 _ _ h3).mono ?_; rintro y w4 ⟨rfl, h4⟩;
        have h5 := h4.alloc' (.cells (opC 0 (bA (unB (atL ws 1))) (bA (unB (atL ws 2))) (bA []) false (bA [])) 42) (n := w4.heap.size) rfl;
        have c0 := row_cell_at h5.swap 0 (.string (bA (atL ws 0))) (by simp [strL, Hw0.out]); simp only [Nat.add_zero] at c0;
        have p9 := h5.pt_cell; have x0 := p9 0; have x1 := p9 1; have x2 := p9 2; have x3 := p9 3; have x4 := p9 4; have x5 := p9 5; simp only [List.getElem?_toArray, List.getElem?_cons_zero, List.getElem?_cons_succ] at x0 x1 x2 x3 x4 x5; clear p9; have y0 := h5.pt_free 0; have y1 := h5.pt_free 1; have y2 := h5.pt_free 2; have y3 := h5.pt_free 3; have y4 := h5.pt_free 4; have y5 := h5.pt_free 5)
    | (go_at_call_of 51 (Value.int .i64 3); have hT1 := h4.alloc' (.cells (opC 1 (bA (unB (atL ws 1))) (bA (unB (atL ws 2))) (bA []) false (bA [])) 42) (n := w4.heap.size) rfl; refine (ha3 _ _ hT1.swap).mono ?_; rintro y w' ⟨rfl, rfl⟩)
    | (go_at_call_of 50 (Value.string (bA (atL ws 3))); refine (hb3 _ _ hT1.swap).mono ?_; rintro y w9 ⟨rfl, h9⟩; have h9s := h9.swap; have p9 := h9s.pt_cell; have r0 := p9 0; have r1 := p9 1; have r2 := p9 2; have r3 := p9 3; have r4 := p9 4; have r5 := p9 5; simp only [List.getElem?_toArray, List.getElem?_cons_zero, List.getElem?_cons_succ] at r0 r1 r2 r3 r4 r5; clear p9; have t0 := h9s.pt_free 0; have t1 := h9s.pt_free 1; have t2 := h9s.pt_free 2; have t3 := h9s.pt_free 3; have t4 := h9s.pt_free 4; have t5 := h9s.pt_free 5; have hT2 : Sat B (pt _ (.cells (opC 1 (bA (unB (atL ws 1))) (bA (unB (atL ws 2))) (bA (unB (atL ws 3))) false (bA [])) 42) :: _) _ := h9s.set (j := 3) (.string (bA (unB (atL ws 3))))))
  have hT := (show Sat B (pt _ (.cells (opC 1 (bA (unB (atL ws 1))) (bA (unB (atL ws 2))) (bA (unB (atL ws 3))) false (bA [])) 42) :: _) _ from hT2)
  have p9 := hT.pt_cell; have i0 := p9 0; have i1 := p9 1; have i2 := p9 2; have i3 := p9 3; have i4 := p9 4; have i5 := p9 5; simp only [List.getElem?_toArray, List.getElem?_cons_zero, List.getElem?_cons_succ] at i0 i1 i2 i3 i4 i5; clear p9
  by_cases hm : mayOp 1 (unB (atL ws 1)) (unB (atL ws 2)) (unB (atL ws 3)) false [] = true
  · by_cases hl : opLine 1 (unB (atL ws 1)) (unB (atL ws 2)) (unB (atL ws 3)) false [] = S
    · have ho : opR S = some (1, unB (atL ws 1), unB (atL ws 2), (unB (atL ws 3)), false, []) := by rw [Hopr.out.1, Hcand.out]; exact if_pos ⟨hm, hl⟩
      have hq : (opLine 1 (unB (atL ws 1)) (unB (atL ws 2)) (unB (atL ws 3)) false [] == s.toList) = true := by rw [Lib.toList_data, Hopr.out.2]; simp [hl]
      have Ho := Lib.hid ho
      have hO := ropText_ok 1 (unB (atL ws 1)) (unB (atL ws 2)) (unB (atL ws 3)) false [] hm hT
      generalize opLine 1 (unB (atL ws 1)) (unB (atL ws 2)) (unB (atL ws 3)) false [] = tl at hO hq
      clear ho hm hl
      go_wp2_with (first | (go_at_call 13; refine hO.mono ?_; rintro y w6 ⟨rfl, h6⟩; have p9 := h6.pt_cell; have j0 := p9 0; have j1 := p9 1; have j2 := p9 2; have j3 := p9 3; have j4 := p9 4; have j5 := p9 5; simp only [List.getElem?_toArray, List.getElem?_cons_zero, List.getElem?_cons_succ] at j0 j1 j2 j3 j4 j5; clear p9; have h7 := h6.p2) | ((with_reducible change wpList _ _ _ ({ dst := _, op := Op.store _ (.tmp 2) _, type := _, pos := _, after := _, guard := _ } :: _) _ _); (refine wpList_store_all (vs := opC 1 (bA (unB (atL ws 1))) (bA (unB (atL ws 2))) (bA (unB (atL ws 3))) false (bA [])) rfl (.tmp 2) _ rfl rfl rfl (by kernel_rfl) h7 rfl (by simp [Value.oneCell']) ?_); intro w8 h8; have p6 := h8.pt_cell; have z0 := p6 0; have z1 := p6 1; have z2 := p6 2; have z3 := p6 3; have z4 := p6 4; have z5 := p6 5; simp only [List.getElem?_toArray, List.getElem?_cons_zero, List.getElem?_cons_succ] at z0 z1 z2 z3 z4 z5; clear p6; go_frame))
      exact bodyPost_ret (v := .tuple #[.agg (opC 1 (bA (unB (atL ws 1))) (bA (unB (atL ws 2))) (bA (unB (atL ws 3))) false (bA [])), .bool true]) (by simp [results, Tryz.results16, go_sem, z0, z1, z2, z3, z4, z5]) rfl (.inl ⟨_, _, _, _, _, _, Ho.out, rfl, h8.drop.drop.drop⟩)
    · have ho : opR S = none := by rw [Hopr.out.1, Hcand.out]; exact if_neg (fun hh => hl hh.2)
      have hq : (opLine 1 (unB (atL ws 1)) (unB (atL ws 2)) (unB (atL ws 3)) false [] == s.toList) = false := by rw [Lib.toList_data, Hopr.out.2]; simpa using hl
      have Ho := Lib.hid ho
      have hO := ropText_ok 1 (unB (atL ws 1)) (unB (atL ws 2)) (unB (atL ws 3)) false [] hm hT
      generalize opLine 1 (unB (atL ws 1)) (unB (atL ws 2)) (unB (atL ws 3)) false [] = tl at hO hq
      clear ho hm hl
      go_wp2_with (first | (go_at_call 13; refine hO.mono ?_; rintro y w6 ⟨rfl, h6⟩; have h7 := h6.p2) | ((with_reducible change wpList _ _ _ ({ dst := _, op := Op.store _ (.tmp 2) _, type := _, pos := _, after := _, guard := _ } :: _) _ _); (refine wpList_store_all (vs := opC 0 (bA []) (bA []) (bA []) false (bA [])) rfl (.tmp 2) _ rfl rfl rfl (by kernel_rfl) h7 rfl (by simp [Value.oneCell']) ?_); intro w8 h8; have p6 := h8.pt_cell; have z0 := p6 0; have z1 := p6 1; have z2 := p6 2; have z3 := p6 3; have z4 := p6 4; have z5 := p6 5; simp only [List.getElem?_toArray, List.getElem?_cons_zero, List.getElem?_cons_succ] at z0 z1 z2 z3 z4 z5; clear p6; go_frame))
      exact bodyPost_ret (v := .tuple #[.agg (opC 0 (bA []) (bA []) (bA []) false (bA [])), .bool false]) (by simp [results, Tryz.results16, go_sem, z0, z1, z2, z3, z4, z5]) rfl (.inr ⟨Ho.out, rfl, h8.drop.drop.drop⟩)
  · have ho : opR S = none := by rw [Hopr.out.1, Hcand.out]; exact if_neg (fun hh => hm hh.1)
    have Ho := Lib.hid ho
    have hO := ropText_no 1 (unB (atL ws 1)) (unB (atL ws 2)) (unB (atL ws 3)) false [] hm hT
    clear ho hm
    go_wp2_with (first | (go_at_call 13; refine hO.mono ?_; rintro y w6 ⟨rfl, h6⟩; have h7 := h6.p2) | ((with_reducible change wpList _ _ _ ({ dst := _, op := Op.store _ (.tmp 2) _, type := _, pos := _, after := _, guard := _ } :: _) _ _); (refine wpList_store_all (vs := opC 0 (bA []) (bA []) (bA []) false (bA [])) rfl (.tmp 2) _ rfl rfl rfl (by kernel_rfl) h7 rfl (by simp [Value.oneCell']) ?_); intro w8 h8; have p6 := h8.pt_cell; have z0 := p6 0; have z1 := p6 1; have z2 := p6 2; have z3 := p6 3; have z4 := p6 4; have z5 := p6 5; simp only [List.getElem?_toArray, List.getElem?_cons_zero, List.getElem?_cons_succ] at z0 z1 z2 z3 z4 z5; clear p6; go_frame))
    exact bodyPost_ret (v := .tuple #[.agg (opC 0 (bA []) (bA []) (bA []) false (bA [])), .bool false]) (by simp [results, Tryz.results16, go_sem, z0, z1, z2, z3, z4, z5]) rfl (.inr ⟨Ho.out, rfl, h8.drop.drop.drop⟩)
set_option maxHeartbeats 4000000 in
set_option maxRecDepth 100000 in
theorem rOp_get (s : ByteArray) (hs : ¬ 4000 < s.size) (ws : List Bs) (hws : splL 32 s.data.toList = ws) (n0 : ¬ atL ws 0 = wPut) (q1 : atL ws 0 = wGet) (h : Sat B L w) : Calls Tryz.prog 16 #[.string s] w (ropOut s.data.toList B L) := by
  have h1 := h.alloc' zOp (n := w.heap.size) rfl
  have hb : ¬ (4000 : Int) < s.size := by omega
  have hsp : Calls Tryz.prog 49 #[.string s, .int .u8 32] _ _ := rsplit s 32 (by omega) h1
  have hne : ws ≠ [] := by rw [← hws]; exact splL_ne _ _
  have hlen : ∀ p ∈ ws, p.length ≤ 4000 := fun p hp => by
    have := (splL_mem 32 s.data.toList p (by rw [hws]; exact hp)).1
    rw [slenB] at this; omega
  have hat : ∀ i, (atL ws i).length ≤ 100000 := fun i => by
    rw [atL, List.getD]
    cases hi : ws[i]? with
    | none => simp
    | some p => have := hlen p (List.mem_of_getElem? hi); simp; omega
  obtain ⟨S, hS⟩ : ∃ S, s.data.toList = S := ⟨_, rfl⟩
  rw [hS] at hws hsp ⊢
  rw [hws] at hsp
  have hopr : opR S = (if mayOp (candW ws).1 (candW ws).2.1 (candW ws).2.2.1 (candW ws).2.2.2.1 (candW ws).2.2.2.2.1 (candW ws).2.2.2.2.2 = true ∧ opLine (candW ws).1 (candW ws).2.1 (candW ws).2.2.1 (candW ws).2.2.2.1 (candW ws).2.2.2.2.1 (candW ws).2.2.2.2.2 = S then some (candW ws) else none) := by
    rw [opR, if_neg (by rw [← hS, slenB]; exact hs), hws]
  have hcand : candW ws = (2, unB (atL ws 1), unB (atL ws 2), [], false, []) := by simp [candW, n0, q1]
  have e0 : (atL ws 0 == [112, 117, 116]) = false := by exact beq_eq_false_iff_ne.2 n0
  have e1 : (atL ws 0 == [103, 101, 116]) = true := by rw [q1]; rfl
  have hb1 := fun (M : List HP) (w' : World) (h' : Sat B M w') => rbytes (atL ws 1) (hat 1) h'
  have hb2 := fun (M : List HP) (w' : World) (h' : Sat B M w') => rbytes (atL ws 2) (hat 2) h'
  have hb3 := fun (M : List HP) (w' : World) (h' : Sat B M w') => rbytes (atL ws 3) (hat 3) h'
  have hb5 := fun (M : List HP) (w' : World) (h' : Sat B M w') => rbytes (atL ws 5) (hat 5) h'
  have Hopr := Lib.hid (And.intro hopr hS)
  have Hcand := Lib.hid hcand
  have Hne := Lib.hid hne
  clear hopr hcand hne hlen hat hws hS hs n0 q1
  go_enter Tryz.func16, Tryz.ntmps16
  go_wp2_with (go_at_call 49; refine hsp.mono ?_; rintro y w1 ⟨a, n, cc, hn, rfl, h2⟩)
  obtain ⟨g, off, ha⟩ : ∃ g off, a = some ⟨g, off, none⟩ := by
    rcases h2.row_form with ⟨hx, h0, _⟩ | ⟨g, off, cap, hx, _⟩
    · exact absurd (List.eq_nil_of_length_eq_zero (hn.trans h0)) Hne.out
    · cases hx; exact ⟨g, off, rfl⟩
  subst ha
  have hn1 : 1 ≤ n := by rw [← hn]; exact List.length_pos_iff.2 Hne.out
  have hn2 : (0 : Int) < n := by omega
  have ha1 := fun (M : List HP) (w' : World) h' => rat (B := B) (L := M) (w := w') g off n cc 1 1 rfl ws hn h'
  have ha2 := fun (M : List HP) (w' : World) h' => rat (B := B) (L := M) (w := w') g off n cc 2 2 rfl ws hn h'
  have ha3 := fun (M : List HP) (w' : World) h' => rat (B := B) (L := M) (w := w') g off n cc 3 3 rfl ws hn h'
  have ha4 := fun (M : List HP) (w' : World) h' => rat (B := B) (L := M) (w := w') g off n cc 4 4 rfl ws hn h'
  have ha5 := fun (M : List HP) (w' : World) h' => rat (B := B) (L := M) (w := w') g off n cc 5 5 rfl ws hn h'
  have hw0 : ws[0]? = some (atL ws 0) := by rw [atL, List.getD, List.getElem?_eq_getElem (by omega)]; rfl
  have Hw0 := Lib.hid hw0
  have Hn := Lib.hid hn
  clear hw0 hn hsp h1 h
  go_wp2_with (first
    | (go_at_call_of 51 (Value.int .i64 1); refine (ha1 _ _ h2).mono ?_; rintro y w' ⟨rfl, rfl⟩)
    | (go_at_call_of 50 (Value.string (bA (atL ws 1))); refine (hb1 _ _ h2).mono ?_; rintro y w3 ⟨rfl, h3⟩)
    | (go_at_call_of 51 (Value.int .i64 2); refine (ha2 _ _ h3).mono ?_; rintro y w' ⟨rfl, rfl⟩)
    | (go_at_call_of 50 (Value.string (bA (atL ws 2))); refine (hb2 _ _ h3).mono ?_; rintro y w4 ⟨rfl, h4⟩;
        have h5 := h4.alloc' (.cells (opC 0 (bA (unB (atL ws 1))) (bA (unB (atL ws 2))) (bA []) false (bA [])) 42) (n := w4.heap.size) rfl;
        have c0 := row_cell_at h5.swap 0 (.string (bA (atL ws 0))) (by simp [strL, Hw0.out]); simp only [Nat.add_zero] at c0;
        have p9 := h5.pt_cell; have x0 := p9 0; have x1 := p9 1; have x2 := p9 2; have x3 := p9 3; have x4 := p9 4; have x5 := p9 5; simp only [List.getElem?_toArray, List.getElem?_cons_zero, List.getElem?_cons_succ] at x0 x1 x2 x3 x4 x5; clear p9; have y0 := h5.pt_free 0; have y1 := h5.pt_free 1; have y2 := h5.pt_free 2; have y3 := h5.pt_free 3; have y4 := h5.pt_free 4; have y5 := h5.pt_free 5)
    | fail)
  have hT := h4.alloc' (.cells (opC 2 (bA (unB (atL ws 1))) (bA (unB (atL ws 2))) (bA []) false (bA [])) 42) (n := w4.heap.size) rfl
  have p9 := hT.pt_cell; have i0 := p9 0; have i1 := p9 1; have i2 := p9 2; have i3 := p9 3; have i4 := p9 4; have i5 := p9 5; simp only [List.getElem?_toArray, List.getElem?_cons_zero, List.getElem?_cons_succ] at i0 i1 i2 i3 i4 i5; clear p9
  by_cases hm : mayOp 2 (unB (atL ws 1)) (unB (atL ws 2)) [] false [] = true
  · by_cases hl : opLine 2 (unB (atL ws 1)) (unB (atL ws 2)) [] false [] = S
    · have ho : opR S = some (2, unB (atL ws 1), unB (atL ws 2), [], false, []) := by rw [Hopr.out.1, Hcand.out]; exact if_pos ⟨hm, hl⟩
      have hq : (opLine 2 (unB (atL ws 1)) (unB (atL ws 2)) [] false [] == s.toList) = true := by rw [Lib.toList_data, Hopr.out.2]; simp [hl]
      have Ho := Lib.hid ho
      have hO := ropText_ok 2 (unB (atL ws 1)) (unB (atL ws 2)) [] false [] hm hT
      generalize opLine 2 (unB (atL ws 1)) (unB (atL ws 2)) [] false [] = tl at hO hq
      clear ho hm hl
      go_wp2_with (first | (go_at_call 13; refine hO.mono ?_; rintro y w6 ⟨rfl, h6⟩; have p9 := h6.pt_cell; have j0 := p9 0; have j1 := p9 1; have j2 := p9 2; have j3 := p9 3; have j4 := p9 4; have j5 := p9 5; simp only [List.getElem?_toArray, List.getElem?_cons_zero, List.getElem?_cons_succ] at j0 j1 j2 j3 j4 j5; clear p9; have h7 := h6.p2) | ((with_reducible change wpList _ _ _ ({ dst := _, op := Op.store _ (.tmp 2) _, type := _, pos := _, after := _, guard := _ } :: _) _ _); (refine wpList_store_all (vs := opC 2 (bA (unB (atL ws 1))) (bA (unB (atL ws 2))) (bA []) false (bA [])) rfl (.tmp 2) _ rfl rfl rfl (by kernel_rfl) h7 rfl (by simp [Value.oneCell']) ?_); intro w8 h8; have p6 := h8.pt_cell; have z0 := p6 0; have z1 := p6 1; have z2 := p6 2; have z3 := p6 3; have z4 := p6 4; have z5 := p6 5; simp only [List.getElem?_toArray, List.getElem?_cons_zero, List.getElem?_cons_succ] at z0 z1 z2 z3 z4 z5; clear p6; go_frame))
      exact bodyPost_ret (v := .tuple #[.agg (opC 2 (bA (unB (atL ws 1))) (bA (unB (atL ws 2))) (bA []) false (bA [])), .bool true]) (by simp [results, Tryz.results16, go_sem, z0, z1, z2, z3, z4, z5]) rfl (.inl ⟨_, _, _, _, _, _, Ho.out, rfl, h8.drop.drop.drop⟩)
    · have ho : opR S = none := by rw [Hopr.out.1, Hcand.out]; exact if_neg (fun hh => hl hh.2)
      have hq : (opLine 2 (unB (atL ws 1)) (unB (atL ws 2)) [] false [] == s.toList) = false := by rw [Lib.toList_data, Hopr.out.2]; simpa using hl
      have Ho := Lib.hid ho
      have hO := ropText_ok 2 (unB (atL ws 1)) (unB (atL ws 2)) [] false [] hm hT
      generalize opLine 2 (unB (atL ws 1)) (unB (atL ws 2)) [] false [] = tl at hO hq
      clear ho hm hl
      go_wp2_with (first | (go_at_call 13; refine hO.mono ?_; rintro y w6 ⟨rfl, h6⟩; have h7 := h6.p2) | ((with_reducible change wpList _ _ _ ({ dst := _, op := Op.store _ (.tmp 2) _, type := _, pos := _, after := _, guard := _ } :: _) _ _); (refine wpList_store_all (vs := opC 0 (bA []) (bA []) (bA []) false (bA [])) rfl (.tmp 2) _ rfl rfl rfl (by kernel_rfl) h7 rfl (by simp [Value.oneCell']) ?_); intro w8 h8; have p6 := h8.pt_cell; have z0 := p6 0; have z1 := p6 1; have z2 := p6 2; have z3 := p6 3; have z4 := p6 4; have z5 := p6 5; simp only [List.getElem?_toArray, List.getElem?_cons_zero, List.getElem?_cons_succ] at z0 z1 z2 z3 z4 z5; clear p6; go_frame))
      exact bodyPost_ret (v := .tuple #[.agg (opC 0 (bA []) (bA []) (bA []) false (bA [])), .bool false]) (by simp [results, Tryz.results16, go_sem, z0, z1, z2, z3, z4, z5]) rfl (.inr ⟨Ho.out, rfl, h8.drop.drop.drop⟩)
  · have ho : opR S = none := by rw [Hopr.out.1, Hcand.out]; exact if_neg (fun hh => hm hh.1)
    have Ho := Lib.hid ho
    have hO := ropText_no 2 (unB (atL ws 1)) (unB (atL ws 2)) [] false [] hm hT
    clear ho hm
    go_wp2_with (first | (go_at_call 13; refine hO.mono ?_; rintro y w6 ⟨rfl, h6⟩; have h7 := h6.p2) | ((with_reducible change wpList _ _ _ ({ dst := _, op := Op.store _ (.tmp 2) _, type := _, pos := _, after := _, guard := _ } :: _) _ _); (refine wpList_store_all (vs := opC 0 (bA []) (bA []) (bA []) false (bA [])) rfl (.tmp 2) _ rfl rfl rfl (by kernel_rfl) h7 rfl (by simp [Value.oneCell']) ?_); intro w8 h8; have p6 := h8.pt_cell; have z0 := p6 0; have z1 := p6 1; have z2 := p6 2; have z3 := p6 3; have z4 := p6 4; have z5 := p6 5; simp only [List.getElem?_toArray, List.getElem?_cons_zero, List.getElem?_cons_succ] at z0 z1 z2 z3 z4 z5; clear p6; go_frame))
    exact bodyPost_ret (v := .tuple #[.agg (opC 0 (bA []) (bA []) (bA []) false (bA [])), .bool false]) (by simp [results, Tryz.results16, go_sem, z0, z1, z2, z3, z4, z5]) rfl (.inr ⟨Ho.out, rfl, h8.drop.drop.drop⟩)
set_option maxHeartbeats 4000000 in
set_option maxRecDepth 100000 in
theorem rOp_del (s : ByteArray) (hs : ¬ 4000 < s.size) (ws : List Bs) (hws : splL 32 s.data.toList = ws) (n0 : ¬ atL ws 0 = wPut) (n1 : ¬ atL ws 0 = wGet) (q2 : atL ws 0 = wDel) (h : Sat B L w) : Calls Tryz.prog 16 #[.string s] w (ropOut s.data.toList B L) := by
  have h1 := h.alloc' zOp (n := w.heap.size) rfl
  have hb : ¬ (4000 : Int) < s.size := by omega
  have hsp : Calls Tryz.prog 49 #[.string s, .int .u8 32] _ _ := rsplit s 32 (by omega) h1
  have hne : ws ≠ [] := by rw [← hws]; exact splL_ne _ _
  have hlen : ∀ p ∈ ws, p.length ≤ 4000 := fun p hp => by
    have := (splL_mem 32 s.data.toList p (by rw [hws]; exact hp)).1
    rw [slenB] at this; omega
  have hat : ∀ i, (atL ws i).length ≤ 100000 := fun i => by
    rw [atL, List.getD]
    cases hi : ws[i]? with
    | none => simp
    | some p => have := hlen p (List.mem_of_getElem? hi); simp; omega
  obtain ⟨S, hS⟩ : ∃ S, s.data.toList = S := ⟨_, rfl⟩
  rw [hS] at hws hsp ⊢
  rw [hws] at hsp
  have hopr : opR S = (if mayOp (candW ws).1 (candW ws).2.1 (candW ws).2.2.1 (candW ws).2.2.2.1 (candW ws).2.2.2.2.1 (candW ws).2.2.2.2.2 = true ∧ opLine (candW ws).1 (candW ws).2.1 (candW ws).2.2.1 (candW ws).2.2.2.1 (candW ws).2.2.2.2.1 (candW ws).2.2.2.2.2 = S then some (candW ws) else none) := by
    rw [opR, if_neg (by rw [← hS, slenB]; exact hs), hws]
  have hcand : candW ws = (3, unB (atL ws 1), unB (atL ws 2), [], false, []) := by simp [candW, n0, n1, q2]
  have e0 : (atL ws 0 == [112, 117, 116]) = false := by exact beq_eq_false_iff_ne.2 n0
  have e1 : (atL ws 0 == [103, 101, 116]) = false := by exact beq_eq_false_iff_ne.2 n1
  have e2 : (atL ws 0 == [100, 101, 108]) = true := by rw [q2]; rfl
  have hb1 := fun (M : List HP) (w' : World) (h' : Sat B M w') => rbytes (atL ws 1) (hat 1) h'
  have hb2 := fun (M : List HP) (w' : World) (h' : Sat B M w') => rbytes (atL ws 2) (hat 2) h'
  have hb3 := fun (M : List HP) (w' : World) (h' : Sat B M w') => rbytes (atL ws 3) (hat 3) h'
  have hb5 := fun (M : List HP) (w' : World) (h' : Sat B M w') => rbytes (atL ws 5) (hat 5) h'
  have Hopr := Lib.hid (And.intro hopr hS)
  have Hcand := Lib.hid hcand
  have Hne := Lib.hid hne
  clear hopr hcand hne hlen hat hws hS hs n0 n1 q2
  go_enter Tryz.func16, Tryz.ntmps16
  go_wp2_with (go_at_call 49; refine hsp.mono ?_; rintro y w1 ⟨a, n, cc, hn, rfl, h2⟩)
  obtain ⟨g, off, ha⟩ : ∃ g off, a = some ⟨g, off, none⟩ := by
    rcases h2.row_form with ⟨hx, h0, _⟩ | ⟨g, off, cap, hx, _⟩
    · exact absurd (List.eq_nil_of_length_eq_zero (hn.trans h0)) Hne.out
    · cases hx; exact ⟨g, off, rfl⟩
  subst ha
  have hn1 : 1 ≤ n := by rw [← hn]; exact List.length_pos_iff.2 Hne.out
  have hn2 : (0 : Int) < n := by omega
  have ha1 := fun (M : List HP) (w' : World) h' => rat (B := B) (L := M) (w := w') g off n cc 1 1 rfl ws hn h'
  have ha2 := fun (M : List HP) (w' : World) h' => rat (B := B) (L := M) (w := w') g off n cc 2 2 rfl ws hn h'
  have ha3 := fun (M : List HP) (w' : World) h' => rat (B := B) (L := M) (w := w') g off n cc 3 3 rfl ws hn h'
  have ha4 := fun (M : List HP) (w' : World) h' => rat (B := B) (L := M) (w := w') g off n cc 4 4 rfl ws hn h'
  have ha5 := fun (M : List HP) (w' : World) h' => rat (B := B) (L := M) (w := w') g off n cc 5 5 rfl ws hn h'
  have hw0 : ws[0]? = some (atL ws 0) := by rw [atL, List.getD, List.getElem?_eq_getElem (by omega)]; rfl
  have Hw0 := Lib.hid hw0
  have Hn := Lib.hid hn
  clear hw0 hn hsp h1 h
  go_wp2_with (first
    | (go_at_call_of 51 (Value.int .i64 1); refine (ha1 _ _ h2).mono ?_; rintro y w' ⟨rfl, rfl⟩)
    | (go_at_call_of 50 (Value.string (bA (atL ws 1))); refine (hb1 _ _ h2).mono ?_; rintro y w3 ⟨rfl, h3⟩)
    | (go_at_call_of 51 (Value.int .i64 2); refine (ha2 _ _ h3).mono ?_; rintro y w' ⟨rfl, rfl⟩)
    | (go_at_call_of 50 (Value.string (bA (atL ws 2))); refine (hb2 _ _ h3).mono ?_; rintro y w4 ⟨rfl, h4⟩;
        have h5 := h4.alloc' (.cells (opC 0 (bA (unB (atL ws 1))) (bA (unB (atL ws 2))) (bA []) false (bA [])) 42) (n := w4.heap.size) rfl;
        have c0 := row_cell_at h5.swap 0 (.string (bA (atL ws 0))) (by simp [strL, Hw0.out]); simp only [Nat.add_zero] at c0;
        have p9 := h5.pt_cell; have x0 := p9 0; have x1 := p9 1; have x2 := p9 2; have x3 := p9 3; have x4 := p9 4; have x5 := p9 5; simp only [List.getElem?_toArray, List.getElem?_cons_zero, List.getElem?_cons_succ] at x0 x1 x2 x3 x4 x5; clear p9; have y0 := h5.pt_free 0; have y1 := h5.pt_free 1; have y2 := h5.pt_free 2; have y3 := h5.pt_free 3; have y4 := h5.pt_free 4; have y5 := h5.pt_free 5)
    | fail)
  have hT := h4.alloc' (.cells (opC 3 (bA (unB (atL ws 1))) (bA (unB (atL ws 2))) (bA []) false (bA [])) 42) (n := w4.heap.size) rfl
  have p9 := hT.pt_cell; have i0 := p9 0; have i1 := p9 1; have i2 := p9 2; have i3 := p9 3; have i4 := p9 4; have i5 := p9 5; simp only [List.getElem?_toArray, List.getElem?_cons_zero, List.getElem?_cons_succ] at i0 i1 i2 i3 i4 i5; clear p9
  by_cases hm : mayOp 3 (unB (atL ws 1)) (unB (atL ws 2)) [] false [] = true
  · by_cases hl : opLine 3 (unB (atL ws 1)) (unB (atL ws 2)) [] false [] = S
    · have ho : opR S = some (3, unB (atL ws 1), unB (atL ws 2), [], false, []) := by rw [Hopr.out.1, Hcand.out]; exact if_pos ⟨hm, hl⟩
      have hq : (opLine 3 (unB (atL ws 1)) (unB (atL ws 2)) [] false [] == s.toList) = true := by rw [Lib.toList_data, Hopr.out.2]; simp [hl]
      have Ho := Lib.hid ho
      have hO := ropText_ok 3 (unB (atL ws 1)) (unB (atL ws 2)) [] false [] hm hT
      generalize opLine 3 (unB (atL ws 1)) (unB (atL ws 2)) [] false [] = tl at hO hq
      clear ho hm hl
      go_wp2_with (first | (go_at_call 13; refine hO.mono ?_; rintro y w6 ⟨rfl, h6⟩; have p9 := h6.pt_cell; have j0 := p9 0; have j1 := p9 1; have j2 := p9 2; have j3 := p9 3; have j4 := p9 4; have j5 := p9 5; simp only [List.getElem?_toArray, List.getElem?_cons_zero, List.getElem?_cons_succ] at j0 j1 j2 j3 j4 j5; clear p9; have h7 := h6.p2) | ((with_reducible change wpList _ _ _ ({ dst := _, op := Op.store _ (.tmp 2) _, type := _, pos := _, after := _, guard := _ } :: _) _ _); (refine wpList_store_all (vs := opC 3 (bA (unB (atL ws 1))) (bA (unB (atL ws 2))) (bA []) false (bA [])) rfl (.tmp 2) _ rfl rfl rfl (by kernel_rfl) h7 rfl (by simp [Value.oneCell']) ?_); intro w8 h8; have p6 := h8.pt_cell; have z0 := p6 0; have z1 := p6 1; have z2 := p6 2; have z3 := p6 3; have z4 := p6 4; have z5 := p6 5; simp only [List.getElem?_toArray, List.getElem?_cons_zero, List.getElem?_cons_succ] at z0 z1 z2 z3 z4 z5; clear p6; go_frame))
      exact bodyPost_ret (v := .tuple #[.agg (opC 3 (bA (unB (atL ws 1))) (bA (unB (atL ws 2))) (bA []) false (bA [])), .bool true]) (by simp [results, Tryz.results16, go_sem, z0, z1, z2, z3, z4, z5]) rfl (.inl ⟨_, _, _, _, _, _, Ho.out, rfl, h8.drop.drop.drop⟩)
    · have ho : opR S = none := by rw [Hopr.out.1, Hcand.out]; exact if_neg (fun hh => hl hh.2)
      have hq : (opLine 3 (unB (atL ws 1)) (unB (atL ws 2)) [] false [] == s.toList) = false := by rw [Lib.toList_data, Hopr.out.2]; simpa using hl
      have Ho := Lib.hid ho
      have hO := ropText_ok 3 (unB (atL ws 1)) (unB (atL ws 2)) [] false [] hm hT
      generalize opLine 3 (unB (atL ws 1)) (unB (atL ws 2)) [] false [] = tl at hO hq
      clear ho hm hl
      go_wp2_with (first | (go_at_call 13; refine hO.mono ?_; rintro y w6 ⟨rfl, h6⟩; have h7 := h6.p2) | ((with_reducible change wpList _ _ _ ({ dst := _, op := Op.store _ (.tmp 2) _, type := _, pos := _, after := _, guard := _ } :: _) _ _); (refine wpList_store_all (vs := opC 0 (bA []) (bA []) (bA []) false (bA [])) rfl (.tmp 2) _ rfl rfl rfl (by kernel_rfl) h7 rfl (by simp [Value.oneCell']) ?_); intro w8 h8; have p6 := h8.pt_cell; have z0 := p6 0; have z1 := p6 1; have z2 := p6 2; have z3 := p6 3; have z4 := p6 4; have z5 := p6 5; simp only [List.getElem?_toArray, List.getElem?_cons_zero, List.getElem?_cons_succ] at z0 z1 z2 z3 z4 z5; clear p6; go_frame))
      exact bodyPost_ret (v := .tuple #[.agg (opC 0 (bA []) (bA []) (bA []) false (bA [])), .bool false]) (by simp [results, Tryz.results16, go_sem, z0, z1, z2, z3, z4, z5]) rfl (.inr ⟨Ho.out, rfl, h8.drop.drop.drop⟩)
  · have ho : opR S = none := by rw [Hopr.out.1, Hcand.out]; exact if_neg (fun hh => hm hh.1)
    have Ho := Lib.hid ho
    have hO := ropText_no 3 (unB (atL ws 1)) (unB (atL ws 2)) [] false [] hm hT
    clear ho hm
    go_wp2_with (first | (go_at_call 13; refine hO.mono ?_; rintro y w6 ⟨rfl, h6⟩; have h7 := h6.p2) | ((with_reducible change wpList _ _ _ ({ dst := _, op := Op.store _ (.tmp 2) _, type := _, pos := _, after := _, guard := _ } :: _) _ _); (refine wpList_store_all (vs := opC 0 (bA []) (bA []) (bA []) false (bA [])) rfl (.tmp 2) _ rfl rfl rfl (by kernel_rfl) h7 rfl (by simp [Value.oneCell']) ?_); intro w8 h8; have p6 := h8.pt_cell; have z0 := p6 0; have z1 := p6 1; have z2 := p6 2; have z3 := p6 3; have z4 := p6 4; have z5 := p6 5; simp only [List.getElem?_toArray, List.getElem?_cons_zero, List.getElem?_cons_succ] at z0 z1 z2 z3 z4 z5; clear p6; go_frame))
    exact bodyPost_ret (v := .tuple #[.agg (opC 0 (bA []) (bA []) (bA []) false (bA [])), .bool false]) (by simp [results, Tryz.results16, go_sem, z0, z1, z2, z3, z4, z5]) rfl (.inr ⟨Ho.out, rfl, h8.drop.drop.drop⟩)
set_option maxHeartbeats 4000000 in
set_option maxRecDepth 100000 in
theorem rOp_seek (s : ByteArray) (hs : ¬ 4000 < s.size) (ws : List Bs) (hws : splL 32 s.data.toList = ws) (n0 : ¬ atL ws 0 = wPut) (n1 : ¬ atL ws 0 = wGet) (n2 : ¬ atL ws 0 = wDel) (q3 : atL ws 0 = wSeek) (h : Sat B L w) : Calls Tryz.prog 16 #[.string s] w (ropOut s.data.toList B L) := by
  have h1 := h.alloc' zOp (n := w.heap.size) rfl
  have hb : ¬ (4000 : Int) < s.size := by omega
  have hsp : Calls Tryz.prog 49 #[.string s, .int .u8 32] _ _ := rsplit s 32 (by omega) h1
  have hne : ws ≠ [] := by rw [← hws]; exact splL_ne _ _
  have hlen : ∀ p ∈ ws, p.length ≤ 4000 := fun p hp => by
    have := (splL_mem 32 s.data.toList p (by rw [hws]; exact hp)).1
    rw [slenB] at this; omega
  have hat : ∀ i, (atL ws i).length ≤ 100000 := fun i => by
    rw [atL, List.getD]
    cases hi : ws[i]? with
    | none => simp
    | some p => have := hlen p (List.mem_of_getElem? hi); simp; omega
  obtain ⟨S, hS⟩ : ∃ S, s.data.toList = S := ⟨_, rfl⟩
  rw [hS] at hws hsp ⊢
  rw [hws] at hsp
  have hopr : opR S = (if mayOp (candW ws).1 (candW ws).2.1 (candW ws).2.2.1 (candW ws).2.2.2.1 (candW ws).2.2.2.2.1 (candW ws).2.2.2.2.2 = true ∧ opLine (candW ws).1 (candW ws).2.1 (candW ws).2.2.1 (candW ws).2.2.2.1 (candW ws).2.2.2.2.1 (candW ws).2.2.2.2.2 = S then some (candW ws) else none) := by
    rw [opR, if_neg (by rw [← hS, slenB]; exact hs), hws]
  have hcand : candW ws = (5, unB (atL ws 1), unB (atL ws 2), [], false, []) := by simp [candW, n0, n1, n2, q3]
  have e0 : (atL ws 0 == [112, 117, 116]) = false := by exact beq_eq_false_iff_ne.2 n0
  have e1 : (atL ws 0 == [103, 101, 116]) = false := by exact beq_eq_false_iff_ne.2 n1
  have e2 : (atL ws 0 == [100, 101, 108]) = false := by exact beq_eq_false_iff_ne.2 n2
  have e3 : (atL ws 0 == [115, 101, 101, 107]) = true := by rw [q3]; rfl
  have hb1 := fun (M : List HP) (w' : World) (h' : Sat B M w') => rbytes (atL ws 1) (hat 1) h'
  have hb2 := fun (M : List HP) (w' : World) (h' : Sat B M w') => rbytes (atL ws 2) (hat 2) h'
  have hb3 := fun (M : List HP) (w' : World) (h' : Sat B M w') => rbytes (atL ws 3) (hat 3) h'
  have hb5 := fun (M : List HP) (w' : World) (h' : Sat B M w') => rbytes (atL ws 5) (hat 5) h'
  have Hopr := Lib.hid (And.intro hopr hS)
  have Hcand := Lib.hid hcand
  have Hne := Lib.hid hne
  clear hopr hcand hne hlen hat hws hS hs n0 n1 n2 q3
  go_enter Tryz.func16, Tryz.ntmps16
  go_wp2_with (go_at_call 49; refine hsp.mono ?_; rintro y w1 ⟨a, n, cc, hn, rfl, h2⟩)
  obtain ⟨g, off, ha⟩ : ∃ g off, a = some ⟨g, off, none⟩ := by
    rcases h2.row_form with ⟨hx, h0, _⟩ | ⟨g, off, cap, hx, _⟩
    · exact absurd (List.eq_nil_of_length_eq_zero (hn.trans h0)) Hne.out
    · cases hx; exact ⟨g, off, rfl⟩
  subst ha
  have hn1 : 1 ≤ n := by rw [← hn]; exact List.length_pos_iff.2 Hne.out
  have hn2 : (0 : Int) < n := by omega
  have ha1 := fun (M : List HP) (w' : World) h' => rat (B := B) (L := M) (w := w') g off n cc 1 1 rfl ws hn h'
  have ha2 := fun (M : List HP) (w' : World) h' => rat (B := B) (L := M) (w := w') g off n cc 2 2 rfl ws hn h'
  have ha3 := fun (M : List HP) (w' : World) h' => rat (B := B) (L := M) (w := w') g off n cc 3 3 rfl ws hn h'
  have ha4 := fun (M : List HP) (w' : World) h' => rat (B := B) (L := M) (w := w') g off n cc 4 4 rfl ws hn h'
  have ha5 := fun (M : List HP) (w' : World) h' => rat (B := B) (L := M) (w := w') g off n cc 5 5 rfl ws hn h'
  have hw0 : ws[0]? = some (atL ws 0) := by rw [atL, List.getD, List.getElem?_eq_getElem (by omega)]; rfl
  have Hw0 := Lib.hid hw0
  have Hn := Lib.hid hn
  clear hw0 hn hsp h1 h
  go_wp2_with (first
    | (go_at_call_of 51 (Value.int .i64 1); refine (ha1 _ _ h2).mono ?_; rintro y w' ⟨rfl, rfl⟩)
    | (go_at_call_of 50 (Value.string (bA (atL ws 1))); refine (hb1 _ _ h2).mono ?_; rintro y w3 ⟨rfl, h3⟩)
    | (go_at_call_of 51 (Value.int .i64 2); refine (ha2 _ _ h3).mono ?_; rintro y w' ⟨rfl, rfl⟩)
    | (go_at_call_of 50 (Value.string (bA (atL ws 2))); refine (hb2 _ _ h3).mono ?_; rintro y w4 ⟨rfl, h4⟩;
        have h5 := h4.alloc' (.cells (opC 0 (bA (unB (atL ws 1))) (bA (unB (atL ws 2))) (bA []) false (bA [])) 42) (n := w4.heap.size) rfl;
        have c0 := row_cell_at h5.swap 0 (.string (bA (atL ws 0))) (by simp [strL, Hw0.out]); simp only [Nat.add_zero] at c0;
        have p9 := h5.pt_cell; have x0 := p9 0; have x1 := p9 1; have x2 := p9 2; have x3 := p9 3; have x4 := p9 4; have x5 := p9 5; simp only [List.getElem?_toArray, List.getElem?_cons_zero, List.getElem?_cons_succ] at x0 x1 x2 x3 x4 x5; clear p9; have y0 := h5.pt_free 0; have y1 := h5.pt_free 1; have y2 := h5.pt_free 2; have y3 := h5.pt_free 3; have y4 := h5.pt_free 4; have y5 := h5.pt_free 5)
    | fail)
  have hT := h4.alloc' (.cells (opC 5 (bA (unB (atL ws 1))) (bA (unB (atL ws 2))) (bA []) false (bA [])) 42) (n := w4.heap.size) rfl
  have p9 := hT.pt_cell; have i0 := p9 0; have i1 := p9 1; have i2 := p9 2; have i3 := p9 3; have i4 := p9 4; have i5 := p9 5; simp only [List.getElem?_toArray, List.getElem?_cons_zero, List.getElem?_cons_succ] at i0 i1 i2 i3 i4 i5; clear p9
  by_cases hm : mayOp 5 (unB (atL ws 1)) (unB (atL ws 2)) [] false [] = true
  · by_cases hl : opLine 5 (unB (atL ws 1)) (unB (atL ws 2)) [] false [] = S
    · have ho : opR S = some (5, unB (atL ws 1), unB (atL ws 2), [], false, []) := by rw [Hopr.out.1, Hcand.out]; exact if_pos ⟨hm, hl⟩
      have hq : (opLine 5 (unB (atL ws 1)) (unB (atL ws 2)) [] false [] == s.toList) = true := by rw [Lib.toList_data, Hopr.out.2]; simp [hl]
      have Ho := Lib.hid ho
      have hO := ropText_ok 5 (unB (atL ws 1)) (unB (atL ws 2)) [] false [] hm hT
      generalize opLine 5 (unB (atL ws 1)) (unB (atL ws 2)) [] false [] = tl at hO hq
      clear ho hm hl
      go_wp2_with (first | (go_at_call 13; refine hO.mono ?_; rintro y w6 ⟨rfl, h6⟩; have p9 := h6.pt_cell; have j0 := p9 0; have j1 := p9 1; have j2 := p9 2; have j3 := p9 3; have j4 := p9 4; have j5 := p9 5; simp only [List.getElem?_toArray, List.getElem?_cons_zero, List.getElem?_cons_succ] at j0 j1 j2 j3 j4 j5; clear p9; have h7 := h6.p2) | ((with_reducible change wpList _ _ _ ({ dst := _, op := Op.store _ (.tmp 2) _, type := _, pos := _, after := _, guard := _ } :: _) _ _); (refine wpList_store_all (vs := opC 5 (bA (unB (atL ws 1))) (bA (unB (atL ws 2))) (bA []) false (bA [])) rfl (.tmp 2) _ rfl rfl rfl (by kernel_rfl) h7 rfl (by simp [Value.oneCell']) ?_); intro w8 h8; have p6 := h8.pt_cell; have z0 := p6 0; have z1 := p6 1; have z2 := p6 2; have z3 := p6 3; have z4 := p6 4; have z5 := p6 5; simp only [List.getElem?_toArray, List.getElem?_cons_zero, List.getElem?_cons_succ] at z0 z1 z2 z3 z4 z5; clear p6; go_frame))
      exact bodyPost_ret (v := .tuple #[.agg (opC 5 (bA (unB (atL ws 1))) (bA (unB (atL ws 2))) (bA []) false (bA [])), .bool true]) (by simp [results, Tryz.results16, go_sem, z0, z1, z2, z3, z4, z5]) rfl (.inl ⟨_, _, _, _, _, _, Ho.out, rfl, h8.drop.drop.drop⟩)
    · have ho : opR S = none := by rw [Hopr.out.1, Hcand.out]; exact if_neg (fun hh => hl hh.2)
      have hq : (opLine 5 (unB (atL ws 1)) (unB (atL ws 2)) [] false [] == s.toList) = false := by rw [Lib.toList_data, Hopr.out.2]; simpa using hl
      have Ho := Lib.hid ho
      have hO := ropText_ok 5 (unB (atL ws 1)) (unB (atL ws 2)) [] false [] hm hT
      generalize opLine 5 (unB (atL ws 1)) (unB (atL ws 2)) [] false [] = tl at hO hq
      clear ho hm hl
      go_wp2_with (first | (go_at_call 13; refine hO.mono ?_; rintro y w6 ⟨rfl, h6⟩; have h7 := h6.p2) | ((with_reducible change wpList _ _ _ ({ dst := _, op := Op.store _ (.tmp 2) _, type := _, pos := _, after := _, guard := _ } :: _) _ _); (refine wpList_store_all (vs := opC 0 (bA []) (bA []) (bA []) false (bA [])) rfl (.tmp 2) _ rfl rfl rfl (by kernel_rfl) h7 rfl (by simp [Value.oneCell']) ?_); intro w8 h8; have p6 := h8.pt_cell; have z0 := p6 0; have z1 := p6 1; have z2 := p6 2; have z3 := p6 3; have z4 := p6 4; have z5 := p6 5; simp only [List.getElem?_toArray, List.getElem?_cons_zero, List.getElem?_cons_succ] at z0 z1 z2 z3 z4 z5; clear p6; go_frame))
      exact bodyPost_ret (v := .tuple #[.agg (opC 0 (bA []) (bA []) (bA []) false (bA [])), .bool false]) (by simp [results, Tryz.results16, go_sem, z0, z1, z2, z3, z4, z5]) rfl (.inr ⟨Ho.out, rfl, h8.drop.drop.drop⟩)
  · have ho : opR S = none := by rw [Hopr.out.1, Hcand.out]; exact if_neg (fun hh => hm hh.1)
    have Ho := Lib.hid ho
    have hO := ropText_no 5 (unB (atL ws 1)) (unB (atL ws 2)) [] false [] hm hT
    clear ho hm
    go_wp2_with (first | (go_at_call 13; refine hO.mono ?_; rintro y w6 ⟨rfl, h6⟩; have h7 := h6.p2) | ((with_reducible change wpList _ _ _ ({ dst := _, op := Op.store _ (.tmp 2) _, type := _, pos := _, after := _, guard := _ } :: _) _ _); (refine wpList_store_all (vs := opC 0 (bA []) (bA []) (bA []) false (bA [])) rfl (.tmp 2) _ rfl rfl rfl (by kernel_rfl) h7 rfl (by simp [Value.oneCell']) ?_); intro w8 h8; have p6 := h8.pt_cell; have z0 := p6 0; have z1 := p6 1; have z2 := p6 2; have z3 := p6 3; have z4 := p6 4; have z5 := p6 5; simp only [List.getElem?_toArray, List.getElem?_cons_zero, List.getElem?_cons_succ] at z0 z1 z2 z3 z4 z5; clear p6; go_frame))
    exact bodyPost_ret (v := .tuple #[.agg (opC 0 (bA []) (bA []) (bA []) false (bA [])), .bool false]) (by simp [results, Tryz.results16, go_sem, z0, z1, z2, z3, z4, z5]) rfl (.inr ⟨Ho.out, rfl, h8.drop.drop.drop⟩)
set_option maxHeartbeats 4000000 in
set_option maxRecDepth 100000 in
theorem rOp_check (s : ByteArray) (hs : ¬ 4000 < s.size) (ws : List Bs) (hws : splL 32 s.data.toList = ws) (n0 : ¬ atL ws 0 = wPut) (n1 : ¬ atL ws 0 = wGet) (n2 : ¬ atL ws 0 = wDel) (n3 : ¬ atL ws 0 = wSeek) (q4 : atL ws 0 = wCheck) (h : Sat B L w) : Calls Tryz.prog 16 #[.string s] w (ropOut s.data.toList B L) := by
  have h1 := h.alloc' zOp (n := w.heap.size) rfl
  have hb : ¬ (4000 : Int) < s.size := by omega
  have hsp : Calls Tryz.prog 49 #[.string s, .int .u8 32] _ _ := rsplit s 32 (by omega) h1
  have hne : ws ≠ [] := by rw [← hws]; exact splL_ne _ _
  have hlen : ∀ p ∈ ws, p.length ≤ 4000 := fun p hp => by
    have := (splL_mem 32 s.data.toList p (by rw [hws]; exact hp)).1
    rw [slenB] at this; omega
  have hat : ∀ i, (atL ws i).length ≤ 100000 := fun i => by
    rw [atL, List.getD]
    cases hi : ws[i]? with
    | none => simp
    | some p => have := hlen p (List.mem_of_getElem? hi); simp; omega
  obtain ⟨S, hS⟩ : ∃ S, s.data.toList = S := ⟨_, rfl⟩
  rw [hS] at hws hsp ⊢
  rw [hws] at hsp
  have hopr : opR S = (if mayOp (candW ws).1 (candW ws).2.1 (candW ws).2.2.1 (candW ws).2.2.2.1 (candW ws).2.2.2.2.1 (candW ws).2.2.2.2.2 = true ∧ opLine (candW ws).1 (candW ws).2.1 (candW ws).2.2.1 (candW ws).2.2.2.1 (candW ws).2.2.2.2.1 (candW ws).2.2.2.2.2 = S then some (candW ws) else none) := by
    rw [opR, if_neg (by rw [← hS, slenB]; exact hs), hws]
  have hcand : candW ws = (4, unB (atL ws 1), unB (atL ws 2), (unB (atL ws 3)), (decide (atL ws 4 = wHas)), (unB (atL ws 5))) := by simp [candW, n0, n1, n2, n3, q4]
  have e0 : (atL ws 0 == [112, 117, 116]) = false := by exact beq_eq_false_iff_ne.2 n0
  have e1 : (atL ws 0 == [103, 101, 116]) = false := by exact beq_eq_false_iff_ne.2 n1
  have e2 : (atL ws 0 == [100, 101, 108]) = false := by exact beq_eq_false_iff_ne.2 n2
  have e3 : (atL ws 0 == [115, 101, 101, 107]) = false := by exact beq_eq_false_iff_ne.2 n3
  have e4 : (atL ws 0 == [99, 104, 101, 99, 107]) = true := by rw [q4]; rfl
  have e9 : (atL ws 4 == [104, 97, 115]) = decide (atL ws 4 = wHas) := by rw [Bool.eq_iff_iff]; simp
  have hb1 := fun (M : List HP) (w' : World) (h' : Sat B M w') => rbytes (atL ws 1) (hat 1) h'
  have hb2 := fun (M : List HP) (w' : World) (h' : Sat B M w') => rbytes (atL ws 2) (hat 2) h'
  have hb3 := fun (M : List HP) (w' : World) (h' : Sat B M w') => rbytes (atL ws 3) (hat 3) h'
  have hb5 := fun (M : List HP) (w' : World) (h' : Sat B M w') => rbytes (atL ws 5) (hat 5) h'
  have Hopr := Lib.hid (And.intro hopr hS)
  have Hcand := Lib.hid hcand
  have Hne := Lib.hid hne
  clear hopr hcand hne hlen hat hws hS hs n0 n1 n2 n3 q4
  go_enter Tryz.func16, Tryz.ntmps16
  go_wp2_with (go_at_call 49; refine hsp.mono ?_; rintro y w1 ⟨a, n, cc, hn, rfl, h2⟩)
  obtain ⟨g, off, ha⟩ : ∃ g off, a = some ⟨g, off, none⟩ := by
    rcases h2.row_form with ⟨hx, h0, _⟩ | ⟨g, off, cap, hx, _⟩
    · exact absurd (List.eq_nil_of_length_eq_zero (hn.trans h0)) Hne.out
    · cases hx; exact ⟨g, off, rfl⟩
  subst ha
  have hn1 : 1 ≤ n := by rw [← hn]; exact List.length_pos_iff.2 Hne.out
  have hn2 : (0 : Int) < n := by omega
  have ha1 := fun (M : List HP) (w' : World) h' => rat (B := B) (L := M) (w := w') g off n cc 1 1 rfl ws hn h'
  have ha2 := fun (M : List HP) (w' : World) h' => rat (B := B) (L := M) (w := w') g off n cc 2 2 rfl ws hn h'
  have ha3 := fun (M : List HP) (w' : World) h' => rat (B := B) (L := M) (w := w') g off n cc 3 3 rfl ws hn h'
  have ha4 := fun (M : List HP) (w' : World) h' => rat (B := B) (L := M) (w := w') g off n cc 4 4 rfl ws hn h'
  have ha5 := fun (M : List HP) (w' : World) h' => rat (B := B) (L := M) (w := w') g off n cc 5 5 rfl ws hn h'
  have hw0 : ws[0]? = some (atL ws 0) := by rw [atL, List.getD, List.getElem?_eq_getElem (by omega)]; rfl
  have Hw0 := Lib.hid hw0
  have Hn := Lib.hid hn
  clear hw0 hn hsp h1 h
  go_wp2_with (first
    | (go_at_call_of 51 (Value.int .i64 1); refine (ha1 _ _ h2).mono ?_; rintro y w' ⟨rfl, rfl⟩)
    | (go_at_call_of 50 (Value.string (bA (atL ws 1))); refine (hb1 _ _ h2).mono ?_; rintro y w3 ⟨rfl, h3⟩)
    | (go_at_call_of 51 (Value.int .i64 2); refine (ha2 _ _ h3).mono ?_; rintro y w' ⟨rfl, rfl⟩)
    | (go_at_call_of 50 (Value.string (bA (atL ws 2))); refine (hb2 _ _ h3).mono ?_; rintro y w4 ⟨rfl, h4⟩;
        have h5 := h4.alloc' (.cells (opC 0 (bA (unB (atL ws 1))) (bA (unB (atL ws 2))) (bA []) false (bA [])) 42) (n := w4.heap.size) rfl;
        have c0 := row_cell_at h5.swap 0 (.string (bA (atL ws 0))) (by simp [strL, Hw0.out]); simp only [Nat.add_zero] at c0;
        have p9 := h5.pt_cell; have x0 := p9 0; have x1 := p9 1; have x2 := p9 2; have x3 := p9 3; have x4 := p9 4; have x5 := p9 5; simp only [List.getElem?_toArray, List.getElem?_cons_zero, List.getElem?_cons_succ] at x0 x1 x2 x3 x4 x5; clear p9; have y0 := h5.pt_free 0; have y1 := h5.pt_free 1; have y2 := h5.pt_free 2; have y3 := h5.pt_free 3; have y4 := h5.pt_free 4; have y5 := h5.pt_free 5)
    | (go_at_call_of 51 (Value.int .i64 3); have hT1 := h4.alloc' (.cells (opC 4 (bA (unB (atL ws 1))) (bA (unB (atL ws 2))) (bA []) false (bA [])) 42) (n := w4.heap.size) rfl; refine (ha3 _ _ hT1.swap).mono ?_; rintro y w' ⟨rfl, rfl⟩)
    | (go_at_call_of 50 (Value.string (bA (atL ws 3))); refine (hb3 _ _ hT1.swap).mono ?_; rintro y w9 ⟨rfl, h9⟩; have h9s := h9.swap; have p9 := h9s.pt_cell; have r0 := p9 0; have r1 := p9 1; have r2 := p9 2; have r3 := p9 3; have r4 := p9 4; have r5 := p9 5; simp only [List.getElem?_toArray, List.getElem?_cons_zero, List.getElem?_cons_succ] at r0 r1 r2 r3 r4 r5; clear p9; have t0 := h9s.pt_free 0; have t1 := h9s.pt_free 1; have t2 := h9s.pt_free 2; have t3 := h9s.pt_free 3; have t4 := h9s.pt_free 4; have t5 := h9s.pt_free 5; have hT2 : Sat B (pt _ (.cells (opC 4 (bA (unB (atL ws 1))) (bA (unB (atL ws 2))) (bA (unB (atL ws 3))) false (bA [])) 42) :: _) _ := h9s.set (j := 3) (.string (bA (unB (atL ws 3)))))
    | (go_at_call_of 51 (Value.int .i64 4); refine (ha4 _ _ hT2.swap).mono ?_; rintro y w' ⟨rfl, rfl⟩; have p9 := hT2.pt_cell; have l0 := p9 0; have l1 := p9 1; have l2 := p9 2; have l3 := p9 3; have l4 := p9 4; have l5 := p9 5; simp only [List.getElem?_toArray, List.getElem?_cons_zero, List.getElem?_cons_succ] at l0 l1 l2 l3 l4 l5; clear p9; have m0 := hT2.pt_free 0; have m1 := hT2.pt_free 1; have m2 := hT2.pt_free 2; have m3 := hT2.pt_free 3; have m4 := hT2.pt_free 4; have m5 := hT2.pt_free 5; have hT3 : Sat B (pt _ (.cells (opC 4 (bA (unB (atL ws 1))) (bA (unB (atL ws 2))) (bA (unB (atL ws 3))) (decide (atL ws 4 = wHas)) (bA [])) 42) :: _) _ := hT2.set (j := 4) (.bool (decide (atL ws 4 = wHas))))
    | (go_at_call_of 51 (Value.int .i64 5); refine (ha5 _ _ hT3.swap).mono ?_; rintro y w' ⟨rfl, rfl⟩)
    | (go_at_call_of 50 (Value.string (bA (atL ws 5))); refine (hb5 _ _ hT3.swap).mono ?_; rintro y w10 ⟨rfl, h10⟩; have h10s := h10.swap; have p9 := h10s.pt_cell; have u0 := p9 0; have u1 := p9 1; have u2 := p9 2; have u3 := p9 3; have u4 := p9 4; have u5 := p9 5; simp only [List.getElem?_toArray, List.getElem?_cons_zero, List.getElem?_cons_succ] at u0 u1 u2 u3 u4 u5; clear p9; have o0 := h10s.pt_free 0; have o1 := h10s.pt_free 1; have o2 := h10s.pt_free 2; have o3 := h10s.pt_free 3; have o4 := h10s.pt_free 4; have o5 := h10s.pt_free 5; have hT4 : Sat B (pt _ (.cells (opC 4 (bA (unB (atL ws 1))) (bA (unB (atL ws 2))) (bA (unB (atL ws 3))) (decide (atL ws 4 = wHas)) (bA (unB (atL ws 5)))) 42) :: _) _ := h10s.set (j := 5) (.string (bA (unB (atL ws 5))))))
  have hT := (show Sat B (pt _ (.cells (opC 4 (bA (unB (atL ws 1))) (bA (unB (atL ws 2))) (bA (unB (atL ws 3))) (decide (atL ws 4 = wHas)) (bA (unB (atL ws 5)))) 42) :: _) _ from hT4)
  have p9 := hT.pt_cell; have i0 := p9 0; have i1 := p9 1; have i2 := p9 2; have i3 := p9 3; have i4 := p9 4; have i5 := p9 5; simp only [List.getElem?_toArray, List.getElem?_cons_zero, List.getElem?_cons_succ] at i0 i1 i2 i3 i4 i5; clear p9
  by_cases hm : mayOp 4 (unB (atL ws 1)) (unB (atL ws 2)) (unB (atL ws 3)) (decide (atL ws 4 = wHas)) (unB (atL ws 5)) = true
  · by_cases hl : opLine 4 (unB (atL ws 1)) (unB (atL ws 2)) (unB (atL ws 3)) (decide (atL ws 4 = wHas)) (unB (atL ws 5)) = S
    · have ho : opR S = some (4, unB (atL ws 1), unB (atL ws 2), (unB (atL ws 3)), (decide (atL ws 4 = wHas)), (unB (atL ws 5))) := by rw [Hopr.out.1, Hcand.out]; exact if_pos ⟨hm, hl⟩
      have hq : (opLine 4 (unB (atL ws 1)) (unB (atL ws 2)) (unB (atL ws 3)) (decide (atL ws 4 = wHas)) (unB (atL ws 5)) == s.toList) = true := by rw [Lib.toList_data, Hopr.out.2]; simp [hl]
      have Ho := Lib.hid ho
      have hO := ropText_ok 4 (unB (atL ws 1)) (unB (atL ws 2)) (unB (atL ws 3)) (decide (atL ws 4 = wHas)) (unB (atL ws 5)) hm hT
      generalize opLine 4 (unB (atL ws 1)) (unB (atL ws 2)) (unB (atL ws 3)) (decide (atL ws 4 = wHas)) (unB (atL ws 5)) = tl at hO hq
      clear ho hm hl
      go_wp2_with (first | (go_at_call 13; refine hO.mono ?_; rintro y w6 ⟨rfl, h6⟩; have p9 := h6.pt_cell; have j0 := p9 0; have j1 := p9 1; have j2 := p9 2; have j3 := p9 3; have j4 := p9 4; have j5 := p9 5; simp only [List.getElem?_toArray, List.getElem?_cons_zero, List.getElem?_cons_succ] at j0 j1 j2 j3 j4 j5; clear p9; have h7 := h6.p2) | ((with_reducible change wpList _ _ _ ({ dst := _, op := Op.store _ (.tmp 2) _, type := _, pos := _, after := _, guard := _ } :: _) _ _); (refine wpList_store_all (vs := opC 4 (bA (unB (atL ws 1))) (bA (unB (atL ws 2))) (bA (unB (atL ws 3))) (decide (atL ws 4 = wHas)) (bA (unB (atL ws 5)))) rfl (.tmp 2) _ rfl rfl rfl (by kernel_rfl) h7 rfl (by simp [Value.oneCell']) ?_); intro w8 h8; have p6 := h8.pt_cell; have z0 := p6 0; have z1 := p6 1; have z2 := p6 2; have z3 := p6 3; have z4 := p6 4; have z5 := p6 5; simp only [List.getElem?_toArray, List.getElem?_cons_zero, List.getElem?_cons_succ] at z0 z1 z2 z3 z4 z5; clear p6; go_frame))
      exact bodyPost_ret (v := .tuple #[.agg (opC 4 (bA (unB (atL ws 1))) (bA (unB (atL ws 2))) (bA (unB (atL ws 3))) (decide (atL ws 4 = wHas)) (bA (unB (atL ws 5)))), .bool true]) (by simp [results, Tryz.results16, go_sem, z0, z1, z2, z3, z4, z5]) rfl (.inl ⟨_, _, _, _, _, _, Ho.out, rfl, h8.drop.drop.drop⟩)
    · have ho : opR S = none := by rw [Hopr.out.1, Hcand.out]; exact if_neg (fun hh => hl hh.2)
      have hq : (opLine 4 (unB (atL ws 1)) (unB (atL ws 2)) (unB (atL ws 3)) (decide (atL ws 4 = wHas)) (unB (atL ws 5)) == s.toList) = false := by rw [Lib.toList_data, Hopr.out.2]; simpa using hl
      have Ho := Lib.hid ho
      have hO := ropText_ok 4 (unB (atL ws 1)) (unB (atL ws 2)) (unB (atL ws 3)) (decide (atL ws 4 = wHas)) (unB (atL ws 5)) hm hT
      generalize opLine 4 (unB (atL ws 1)) (unB (atL ws 2)) (unB (atL ws 3)) (decide (atL ws 4 = wHas)) (unB (atL ws 5)) = tl at hO hq
      clear ho hm hl
      go_wp2_with (first | (go_at_call 13; refine hO.mono ?_; rintro y w6 ⟨rfl, h6⟩; have h7 := h6.p2) | ((with_reducible change wpList _ _ _ ({ dst := _, op := Op.store _ (.tmp 2) _, type := _, pos := _, after := _, guard := _ } :: _) _ _); (refine wpList_store_all (vs := opC 0 (bA []) (bA []) (bA []) false (bA [])) rfl (.tmp 2) _ rfl rfl rfl (by kernel_rfl) h7 rfl (by simp [Value.oneCell']) ?_); intro w8 h8; have p6 := h8.pt_cell; have z0 := p6 0; have z1 := p6 1; have z2 := p6 2; have z3 := p6 3; have z4 := p6 4; have z5 := p6 5; simp only [List.getElem?_toArray, List.getElem?_cons_zero, List.getElem?_cons_succ] at z0 z1 z2 z3 z4 z5; clear p6; go_frame))
      exact bodyPost_ret (v := .tuple #[.agg (opC 0 (bA []) (bA []) (bA []) false (bA [])), .bool false]) (by simp [results, Tryz.results16, go_sem, z0, z1, z2, z3, z4, z5]) rfl (.inr ⟨Ho.out, rfl, h8.drop.drop.drop⟩)
  · have ho : opR S = none := by rw [Hopr.out.1, Hcand.out]; exact if_neg (fun hh => hm hh.1)
    have Ho := Lib.hid ho
    have hO := ropText_no 4 (unB (atL ws 1)) (unB (atL ws 2)) (unB (atL ws 3)) (decide (atL ws 4 = wHas)) (unB (atL ws 5)) hm hT
    clear ho hm
    go_wp2_with (first | (go_at_call 13; refine hO.mono ?_; rintro y w6 ⟨rfl, h6⟩; have h7 := h6.p2) | ((with_reducible change wpList _ _ _ ({ dst := _, op := Op.store _ (.tmp 2) _, type := _, pos := _, after := _, guard := _ } :: _) _ _); (refine wpList_store_all (vs := opC 0 (bA []) (bA []) (bA []) false (bA [])) rfl (.tmp 2) _ rfl rfl rfl (by kernel_rfl) h7 rfl (by simp [Value.oneCell']) ?_); intro w8 h8; have p6 := h8.pt_cell; have z0 := p6 0; have z1 := p6 1; have z2 := p6 2; have z3 := p6 3; have z4 := p6 4; have z5 := p6 5; simp only [List.getElem?_toArray, List.getElem?_cons_zero, List.getElem?_cons_succ] at z0 z1 z2 z3 z4 z5; clear p6; go_frame))
    exact bodyPost_ret (v := .tuple #[.agg (opC 0 (bA []) (bA []) (bA []) false (bA [])), .bool false]) (by simp [results, Tryz.results16, go_sem, z0, z1, z2, z3, z4, z5]) rfl (.inr ⟨Ho.out, rfl, h8.drop.drop.drop⟩)
set_option maxHeartbeats 4000000 in
set_option maxRecDepth 100000 in
theorem rOp_other (s : ByteArray) (hs : ¬ 4000 < s.size) (ws : List Bs) (hws : splL 32 s.data.toList = ws) (n0 : ¬ atL ws 0 = wPut) (n1 : ¬ atL ws 0 = wGet) (n2 : ¬ atL ws 0 = wDel) (n3 : ¬ atL ws 0 = wSeek) (n4 : ¬ atL ws 0 = wCheck) (h : Sat B L w) : Calls Tryz.prog 16 #[.string s] w (ropOut s.data.toList B L) := by
  have h1 := h.alloc' zOp (n := w.heap.size) rfl
  have hb : ¬ (4000 : Int) < s.size := by omega
  have hsp : Calls Tryz.prog 49 #[.string s, .int .u8 32] _ _ := rsplit s 32 (by omega) h1
  have hne : ws ≠ [] := by rw [← hws]; exact splL_ne _ _
  have hlen : ∀ p ∈ ws, p.length ≤ 4000 := fun p hp => by
    have := (splL_mem 32 s.data.toList p (by rw [hws]; exact hp)).1
    rw [slenB] at this; omega
  have hat : ∀ i, (atL ws i).length ≤ 100000 := fun i => by
    rw [atL, List.getD]
    cases hi : ws[i]? with
    | none => simp
    | some p => have := hlen p (List.mem_of_getElem? hi); simp; omega
  obtain ⟨S, hS⟩ : ∃ S, s.data.toList = S := ⟨_, rfl⟩
  rw [hS] at hws hsp ⊢
  rw [hws] at hsp
  have hopr : opR S = (if mayOp (candW ws).1 (candW ws).2.1 (candW ws).2.2.1 (candW ws).2.2.2.1 (candW ws).2.2.2.2.1 (candW ws).2.2.2.2.2 = true ∧ opLine (candW ws).1 (candW ws).2.1 (candW ws).2.2.1 (candW ws).2.2.2.1 (candW ws).2.2.2.2.1 (candW ws).2.2.2.2.2 = S then some (candW ws) else none) := by
    rw [opR, if_neg (by rw [← hS, slenB]; exact hs), hws]
  have hcand : candW ws = (0, unB (atL ws 1), unB (atL ws 2), [], false, []) := by simp [candW, n0, n1, n2, n3, n4]
  have e0 : (atL ws 0 == [112, 117, 116]) = false := by exact beq_eq_false_iff_ne.2 n0
  have e1 : (atL ws 0 == [103, 101, 116]) = false := by exact beq_eq_false_iff_ne.2 n1
  have e2 : (atL ws 0 == [100, 101, 108]) = false := by exact beq_eq_false_iff_ne.2 n2
  have e3 : (atL ws 0 == [115, 101, 101, 107]) = false := by exact beq_eq_false_iff_ne.2 n3
  have e4 : (atL ws 0 == [99, 104, 101, 99, 107]) = false := by exact beq_eq_false_iff_ne.2 n4
  have hb1 := fun (M : List HP) (w' : World) (h' : Sat B M w') => rbytes (atL ws 1) (hat 1) h'
  have hb2 := fun (M : List HP) (w' : World) (h' : Sat B M w') => rbytes (atL ws 2) (hat 2) h'
  have hb3 := fun (M : List HP) (w' : World) (h' : Sat B M w') => rbytes (atL ws 3) (hat 3) h'
  have hb5 := fun (M : List HP) (w' : World) (h' : Sat B M w') => rbytes (atL ws 5) (hat 5) h'
  have Hopr := Lib.hid (And.intro hopr hS)
  have Hcand := Lib.hid hcand
  have Hne := Lib.hid hne
  clear hopr hcand hne hlen hat hws hS hs n0 n1 n2 n3 n4
  go_enter Tryz.func16, Tryz.ntmps16
  go_wp2_with (go_at_call 49; refine hsp.mono ?_; rintro y w1 ⟨a, n, cc, hn, rfl, h2⟩)
  obtain ⟨g, off, ha⟩ : ∃ g off, a = some ⟨g, off, none⟩ := by
    rcases h2.row_form with ⟨hx, h0, _⟩ | ⟨g, off, cap, hx, _⟩
    · exact absurd (List.eq_nil_of_length_eq_zero (hn.trans h0)) Hne.out
    · cases hx; exact ⟨g, off, rfl⟩
  subst ha
  have hn1 : 1 ≤ n := by rw [← hn]; exact List.length_pos_iff.2 Hne.out
  have hn2 : (0 : Int) < n := by omega
  have ha1 := fun (M : List HP) (w' : World) h' => rat (B := B) (L := M) (w := w') g off n cc 1 1 rfl ws hn h'
  have ha2 := fun (M : List HP) (w' : World) h' => rat (B := B) (L := M) (w := w') g off n cc 2 2 rfl ws hn h'
  have ha3 := fun (M : List HP) (w' : World) h' => rat (B := B) (L := M) (w := w') g off n cc 3 3 rfl ws hn h'
  have ha4 := fun (M : List HP) (w' : World) h' => rat (B := B) (L := M) (w := w') g off n cc 4 4 rfl ws hn h'
  have ha5 := fun (M : List HP) (w' : World) h' => rat (B := B) (L := M) (w := w') g off n cc 5 5 rfl ws hn h'
  have hw0 : ws[0]? = some (atL ws 0) := by rw [atL, List.getD, List.getElem?_eq_getElem (by omega)]; rfl
  have Hw0 := Lib.hid hw0
  have Hn := Lib.hid hn
  clear hw0 hn hsp h1 h
  go_wp2_with (first
    | (go_at_call_of 51 (Value.int .i64 1); refine (ha1 _ _ h2).mono ?_; rintro y w' ⟨rfl, rfl⟩)
    | (go_at_call_of 50 (Value.string (bA (atL ws 1))); refine (hb1 _ _ h2).mono ?_; rintro y w3 ⟨rfl, h3⟩)
    | (go_at_call_of 51 (Value.int .i64 2); refine (ha2 _ _ h3).mono ?_; rintro y w' ⟨rfl, rfl⟩)
    | (go_at_call_of 50 (Value.string (bA (atL ws 2))); refine (hb2 _ _ h3).mono ?_; rintro y w4 ⟨rfl, h4⟩;
        have h5 := h4.alloc' (.cells (opC 0 (bA (unB (atL ws 1))) (bA (unB (atL ws 2))) (bA []) false (bA [])) 42) (n := w4.heap.size) rfl;
        have c0 := row_cell_at h5.swap 0 (.string (bA (atL ws 0))) (by simp [strL, Hw0.out]); simp only [Nat.add_zero] at c0;
        have p9 := h5.pt_cell; have x0 := p9 0; have x1 := p9 1; have x2 := p9 2; have x3 := p9 3; have x4 := p9 4; have x5 := p9 5; simp only [List.getElem?_toArray, List.getElem?_cons_zero, List.getElem?_cons_succ] at x0 x1 x2 x3 x4 x5; clear p9; have y0 := h5.pt_free 0; have y1 := h5.pt_free 1; have y2 := h5.pt_free 2; have y3 := h5.pt_free 3; have y4 := h5.pt_free 4; have y5 := h5.pt_free 5)
    | fail)
  have hT := h4.alloc' (.cells (opC 0 (bA (unB (atL ws 1))) (bA (unB (atL ws 2))) (bA []) false (bA [])) 42) (n := w4.heap.size) rfl
  have p9 := hT.pt_cell; have i0 := p9 0; have i1 := p9 1; have i2 := p9 2; have i3 := p9 3; have i4 := p9 4; have i5 := p9 5; simp only [List.getElem?_toArray, List.getElem?_cons_zero, List.getElem?_cons_succ] at i0 i1 i2 i3 i4 i5; clear p9
  by_cases hm : mayOp 0 (unB (atL ws 1)) (unB (atL ws 2)) [] false [] = true
  · by_cases hl : opLine 0 (unB (atL ws 1)) (unB (atL ws 2)) [] false [] = S
    · have ho : opR S = some (0, unB (atL ws 1), unB (atL ws 2), [], false, []) := by rw [Hopr.out.1, Hcand.out]; exact if_pos ⟨hm, hl⟩
      have hq : (opLine 0 (unB (atL ws 1)) (unB (atL ws 2)) [] false [] == s.toList) = true := by rw [Lib.toList_data, Hopr.out.2]; simp [hl]
      have Ho := Lib.hid ho
      have hO := ropText_ok 0 (unB (atL ws 1)) (unB (atL ws 2)) [] false [] hm hT
      generalize opLine 0 (unB (atL ws 1)) (unB (atL ws 2)) [] false [] = tl at hO hq
      clear ho hm hl
      go_wp2_with (first | (go_at_call 13; refine hO.mono ?_; rintro y w6 ⟨rfl, h6⟩; have p9 := h6.pt_cell; have j0 := p9 0; have j1 := p9 1; have j2 := p9 2; have j3 := p9 3; have j4 := p9 4; have j5 := p9 5; simp only [List.getElem?_toArray, List.getElem?_cons_zero, List.getElem?_cons_succ] at j0 j1 j2 j3 j4 j5; clear p9; have h7 := h6.p2) | ((with_reducible change wpList _ _ _ ({ dst := _, op := Op.store _ (.tmp 2) _, type := _, pos := _, after := _, guard := _ } :: _) _ _); (refine wpList_store_all (vs := opC 0 (bA (unB (atL ws 1))) (bA (unB (atL ws 2))) (bA []) false (bA [])) rfl (.tmp 2) _ rfl rfl rfl (by kernel_rfl) h7 rfl (by simp [Value.oneCell']) ?_); intro w8 h8; have p6 := h8.pt_cell; have z0 := p6 0; have z1 := p6 1; have z2 := p6 2; have z3 := p6 3; have z4 := p6 4; have z5 := p6 5; simp only [List.getElem?_toArray, List.getElem?_cons_zero, List.getElem?_cons_succ] at z0 z1 z2 z3 z4 z5; clear p6; go_frame))
      exact bodyPost_ret (v := .tuple #[.agg (opC 0 (bA (unB (atL ws 1))) (bA (unB (atL ws 2))) (bA []) false (bA [])), .bool true]) (by simp [results, Tryz.results16, go_sem, z0, z1, z2, z3, z4, z5]) rfl (.inl ⟨_, _, _, _, _, _, Ho.out, rfl, h8.drop.drop.drop⟩)
    · have ho : opR S = none := by rw [Hopr.out.1, Hcand.out]; exact if_neg (fun hh => hl hh.2)
      have hq : (opLine 0 (unB (atL ws 1)) (unB (atL ws 2)) [] false [] == s.toList) = false := by rw [Lib.toList_data, Hopr.out.2]; simpa using hl
      have Ho := Lib.hid ho
      have hO := ropText_ok 0 (unB (atL ws 1)) (unB (atL ws 2)) [] false [] hm hT
      generalize opLine 0 (unB (atL ws 1)) (unB (atL ws 2)) [] false [] = tl at hO hq
      clear ho hm hl
      go_wp2_with (first | (go_at_call 13; refine hO.mono ?_; rintro y w6 ⟨rfl, h6⟩; have h7 := h6.p2) | ((with_reducible change wpList _ _ _ ({ dst := _, op := Op.store _ (.tmp 2) _, type := _, pos := _, after := _, guard := _ } :: _) _ _); (refine wpList_store_all (vs := opC 0 (bA []) (bA []) (bA []) false (bA [])) rfl (.tmp 2) _ rfl rfl rfl (by kernel_rfl) h7 rfl (by simp [Value.oneCell']) ?_); intro w8 h8; have p6 := h8.pt_cell; have z0 := p6 0; have z1 := p6 1; have z2 := p6 2; have z3 := p6 3; have z4 := p6 4; have z5 := p6 5; simp only [List.getElem?_toArray, List.getElem?_cons_zero, List.getElem?_cons_succ] at z0 z1 z2 z3 z4 z5; clear p6; go_frame))
      exact bodyPost_ret (v := .tuple #[.agg (opC 0 (bA []) (bA []) (bA []) false (bA [])), .bool false]) (by simp [results, Tryz.results16, go_sem, z0, z1, z2, z3, z4, z5]) rfl (.inr ⟨Ho.out, rfl, h8.drop.drop.drop⟩)
  · have ho : opR S = none := by rw [Hopr.out.1, Hcand.out]; exact if_neg (fun hh => hm hh.1)
    have Ho := Lib.hid ho
    have hO := ropText_no 0 (unB (atL ws 1)) (unB (atL ws 2)) [] false [] hm hT
    clear ho hm
    go_wp2_with (first | (go_at_call 13; refine hO.mono ?_; rintro y w6 ⟨rfl, h6⟩; have h7 := h6.p2) | ((with_reducible change wpList _ _ _ ({ dst := _, op := Op.store _ (.tmp 2) _, type := _, pos := _, after := _, guard := _ } :: _) _ _); (refine wpList_store_all (vs := opC 0 (bA []) (bA []) (bA []) false (bA [])) rfl (.tmp 2) _ rfl rfl rfl (by kernel_rfl) h7 rfl (by simp [Value.oneCell']) ?_); intro w8 h8; have p6 := h8.pt_cell; have z0 := p6 0; have z1 := p6 1; have z2 := p6 2; have z3 := p6 3; have z4 := p6 4; have z5 := p6 5; simp only [List.getElem?_toArray, List.getElem?_cons_zero, List.getElem?_cons_succ] at z0 z1 z2 z3 z4 z5; clear p6; go_frame))
    exact bodyPost_ret (v := .tuple #[.agg (opC 0 (bA []) (bA []) (bA []) false (bA [])), .bool false]) (by simp [results, Tryz.results16, go_sem, z0, z1, z2, z3, z4, z5]) rfl (.inr ⟨Ho.out, rfl, h8.drop.drop.drop⟩)
theorem rOp (s : ByteArray) (h : Sat B L w) : Calls Tryz.prog 16 #[.string s] w (ropOut s.data.toList B L) := by
  by_cases hb : 4000 < s.size
  · exact rOp_big s hb h
  by_cases q0 : atL (splL 32 s.data.toList) 0 = wPut
  · exact rOp_put s hb _ rfl q0 h
  by_cases q1 : atL (splL 32 s.data.toList) 0 = wGet
  · exact rOp_get s hb _ rfl q0 q1 h
  by_cases q2 : atL (splL 32 s.data.toList) 0 = wDel
  · exact rOp_del s hb _ rfl q0 q1 q2 h
  by_cases q3 : atL (splL 32 s.data.toList) 0 = wSeek
  · exact rOp_seek s hb _ rfl q0 q1 q2 q3 h
  by_cases q4 : atL (splL 32 s.data.toList) 0 = wCheck
  · exact rOp_check s hb _ rfl q0 q1 q2 q3 q4 h
  · exact rOp_other s hb _ rfl q0 q1 q2 q3 q4 h
end
end Go.Proofs.YtcjindifdghpgaaGreatDoor
