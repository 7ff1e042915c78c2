/-
  script.read: contract.
-/
import Derived.Test.YtcjindifdghpgaaGreatDoorOps5
namespace Go.Proofs.YtcjindifdghpgaaGreatDoor
set_option linter.all false
open Go.RowKit
section
variable {B w : World} {L : List HP}
/-- The kind that a word names, among the first j. -/
def kindTo (p : Bs) : Nat → Int
  | 0 => 0
  | j + 1 => if p = nameL ((j + 1 : Nat) : Int) then ((j + 1 : Nat) : Int) else kindTo p j
abbrev Op6 := Int × Bs × Bs × Bs × Bool × Bs
def finW (ws : List Bs) (n : Nat) (k : Int) (r c v : Bs) (has : Bool) (e : Bs) : Option Op6 := if ws.length ≤ n ∧ mayOp k r c v has e = true then some (k, r, c, v, has, e) else none
abbrev wHas : Bs := [104, 97, 115]
abbrev wNone : Bs := [110, 111, 110, 101]
def flagW (ws : List Bs) (k : Int) (r c v w4 : Bs) : Option Op6 :=
  if w4 = wHas then (ws[5]?).bind fun w5 => (unwordL w5).bind fun e => finW ws 6 k r c v true e
  else if w4 = wNone then finW ws 5 k r c v false [] else none
def valW (ws : List Bs) (k : Int) (r c v : Bs) : Option Op6 := if k = 4 then (ws[4]?).bind fun w4 => flagW ws k r c v w4 else finW ws 4 k r c v false []
def restW (ws : List Bs) (k : Int) (r c : Bs) : Option Op6 := if k = 1 ∨ k = 4 then (ws[3]?).bind fun w3 => (unwordL w3).bind fun v => valW ws k r c v else finW ws 3 k r c [] false []
/-- An operation's words, read. -/
def readW (ws : List Bs) : Option Op6 :=
  (ws[0]?).bind fun w0 => (ws[1]?).bind fun w1 => (unwordL w1).bind fun r => (ws[2]?).bind fun w2 => (unwordL w2).bind fun c => restW ws (kindTo w0 5) r c
abbrev bA (b : Bs) : ByteArray := ⟨b.toArray⟩
/-- What read answers. -/
def readRes (o : Option Op6) (B : World) (L : List HP) (y : Ending) (w' : World) : Prop :=
  ((∃ k r c v has e, o = some (k, r, c, v, has, e) ∧ y = .returned (.agg (opC k (bA r) (bA c) (bA v) has (bA e)))) ∨ (o = none ∧ y = gives 15)) ∧ Sat B L w'
/-- What read works on. -/
def rst (b3 g N o m : Nat) (ws : List Bs) (b5 : Nat) (k : Int) (r c v : Bs) (has : Bool) (e : Bs) (b2 : Nat) (L : List HP) : List HP :=
  nst b3 g N o m ws (pt b5 (.cells (opC k (bA r) (bA c) (bA v) has (bA e)) 42) :: pt b2 (.cells (opC 0 (bA []) (bA []) (bA []) false (bA [])) 42) :: L)
set_option maxHeartbeats 4000000 in
set_option maxRecDepth 100000 in
theorem pread (hE : Env B) (hF : EnvF B) (s : ByteArray) (hs : s.size ≤ 2000000) (h : Sat B L w) :
    Calls Tryz.prog 41 #[.string s] w (readRes (readW (splL 32 s.data.toList)) B L) := by
  have h0 := h.alloc' (.cells (opC 0 (bA []) (bA []) (bA []) false (bA [])) 42) (n := w.heap.size) rfl
  have hsp := psplit hE h0 s 32 (by omega)
  obtain ⟨ws, hws⟩ : ∃ ws, splL 32 s.data.toList = ws := ⟨_, rfl⟩
  have hlen : ∀ p ∈ ws, p.length ≤ 2000000 := fun p hp => by
    have := (splL_mem 32 s.data.toList p (by rw [hws]; exact hp)).1
    have e : s.data.toList.length = s.size := by rw [Array.length_toList]; rfl
    omega
  have hN0 : ws.length ≤ 3000000 := by
    rw [← hws, splL_length]
    have := List.count_le_length (a := (32 : UInt8)) (l := s.data.toList)
    have e : s.data.toList.length = s.size := by rw [Array.length_toList]; rfl
    omega
  rw [hws] at hsp ⊢
  obtain ⟨N, hN⟩ : ∃ N, ws.length = N := ⟨_, rfl⟩
  rw [hN] at hsp
  have Hw := Lib.hid (And.intro hN hlen)
  have hNb : N ≤ 3000000 := by omega
  clear hws hlen hN0 hN h0
  go_enter Tryz.func41, Tryz.ntmps41
  go_wp2_with (go_at_call 26; refine hsp.mono ?_; rintro y w1 ⟨g, rfl, hS1⟩)
  have hS3 : Sat B (rst w1.heap.size g N 0 N ws (w1.heap.size + 1) 0 [] [] [] false [] w.heap.size L) _ := ((hS1.alloc' (.cells #[.slice (some ⟨g, 0, none⟩) N N] 60) (n := w1.heap.size) rfl).alloc' (.cells (opC 0 (bA []) (bA []) (bA []) false (bA [])) 42) (n := w1.heap.size + 1) (by simp)).q2
  have hn1 := pnext w1.heap.size g N 0 0 N ws Hw.out.1 (by omega) (fun _ => rfl) hNb hS3
  clear hS1 hsp h
  refine hn1.mono ?_
  rintro y w2 (⟨hm, rfl, h2⟩ | ⟨p0, m1, o1, hm1, hp0, rfl, ho1, h2⟩)
  · exact ⟨rfl, .inr ⟨by have : ws = [] := List.eq_nil_of_length_eq_zero (by rw [Hw.out.1]; exact hm); rw [this]; rfl, rfl⟩, h2.drop.drop.drop.drop⟩
  clear hn1 hS3
  have H0 := Lib.hid (And.intro hp0 (And.intro hm1 ho1))
  clear hp0 hm1 ho1
  obtain ⟨sp, hsp⟩ : ∃ sp : ByteArray, (⟨p0.toArray⟩ : ByteArray) = sp := ⟨_, rfl⟩
  rw [hsp]
  have hspl : sp.toList = p0 := by rw [show sp.toList = sp.data.toList from Lib.toList_data sp, ← hsp]
  have Hsp := Lib.hid hspl
  clear hsp hspl
  go_wp2_with fail
  go_loopg [7] 5 (fun gh v7 wr => ∃ (k j : Nat), k = j + 1 ∧ j + gh ≤ 5 ∧ 5 ≤ j + gh ∧ v7 = .int .i64 k ∧ Sat B (rst w1.heap.size g N o1 m1 ws (w1.heap.size + 1) (kindTo p0 j) [] [] [] false [] w.heap.size L) wr)
  case atStart => exact ⟨1, 0, rfl, by omega, by omega, rfl, h2⟩
  case round =>
    obtain ⟨k, j, hkj, hg1, hg2, rfl, hs1⟩ := hrel
    clear h2
    by_cases hj : j < 5
    · have hk5 : (k : Int) ≤ 5 := by omega
      have hnm := pname hF (k : Int) hs1
      obtain ⟨nm, hnm2⟩ : ∃ nm : ByteArray, (⟨(nameL (k : Int)).toArray⟩ : ByteArray) = nm := ⟨_, rfl⟩
      have hspl := Hsp.out
      have hnml : nm.toList = nameL (k : Int) := by rw [show nm.toList = nm.data.toList from Lib.toList_data nm, ← hnm2]
      rw [hnm2] at hnm
      by_cases heq : p0 = nameL (k : Int)
      · have hb : (sp.toList == nm.toList) = true := by rw [hspl, hnml, heq]; simp
        have hk1 : kindTo p0 (j + 1) = (k : Int) := by rw [kindTo, ← hkj, if_pos heq]
        have Hk := Lib.hid (And.intro hkj hk1)
        clear hkj hk1 hnm2 hspl hnml heq
        go_wp2_with (go_at_call 37; refine hnm.mono ?_; rintro y w3 ⟨rfl, h3⟩; have c5 := h3.p2.pt_cell 0; have f5 := h3.p2.pt_free 0; simp only [List.getElem?_toArray, List.getElem?_cons_zero] at c5)
        go_roundg (gk - 1)
        case measure => omega
        case rel =>
          have h4 := (h3.p2.set (j := 0) (.int .i64 k)).q2
          refine ⟨k + 1, j + 1, by rw [Hk.out.1], by omega, by omega, by go_num, ?_⟩
          rw [Hk.out.2]
          exact h4
      · have hb : (sp.toList == nm.toList) = false := by rw [hspl, hnml]; simpa using heq
        have hk1 : kindTo p0 (j + 1) = kindTo p0 j := by rw [kindTo, ← hkj, if_neg heq]
        have Hk := Lib.hid (And.intro hkj hk1)
        clear hkj hk1 hnm2 hspl hnml heq
        go_wp2_with (go_at_call 37; refine hnm.mono ?_; rintro y w3 ⟨rfl, h3⟩)
        go_roundg (gk - 1)
        case measure => omega
        case rel =>
          refine ⟨k + 1, j + 1, by rw [Hk.out.1], by omega, by omega, by go_num, ?_⟩
          rw [Hk.out.2]
          exact h3
    · obtain rfl : j = 5 := by omega
      have hk6 : ¬ (k : Int) ≤ 5 := by omega
      have HK := Lib.hid hkj
      clear hkj hj
      obtain ⟨K, hK⟩ : ∃ K, kindTo p0 5 = K := ⟨_, rfl⟩
      rw [hK] at hs1
      have HKK := Lib.hid hK
      clear hK
      go_wp2_with fail
      -- the row
      have hn2 := pnext w1.heap.size g N 1 o1 m1 ws Hw.out.1 (by have := H0.out.2.1; omega) (fun e => by have := H0.out.2.2 e; omega) hNb hs1
      refine hn2.mono ?_
      rintro y w3 (⟨hm, rfl, h3⟩ | ⟨p1, m2, o2, hm2, hp1, rfl, ho2, h3⟩)
      · exact ⟨rfl, .inr ⟨by rw [readW, H0.out.1, List.getElem?_eq_none (by rw [Hw.out.1, H0.out.2.1]; omega)]; rfl, rfl⟩, h3.drop.drop.drop.drop⟩
      have H1 := Lib.hid (And.intro hp1 (And.intro hm2 ho2))
      have hb1 := pbytes (bA p1) (by show p1.length ≤ _; have := Hw.out.2 p1 (List.mem_of_getElem? hp1); omega) h3
      clear hp1 hm2 ho2 hn2 hs1
      go_wp2_with fail
      refine hb1.mono ?_
      rintro y w4 ⟨⟨r, hr, rfl⟩ | ⟨hr, rfl⟩, h4⟩
      rotate_left
      · exact ⟨rfl, .inr ⟨by rw [readW, H0.out.1, H1.out.1]; simp only [Option.bind_some]; rw [show unwordL p1 = none from hr]; rfl, rfl⟩, h4.drop.drop.drop.drop⟩
      have Hr := Lib.hid (show unwordL p1 = some r from hr)
      have c51 := h4.p2.pt_cell 1; have f51 := h4.p2.pt_free 1
      simp only [List.getElem?_toArray, List.getElem?_cons_zero, List.getElem?_cons_succ] at c51
      clear hr hb1 h3
      go_wp2_with fail
      have hs4 : Sat B (rst w1.heap.size g N o2 m2 ws (w1.heap.size + 1) K r [] [] false [] w.heap.size L) _ := (h4.p2.set (j := 1) (.string (bA r))).q2
      -- the column
      have hn3 := pnext w1.heap.size g N 2 o2 m2 ws Hw.out.1 (by have := H0.out.2.1; have := H1.out.2.1; omega) (fun e => by have := H1.out.2.2 e; omega) hNb hs4
      refine hn3.mono ?_
      rintro y w5 (⟨hm, rfl, h5⟩ | ⟨p2, m3, o3, hm3, hp2, rfl, ho3, h5⟩)
      · exact ⟨rfl, .inr ⟨by rw [readW, H0.out.1, H1.out.1]; simp only [Option.bind_some]; rw [Hr.out, List.getElem?_eq_none (by rw [Hw.out.1, H0.out.2.1, H1.out.2.1]; omega)]; rfl, rfl⟩, h5.drop.drop.drop.drop⟩
      have H2 := Lib.hid (And.intro hp2 (And.intro hm3 ho3))
      have hb2 := pbytes (bA p2) (by show p2.length ≤ _; have := Hw.out.2 p2 (List.mem_of_getElem? hp2); omega) h5
      clear hp2 hm3 ho3 hn3 hs4 c51 f51 h4
      go_wp2_with fail
      refine hb2.mono ?_
      rintro y w6 ⟨⟨c, hc, rfl⟩ | ⟨hc, rfl⟩, h6⟩
      rotate_left
      · exact ⟨rfl, .inr ⟨by rw [readW, H0.out.1, H1.out.1]; simp only [Option.bind_some]; rw [Hr.out, H2.out.1]; simp only [Option.bind_some]; rw [show unwordL p2 = none from hc]; rfl, rfl⟩, h6.drop.drop.drop.drop⟩
      have Hc := Lib.hid (show unwordL p2 = some c from hc)
      have Hres := Lib.hid (show readW ws = restW ws K r c by rw [readW, H0.out.1, H1.out.1]; simp only [Option.bind_some]; rw [Hr.out, H2.out.1]; simp only [Option.bind_some]; rw [Hc.out, HKK.out]; rfl)
      have hs6 : Sat B (rst w1.heap.size g N o3 m3 ws (w1.heap.size + 1) K r c [] false [] w.heap.size L) (w6.setCell ⟨w1.heap.size + 1, 2, none⟩ (.string (bA c))) := (h6.p2.set (j := 2) (.string (bA c))).q2
      have c50 := h6.p2.pt_cell 0; have c52 := h6.p2.pt_cell 2; have f52 := h6.p2.pt_free 2
      simp only [List.getElem?_toArray, List.getElem?_cons_zero, List.getElem?_cons_succ] at c50 c52
      have HN3 := Lib.hid (show 3 + m3 = N by have := H0.out.2.1; have := H1.out.2.1; have := H2.out.2.1; omega)
      have Ho3 := Lib.hid H2.out.2.2
      clear hc hb2 h5
      have c3 := h6.pt_cell 0
      have c53 := h6.p2.pt_cell 3; have c54 := h6.p2.pt_cell 4; have c55 := h6.p2.pt_cell 5; have c51 := h6.p2.pt_cell 1
      simp only [List.getElem?_toArray, List.getElem?_cons_zero, List.getElem?_cons_succ] at c3 c51 c53 c54 c55
      by_cases hK1 : K = 1
      · --<V1
        subst hK1
        go_wp2_with fail
        have hn4 := pnext w1.heap.size g N 3 o3 m3 ws Hw.out.1 HN3.out (fun e => by have := Ho3.out e; omega) hNb hs6
        refine hn4.mono ?_
        rintro y w7 (⟨hm, rfl, h7⟩ | ⟨p3, m4, o4, hm4, hp3, rfl, ho4, h7⟩)
        · exact ⟨rfl, .inr ⟨by rw [Hres.out, restW, if_pos (.inl rfl), List.getElem?_eq_none (by rw [Hw.out.1, ← HN3.out, hm]; exact Nat.le_refl _)]; rfl, rfl⟩, h7.drop.drop.drop.drop⟩
        have H3 := Lib.hid (And.intro hp3 (And.intro hm4 ho4))
        have hb3 := pbytes (bA p3) (by show p3.length ≤ _; have := Hw.out.2 p3 (List.mem_of_getElem? hp3); omega) h7
        clear hp3 hm4 ho4 hn4 hs6 h6 c3 c50 c51 c52 c53 c54 c55 f52
        go_wp2_with fail
        refine hb3.mono ?_
        rintro y w8 ⟨⟨v, hv, rfl⟩ | ⟨hv, rfl⟩, h8⟩
        rotate_left
        · exact ⟨rfl, .inr ⟨by rw [Hres.out, restW, if_pos (.inl rfl), H3.out.1]; simp only [Option.bind_some]; rw [show unwordL p3 = none from hv]; rfl, rfl⟩, h8.drop.drop.drop.drop⟩
        have Hv := Lib.hid (show unwordL p3 = some v from hv)
        have Hres2 := Lib.hid (show readW ws = valW ws 1 r c v by rw [Hres.out, restW, if_pos (.inl rfl), H3.out.1]; simp only [Option.bind_some]; rw [Hv.out]; rfl)
        have hs8 : Sat B (rst w1.heap.size g N o4 m4 ws (w1.heap.size + 1) 1 r c v false [] w.heap.size L) (w8.setCell ⟨w1.heap.size + 1, 3, none⟩ (.string (bA v))) := (h8.p2.set (j := 3) (.string (bA v))).q2
        have HN4 := Lib.hid (show 4 + m4 = N by have := HN3.out; have := H3.out.2.1; omega)
        have Ho4 := Lib.hid H3.out.2.2
        clear hv hb3 h7
        have c3 := h8.pt_cell 0
        have c50 := h8.p2.pt_cell 0; have c51 := h8.p2.pt_cell 1; have c52 := h8.p2.pt_cell 2; have c53 := h8.p2.pt_cell 3; have c54 := h8.p2.pt_cell 4; have c55 := h8.p2.pt_cell 5
        have f53 := h8.p2.pt_free 3; have f54 := h8.p2.pt_free 4; have f55 := h8.p2.pt_free 5
        simp only [List.getElem?_toArray, List.getElem?_cons_zero, List.getElem?_cons_succ] at c3 c50 c51 c52 c53 c54 c55
        by_cases hm0 : m4 = 0
        · subst hm0
          have hri := pright 1 (bA r) (bA c) (bA v) false (bA []) hs8
          rw [show mayOp 1 (bA r).data.toList (bA c).data.toList (bA v).data.toList false (bA []).data.toList = mayOp 1 r c v false [] from rfl] at hri
          obtain ⟨ok, hok⟩ : ∃ ok, mayOp 1 r c v false [] = ok := ⟨_, rfl⟩
          rw [hok] at hri
          have Hok := Lib.hid hok
          have HL := Lib.hid (show ws.length ≤ 4 by rw [Hw.out.1, ← HN4.out]; omega)
          clear hok
          cases ok
          · go_wp2_with (first
              | (go_at_call 36; refine hri.mono ?_; rintro y w9 ⟨rfl, h9⟩)
              | (go_at_call 31; refine (pgive _ _).mono ?_; rintro y w' ⟨rfl, rfl⟩))
            exact ⟨rfl, .inr ⟨by rw [Hres2.out, valW, if_neg (by decide), finW, if_neg (fun h => by have := h.2; rw [Hok.out] at this; cases this)], rfl⟩, h9.drop.drop.drop.drop⟩
          · go_wp2_with (first
              | (go_at_call 36; refine hri.mono ?_; rintro y w9 ⟨rfl, h9⟩; have p5 := h9.p2.pt_cell; have q0 := p5 0; have q1 := p5 1; have q2 := p5 2; have q3 := p5 3; have q4 := p5 4; have q5 := p5 5; simp only [List.getElem?_toArray, List.getElem?_cons_zero, List.getElem?_cons_succ] at q0 q1 q2 q3 q4 q5; clear p5; have h93 := h9.p3)
              | ((with_reducible change wpList _ _ _ ({ dst := _, op := Op.store _ (.tmp 2) _, type := _, pos := _, after := _, guard := _ } :: _) _ _); (refine wpList_store_all (vs := opC 1 (bA r) (bA c) (bA v) false (bA [])) rfl (.tmp 2) _ rfl rfl rfl (by kernel_rfl) h93 rfl (by simp [Value.oneCell']) ?_); intro w8 h8; have p6 := h8.pt_cell; have z0 := p6 0; have z1 := p6 1; have z2 := p6 2; have z3 := p6 3; have z4 := p6 4; have z5 := p6 5; simp only [List.getElem?_toArray, List.getElem?_cons_zero, List.getElem?_cons_succ] at z0 z1 z2 z3 z4 z5; clear p6; go_frame))
            exact bodyPost_ret (v := .agg (opC 1 (bA r) (bA c) (bA v) false (bA []))) (by simp [results, Tryz.results41, go_sem, z0, z1, z2, z3, z4, z5]) rfl ⟨.inl ⟨1, r, c, v, false, [], by rw [Hres2.out, valW, if_neg (by decide), finW, if_pos ⟨HL.out, Hok.out⟩], rfl⟩, h8.drop.drop.drop.drop⟩
        · have hm1' : (0 : Int) < m4 := by omega
          have hgiv := Lib.hid (show ¬ ws.length ≤ 4 by rw [Hw.out.1, ← HN4.out]; omega)
          go_wp2_with (go_at_call 31; refine (pgive _ _).mono ?_; rintro y w' ⟨rfl, rfl⟩)
          exact ⟨rfl, .inr ⟨by rw [Hres2.out, valW, if_neg (by decide), finW, if_neg (fun h => hgiv.out h.1)], rfl⟩, hs8.drop.drop.drop.drop⟩
      · by_cases hK4 : K = 4
        · --<V4
          subst hK4
          go_wp2_with fail
          have hn4 := pnext w1.heap.size g N 3 o3 m3 ws Hw.out.1 HN3.out (fun e => by have := Ho3.out e; omega) hNb hs6
          refine hn4.mono ?_
          rintro y w7 (⟨hm, rfl, h7⟩ | ⟨p3, m4, o4, hm4, hp3, rfl, ho4, h7⟩)
          · exact ⟨rfl, .inr ⟨by rw [Hres.out, restW, if_pos (.inr rfl), List.getElem?_eq_none (by rw [Hw.out.1, ← HN3.out, hm]; exact Nat.le_refl _)]; rfl, rfl⟩, h7.drop.drop.drop.drop⟩
          have H3 := Lib.hid (And.intro hp3 (And.intro hm4 ho4))
          have hb3 := pbytes (bA p3) (by show p3.length ≤ _; have := Hw.out.2 p3 (List.mem_of_getElem? hp3); omega) h7
          clear hp3 hm4 ho4 hn4 hs6 h6 c3 c50 c51 c52 c53 c54 c55 f52
          go_wp2_with fail
          refine hb3.mono ?_
          rintro y w8 ⟨⟨v, hv, rfl⟩ | ⟨hv, rfl⟩, h8⟩
          rotate_left
          · exact ⟨rfl, .inr ⟨by rw [Hres.out, restW, if_pos (.inr rfl), H3.out.1]; simp only [Option.bind_some]; rw [show unwordL p3 = none from hv]; rfl, rfl⟩, h8.drop.drop.drop.drop⟩
          have Hv := Lib.hid (show unwordL p3 = some v from hv)
          have Hres2 := Lib.hid (show readW ws = valW ws 4 r c v by rw [Hres.out, restW, if_pos (.inr rfl), H3.out.1]; simp only [Option.bind_some]; rw [Hv.out]; rfl)
          have hs8 : Sat B (rst w1.heap.size g N o4 m4 ws (w1.heap.size + 1) 4 r c v false [] w.heap.size L) (w8.setCell ⟨w1.heap.size + 1, 3, none⟩ (.string (bA v))) := (h8.p2.set (j := 3) (.string (bA v))).q2
          have HN4 := Lib.hid (show 4 + m4 = N by have := HN3.out; have := H3.out.2.1; omega)
          have Ho4 := Lib.hid H3.out.2.2
          clear hv hb3 h7
          have c3 := h8.pt_cell 0
          have c50 := h8.p2.pt_cell 0; have c51 := h8.p2.pt_cell 1; have c52 := h8.p2.pt_cell 2; have c53 := h8.p2.pt_cell 3; have c54 := h8.p2.pt_cell 4; have c55 := h8.p2.pt_cell 5
          have f53 := h8.p2.pt_free 3; have f54 := h8.p2.pt_free 4; have f55 := h8.p2.pt_free 5
          simp only [List.getElem?_toArray, List.getElem?_cons_zero, List.getElem?_cons_succ] at c3 c50 c51 c52 c53 c54 c55
          go_wp2_with fail
          have hn5 := pnext w1.heap.size g N 4 o4 m4 ws Hw.out.1 HN4.out (fun e => by have := Ho4.out e; omega) hNb hs8
          refine hn5.mono ?_
          rintro y w9 (⟨hm, rfl, h9⟩ | ⟨p4, m5, o5, hm5, hp4, rfl, ho5, h9⟩)
          · exact ⟨rfl, .inr ⟨by rw [Hres2.out, valW, if_pos rfl, List.getElem?_eq_none (by rw [Hw.out.1, ← HN4.out, hm]; exact Nat.le_refl _)]; rfl, rfl⟩, h9.drop.drop.drop.drop⟩
          have H4 := Lib.hid (And.intro hp4 (And.intro hm5 ho5))
          have Hres3 := Lib.hid (show readW ws = flagW ws 4 r c v p4 by rw [Hres2.out, valW, if_pos rfl, hp4]; rfl)
          have HN5 := Lib.hid (show 5 + m5 = N by have := HN4.out; omega)
          have Ho5 := Lib.hid ho5
          clear hp4 hm5 ho5 hn5 hs8 h8 c3 c50 c51 c52 c53 c54 c55 f53 f54 f55
          obtain ⟨sp4, hsp4⟩ : ∃ sp : ByteArray, (⟨p4.toArray⟩ : ByteArray) = sp := ⟨_, rfl⟩
          rw [hsp4]
          have hspl4 : sp4.toList = p4 := by rw [show sp4.toList = sp4.data.toList from Lib.toList_data sp4, ← hsp4]
          clear hsp4
          have c3 := h9.pt_cell 0
          have c50 := h9.p2.pt_cell 0; have c51 := h9.p2.pt_cell 1; have c52 := h9.p2.pt_cell 2; have c53 := h9.p2.pt_cell 3; have c54 := h9.p2.pt_cell 4; have c55 := h9.p2.pt_cell 5
          have f53 := h9.p2.pt_free 3; have f54 := h9.p2.pt_free 4; have f55 := h9.p2.pt_free 5
          simp only [List.getElem?_toArray, List.getElem?_cons_zero, List.getElem?_cons_succ] at c3 c50 c51 c52 c53 c54 c55
          by_cases hfh : p4 = wHas
          · have hb4 : (sp4.toList == [104, 97, 115]) = true := by rw [hspl4, hfh]; rfl
            have Hres4 := Lib.hid (show readW ws = (ws[5]?).bind fun w5 => (unwordL w5).bind fun e => finW ws 6 4 r c v true e by rw [Hres3.out, flagW, if_pos hfh])
            have hsx : Sat B (rst w1.heap.size g N o5 m5 ws (w1.heap.size + 1) 4 r c v true [] w.heap.size L) (w9.setCell ⟨w1.heap.size + 1, 4, none⟩ (.bool true)) := (h9.p2.set (j := 4) (.bool true)).q2
            clear hspl4 hfh
            go_wp2_with fail
            have hn6 := pnext w1.heap.size g N 5 o5 m5 ws Hw.out.1 HN5.out (fun e => by have := Ho5.out e; omega) hNb hsx
            refine hn6.mono ?_
            rintro y w11 (⟨hm, rfl, h11⟩ | ⟨p5, m6, o6, hm6, hp5, rfl, ho6, h11⟩)
            · exact ⟨rfl, .inr ⟨by rw [Hres4.out, List.getElem?_eq_none (by rw [Hw.out.1, ← HN5.out, hm]; exact Nat.le_refl _)]; rfl, rfl⟩, h11.drop.drop.drop.drop⟩
            have H5 := Lib.hid (And.intro hp5 hm6)
            have hb5 := pbytes (bA p5) (by show p5.length ≤ _; have := Hw.out.2 p5 (List.mem_of_getElem? hp5); omega) h11
            have HN6 := Lib.hid (show 6 + m6 = N by have := HN5.out; omega)
            clear hp5 hm6 ho6 hn6 hsx h9 c3 c50 c51 c52 c53 c54 c55 f53 f54 f55
            go_wp2_with fail
            refine hb5.mono ?_
            rintro y w12 ⟨⟨e, he, rfl⟩ | ⟨he, rfl⟩, h12⟩
            rotate_left
            · exact ⟨rfl, .inr ⟨by rw [Hres4.out, H5.out.1]; simp only [Option.bind_some]; rw [show unwordL p5 = none from he]; rfl, rfl⟩, h12.drop.drop.drop.drop⟩
            have Hres5 := Lib.hid (show readW ws = finW ws 6 4 r c v true e by rw [Hres4.out, H5.out.1]; simp only [Option.bind_some]; rw [show unwordL p5 = some e from he]; rfl)
            have hs12 : Sat B (rst w1.heap.size g N o6 m6 ws (w1.heap.size + 1) 4 r c v true e w.heap.size L) (w12.setCell ⟨w1.heap.size + 1, 5, none⟩ (.string (bA e))) := (h12.p2.set (j := 5) (.string (bA e))).q2
            clear he hb5 h11
            have c3 := h12.pt_cell 0
            have c50 := h12.p2.pt_cell 0; have c51 := h12.p2.pt_cell 1; have c52 := h12.p2.pt_cell 2; have c53 := h12.p2.pt_cell 3; have c54 := h12.p2.pt_cell 4; have c55 := h12.p2.pt_cell 5
            have f53 := h12.p2.pt_free 3; have f54 := h12.p2.pt_free 4; have f55 := h12.p2.pt_free 5
            simp only [List.getElem?_toArray, List.getElem?_cons_zero, List.getElem?_cons_succ] at c3 c50 c51 c52 c53 c54 c55
            by_cases hm0 : m6 = 0
            · subst hm0
              have hri := pright 4 (bA r) (bA c) (bA v) true (bA e) hs12
              rw [show mayOp 4 (bA r).data.toList (bA c).data.toList (bA v).data.toList true (bA e).data.toList = mayOp 4 r c v true e from rfl] at hri
              obtain ⟨ok, hok⟩ : ∃ ok, mayOp 4 r c v true e = ok := ⟨_, rfl⟩
              rw [hok] at hri
              have Hok := Lib.hid hok
              have HL := Lib.hid (show ws.length ≤ 6 by rw [Hw.out.1, ← HN6.out]; omega)
              clear hok
              cases ok
              · go_wp2_with (first
                  | (go_at_call 36; refine hri.mono ?_; rintro y w9 ⟨rfl, h9⟩)
                  | (go_at_call 31; refine (pgive _ _).mono ?_; rintro y w' ⟨rfl, rfl⟩))
                exact ⟨rfl, .inr ⟨by rw [Hres5.out, finW, if_neg (fun h => by have := h.2; rw [Hok.out] at this; cases this)], rfl⟩, h9.drop.drop.drop.drop⟩
              · go_wp2_with (first
                  | (go_at_call 36; refine hri.mono ?_; rintro y w9 ⟨rfl, h9⟩; have p5 := h9.p2.pt_cell; have q0 := p5 0; have q1 := p5 1; have q2 := p5 2; have q3 := p5 3; have q4 := p5 4; have q5 := p5 5; simp only [List.getElem?_toArray, List.getElem?_cons_zero, List.getElem?_cons_succ] at q0 q1 q2 q3 q4 q5; clear p5; have h93 := h9.p3)
                  | ((with_reducible change wpList _ _ _ ({ dst := _, op := Op.store _ (.tmp 2) _, type := _, pos := _, after := _, guard := _ } :: _) _ _); (refine wpList_store_all (vs := opC 4 (bA r) (bA c) (bA v) true (bA e)) rfl (.tmp 2) _ rfl rfl rfl (by kernel_rfl) h93 rfl (by simp [Value.oneCell']) ?_); intro w8 h8; have p6 := h8.pt_cell; have z0 := p6 0; have z1 := p6 1; have z2 := p6 2; have z3 := p6 3; have z4 := p6 4; have z5 := p6 5; simp only [List.getElem?_toArray, List.getElem?_cons_zero, List.getElem?_cons_succ] at z0 z1 z2 z3 z4 z5; clear p6; go_frame))
                exact bodyPost_ret (v := .agg (opC 4 (bA r) (bA c) (bA v) true (bA e))) (by simp [results, Tryz.results41, go_sem, z0, z1, z2, z3, z4, z5]) rfl ⟨.inl ⟨4, r, c, v, true, e, by rw [Hres5.out, finW, if_pos ⟨HL.out, Hok.out⟩], rfl⟩, h8.drop.drop.drop.drop⟩
            · have hm1' : (0 : Int) < m6 := by omega
              have hgiv := Lib.hid (show ¬ ws.length ≤ 6 by rw [Hw.out.1, ← HN6.out]; omega)
              go_wp2_with (go_at_call 31; refine (pgive _ _).mono ?_; rintro y w' ⟨rfl, rfl⟩)
              exact ⟨rfl, .inr ⟨by rw [Hres5.out, finW, if_neg (fun h => hgiv.out h.1)], rfl⟩, hs12.drop.drop.drop.drop⟩
          · have hb4 : (sp4.toList == [104, 97, 115]) = false := by rw [hspl4]; simpa using hfh
            by_cases hfn : p4 = wNone
            · have hb5 : (sp4.toList == [110, 111, 110, 101]) = true := by rw [hspl4, hfn]; rfl
              have Hres4 := Lib.hid (show readW ws = finW ws 5 4 r c v false [] by rw [Hres3.out, flagW, if_neg hfh, if_pos hfn])
              clear hspl4 hfh hfn
              by_cases hm0 : m5 = 0
              · subst hm0
                have hri := pright 4 (bA r) (bA c) (bA v) false (bA []) h9
                rw [show mayOp 4 (bA r).data.toList (bA c).data.toList (bA v).data.toList false (bA []).data.toList = mayOp 4 r c v false [] from rfl] at hri
                obtain ⟨ok, hok⟩ : ∃ ok, mayOp 4 r c v false [] = ok := ⟨_, rfl⟩
                rw [hok] at hri
                have Hok := Lib.hid hok
                have HL := Lib.hid (show ws.length ≤ 5 by rw [Hw.out.1, ← HN5.out]; omega)
                clear hok
                cases ok
                · go_wp2_with (first
                    | (go_at_call 36; refine hri.mono ?_; rintro y w9 ⟨rfl, h9⟩)
                    | (go_at_call 31; refine (pgive _ _).mono ?_; rintro y w' ⟨rfl, rfl⟩))
                  exact ⟨rfl, .inr ⟨by rw [Hres4.out, finW, if_neg (fun h => by have := h.2; rw [Hok.out] at this; cases this)], rfl⟩, h9.drop.drop.drop.drop⟩
                · go_wp2_with (first
                    | (go_at_call 36; refine hri.mono ?_; rintro y w9 ⟨rfl, h9⟩; have p5 := h9.p2.pt_cell; have q0 := p5 0; have q1 := p5 1; have q2 := p5 2; have q3 := p5 3; have q4 := p5 4; have q5 := p5 5; simp only [List.getElem?_toArray, List.getElem?_cons_zero, List.getElem?_cons_succ] at q0 q1 q2 q3 q4 q5; clear p5; have h93 := h9.p3)
                    | ((with_reducible change wpList _ _ _ ({ dst := _, op := Op.store _ (.tmp 2) _, type := _, pos := _, after := _, guard := _ } :: _) _ _); (refine wpList_store_all (vs := opC 4 (bA r) (bA c) (bA v) false (bA [])) rfl (.tmp 2) _ rfl rfl rfl (by kernel_rfl) h93 rfl (by simp [Value.oneCell']) ?_); intro w8 h8; have p6 := h8.pt_cell; have z0 := p6 0; have z1 := p6 1; have z2 := p6 2; have z3 := p6 3; have z4 := p6 4; have z5 := p6 5; simp only [List.getElem?_toArray, List.getElem?_cons_zero, List.getElem?_cons_succ] at z0 z1 z2 z3 z4 z5; clear p6; go_frame))
                  exact bodyPost_ret (v := .agg (opC 4 (bA r) (bA c) (bA v) false (bA []))) (by simp [results, Tryz.results41, go_sem, z0, z1, z2, z3, z4, z5]) rfl ⟨.inl ⟨4, r, c, v, false, [], by rw [Hres4.out, finW, if_pos ⟨HL.out, Hok.out⟩], rfl⟩, h8.drop.drop.drop.drop⟩
              · have hm1' : (0 : Int) < m5 := by omega
                have hgiv := Lib.hid (show ¬ ws.length ≤ 5 by rw [Hw.out.1, ← HN5.out]; omega)
                go_wp2_with (go_at_call 31; refine (pgive _ _).mono ?_; rintro y w' ⟨rfl, rfl⟩)
                exact ⟨rfl, .inr ⟨by rw [Hres4.out, finW, if_neg (fun h => hgiv.out h.1)], rfl⟩, h9.drop.drop.drop.drop⟩
            · have hb5 : (sp4.toList == [110, 111, 110, 101]) = false := by rw [hspl4]; simpa using hfn
              have Hres4 := Lib.hid (show readW ws = none by rw [Hres3.out, flagW, if_neg hfh, if_neg hfn])
              clear hspl4 hfh hfn
              go_wp2_with (go_at_call 31; refine (pgive _ _).mono ?_; rintro y w' ⟨rfl, rfl⟩)
              exact ⟨rfl, .inr ⟨Hres4.out, rfl⟩, h9.drop.drop.drop.drop⟩
        · have hK1b : (K == 1) = false := by simpa using hK1
          have hK4b : (K == 4) = false := by simpa using hK4
          by_cases hm0 : m3 = 0
          · subst hm0
            have hri := pright K (bA r) (bA c) (bA []) false (bA []) hs6
            rw [show mayOp K (bA r).data.toList (bA c).data.toList (bA []).data.toList false (bA []).data.toList = mayOp K r c [] false [] from rfl] at hri
            obtain ⟨ok, hok⟩ : ∃ ok, mayOp K r c [] false [] = ok := ⟨_, rfl⟩
            rw [hok] at hri
            have Hok := Lib.hid hok
            have HL := Lib.hid (show ws.length ≤ 3 by rw [Hw.out.1, ← HN3.out]; omega)
            clear hok
            cases ok
            · go_wp2_with (first
                | (go_at_call 36; refine hri.mono ?_; rintro y w9 ⟨rfl, h9⟩)
                | (go_at_call 31; refine (pgive _ _).mono ?_; rintro y w' ⟨rfl, rfl⟩))
              exact ⟨rfl, .inr ⟨by rw [Hres.out, restW, if_neg (fun h => h.elim hK1 hK4), finW, if_neg (fun h => by have := h.2; rw [Hok.out] at this; cases this)], rfl⟩, h9.drop.drop.drop.drop⟩
            · go_wp2_with (first
                | (go_at_call 36; refine hri.mono ?_; rintro y w9 ⟨rfl, h9⟩; have p5 := h9.p2.pt_cell; have q0 := p5 0; have q1 := p5 1; have q2 := p5 2; have q3 := p5 3; have q4 := p5 4; have q5 := p5 5; simp only [List.getElem?_toArray, List.getElem?_cons_zero, List.getElem?_cons_succ] at q0 q1 q2 q3 q4 q5; clear p5; have h93 := h9.p3)
                | ((with_reducible change wpList _ _ _ ({ dst := _, op := Op.store _ (.tmp 2) _, type := _, pos := _, after := _, guard := _ } :: _) _ _); (refine wpList_store_all (vs := opC K (bA r) (bA c) (bA []) false (bA [])) rfl (.tmp 2) _ rfl rfl rfl (by kernel_rfl) h93 rfl (by simp [Value.oneCell']) ?_); intro w8 h8; have p6 := h8.pt_cell; have z0 := p6 0; have z1 := p6 1; have z2 := p6 2; have z3 := p6 3; have z4 := p6 4; have z5 := p6 5; simp only [List.getElem?_toArray, List.getElem?_cons_zero, List.getElem?_cons_succ] at z0 z1 z2 z3 z4 z5; clear p6; go_frame))
              exact bodyPost_ret (v := .agg (opC K (bA r) (bA c) (bA []) false (bA []))) (by simp [results, Tryz.results41, go_sem, z0, z1, z2, z3, z4, z5]) rfl ⟨.inl ⟨K, r, c, [], false, [], by rw [Hres.out, restW, if_neg (fun h => h.elim hK1 hK4), finW, if_pos ⟨HL.out, Hok.out⟩], rfl⟩, h8.drop.drop.drop.drop⟩
          · have hm1' : (0 : Int) < m3 := by omega
            have hgiv := Lib.hid (show ¬ ws.length ≤ 3 by rw [Hw.out.1, ← HN3.out]; omega)
            go_wp2_with (go_at_call 31; refine (pgive _ _).mono ?_; rintro y w' ⟨rfl, rfl⟩)
            exact ⟨rfl, .inr ⟨by rw [Hres.out, restW, if_neg (fun h => h.elim hK1 hK4), finW, if_neg (fun h => hgiv.out h.1)], rfl⟩, hs6.drop.drop.drop.drop⟩
end
end Go.Proofs.YtcjindifdghpgaaGreatDoor
