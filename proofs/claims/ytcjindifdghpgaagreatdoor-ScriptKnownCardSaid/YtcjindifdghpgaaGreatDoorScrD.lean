/-
  Script: Parse.
-/
import Derived.Test.YtcjindifdghpgaaGreatDoorScrC
namespace Go.Proofs.YtcjindifdghpgaaGreatDoor
open Go.RowKit
section
variable {B w : World} {L : List HP}
theorem run_code : ∀ (ls : List Bs) (i : Nat) (p raw : Bs) (c : Int) (k : Nat), runL ls i p raw = .error (c, k) → c = 15 ∨ c = 3
  | [], i, p, raw, c, k, h => by rw [runL] at h; cases h; exact .inl rfl
  | [l], i, p, raw, c, k, h => by
    rw [runL] at h
    split at h
    · cases h
    · cases h; exact .inl rfl
  | l :: l' :: t, i, p, raw, c, k, h => by
    rw [runL] at h
    cases hs : stepL i p l raw with
    | error c' =>
      rw [hs] at h
      cases h
      rw [stepL] at hs
      cases hu : unhexL l with
      | none => rw [hu, stepB] at hs; cases hs; exact .inl rfl
      | some b =>
        rw [hu, stepB] at hs
        split at hs
        · cases hs; exact .inl rfl
        · split at hs
          · cases hs; exact .inr rfl
          · cases hs
    | ok r => rw [hs] at h; exact run_code (l' :: t) _ _ _ _ _ h
theorem parse_code (ls : List Bs) (c : Int) (k : Nat) (h : parseLs ls = .error (c, k)) : c = 15 ∨ c = 3 := by
  match ls, h with
  | [], h => rw [parseLs] at h; cases h; exact .inl rfl
  | [_], h => rw [parseLs] at h; cases h; exact .inl rfl
  | l :: l' :: t, h =>
    rw [parseLs] at h
    cases hs : setupL l with
    | none => rw [hs] at h; cases h; exact .inl rfl
    | some x =>
      rw [hs] at h
      cases hr : runL (l' :: t) 1 l [] with
      | ok r => simp only [hr] at h; exact absurd h (by simp [withX])
      | error e => simp only [hr] at h; cases h; exact run_code _ _ _ _ _ _ hr
abbrev zS : Value := .agg #[.int .i64 0, .int .i64 0, .int .i64 0, .int .i64 0, .int .i64 0, .int .i64 0, .int .i64 0, .int .i64 0, .int .i64 0]
abbrev zC : Obj := .cells #[.int .i64 0, .int .i64 0, .int .i64 0, .int .i64 0, .int .i64 0, .int .i64 0, .int .i64 0, .int .i64 0, .int .i64 0] 28
/-- What Parse answers. -/
def parsed (B : World) (L : List HP) (s : Bs) (y : Ending) (w' : World) : Prop :=
  (∃ (a b c d e f g i j : Int) (raw : Bs) (ra : Option Addr) (m rc : Nat), parseL s = .ok ([a, b, c, d, e, f, g, i, j], raw) ∧
    y = .returned (.tuple #[.agg #[.int .i64 a, .int .i64 b, .int .i64 c, .int .i64 d, .int .i64 e, .int .i64 f, .int .i64 g, .int .i64 i, .int .i64 j], .slice ra m rc, .nilIface]) ∧ raw.length = m ∧
    Sat B (row 5 1 (.slice ra m rc) m (u8s raw) :: L) w') ∨
  (∃ (c : Int) (i p : Nat), parseL s = .error (c, i) ∧ y = .returned (.tuple #[zS, .slice none 0 0, .iface 36 (.pointer (some ⟨p, 0, none⟩))]) ∧
    Sat B (pt p (.cells #[.int .i64 c, .int .i64 i] 40) :: L) w')
/-- What guarded leaves of Parse's closure. -/
def pleft (ba bl bls bx br g : Nat) (ls : List Bs) (n : Nat) (L : List HP) (o : Option Int) (L' : List HP) : Prop :=
  ∃ (i : Nat) (x : List Int) (ra : Option Addr) (m rc : Nat) (raw : Bs), x.length = 9 ∧ L' = prs ba bl bls bx br g ls n (n + 1) i x ra m rc raw L ∧
    (o = none → parseLs ls = .ok (x, raw)) ∧ (∀ c, o = some c → parseLs ls = .error (c, i))
theorem pcaught (hE : Env B) (ba bl bls bx br g : Nat) (ls : List Bs) (n : Nat) (hNb : n + 1 ≤ 65537) (hn : ls.length = n + 1) (hln : ∀ l ∈ ls, l.length ≤ 65536)
    (h : Sat B (prs ba bl bls bx br g ls n (n + 1) 0 z9 none 0 0 [] L) w) :
    Calls Tryz.prog 27 #[.func (.func 28) #[] #[.pointer (some ⟨ba, 0, none⟩), .pointer (some ⟨bl, 0, none⟩), .pointer (some ⟨bls, 0, none⟩), .pointer (some ⟨bx, 0, none⟩), .pointer (some ⟨br, 0, none⟩)]] w fun y w' =>
      ∃ (o : Option Int) (L' : List HP), y = .returned (.int .i64 (o.getD 0)) ∧ pleft ba bl bls bx br g ls n L o L' ∧ Sat B L' w' := by
  refine pguarded 28 _ (pleft ba bl bls bx br g ls n L) h (fun _ => by kernel_rfl) fun w1 h1 => ?_
  have h2 : Sat B (prs ba bl bls bx br g ls n (n + 1) 0 z9 none 0 0 [] (pt w.heap.size (.cells #[.int .i64 0] 29) :: L)) w1 := Sat.push 7 rfl h1
  refine (pclosure hE ba bl bls bx br g ls n (n + 1) rfl hNb hn hln h2).mono ?_
  rintro y w2 ⟨i, x, ra, m, rc, raw, hx, hS, ⟨hok, rfl⟩ | ⟨c, hbad, rfl⟩⟩
  · exact ⟨none, _, rfl, ⟨i, x, ra, m, rc, raw, hx, rfl, fun _ => hok, fun c e => by cases e⟩, hS.pull (i := 7) rfl⟩
  · exact ⟨some c, _, rfl, ⟨i, x, ra, m, rc, raw, hx, rfl, fun e => by (cases e), fun c' e => by (cases e; exact hbad)⟩, hS.pull (i := 7) rfl⟩
set_option maxHeartbeats 4000000 in
set_option maxRecDepth 100000 in
theorem pparse (hE : Env B) (h : Sat B L w) (s : ByteArray) : Calls Tryz.prog 7 #[.string s] w (parsed B L s.data.toList) := by
  have hR := h.alloc' zC (n := w.heap.size) rfl
  by_cases hbig : 65536 < s.size
  · have hbig2 : 65536 < (s.size : Int) := by omega
    have hp : parseL s.data.toList = .error (3, 0) := by rw [parseL, if_pos (by simpa using hbig)]
    have Hp := Lib.hid hp
    clear hp hE
    go_enter Tryz.func7, Tryz.ntmps7
    go_wp2_with fail
    have hR2 := hR.alloc' (.cells #[.int .i64 3, .int .i64 0] 40) (n := w.heap.size + 1) (by simp)
    exact bodyPost_ret (v := .tuple #[zS, .slice none 0 0, .iface 36 (.pointer (some ⟨w.heap.size + 1, 0, none⟩))]) (by simp [results, Tryz.results7, go_sem]) rfl (.inr ⟨3, 0, _, Hp.out, rfl, hR2.swap.drop⟩)
  · have hs : s.size ≤ 65536 := by omega
    have hs2 : (s.size : Int) ≤ 65536 := by omega
    have hp : parseL s.data.toList = parseLs (splL 10 s.data.toList) := by rw [parseL, if_neg (by simpa using hbig)]
    have hsp := psplit hE hR s 10 (by omega)
    obtain ⟨ls, hls⟩ : ∃ ls, splL 10 s.data.toList = ls := ⟨_, rfl⟩
    have hln : ∀ l ∈ ls, l.length ≤ 65536 := fun p hp => by
      have := (splL_mem 10 s.data.toList p (by rw [hls]; exact hp)).1
      have e : s.data.toList.length = s.size := by rw [Array.length_toList]; rfl
      omega
    obtain ⟨N, hN⟩ : ∃ N, ls.length = N := ⟨_, rfl⟩
    have hN1 : 1 ≤ N ∧ N ≤ 65537 := by
      rw [← hN, ← hls, splL_length]
      have e : s.data.toList.length = s.size := by rw [Array.length_toList]; rfl
      have := List.count_le_length (a := (10 : UInt8)) (l := s.data.toList)
      omega
    obtain ⟨n, rfl⟩ : ∃ n, N = n + 1 := ⟨N - 1, by omega⟩
    rw [hls] at hsp hp
    rw [hN] at hsp
    have Hp := Lib.hid hp
    have Hls := Lib.hid (And.intro hN hln)
    clear hp hls hN hln hbig
    obtain ⟨b2, hb2⟩ : ∃ b2, w.heap.size = b2 := ⟨_, rfl⟩
    rw [hb2] at hsp
    go_enter Tryz.func7, Tryz.ntmps7
    go_wp2_with (first
      | (go_at_call 26; refine hsp.mono ?_; rintro e w2 ⟨g, rfl, hS2⟩; obtain ⟨b5, hb5⟩ : ∃ b, w2.heap.size = b := ⟨_, rfl⟩;
          have hP : Sat B (prs (b5 + 1 + 1) (b5 + 1) b5 (b5 + 1 + 1 + 1) (b5 + 1 + 1 + 1 + 1) g ls n (n + 1) 0 z9 none 0 0 [] (pt b2 zC :: L)) (((((w2.alloc (.cells #[.slice (some ⟨g, 0, none⟩) (n + 1) (n + 1)] 60)).alloc (.cells #[.int .i64 n] 3)).alloc (.cells #[.int .i64 0] 3)).alloc zC).alloc (.cells #[.slice none 0 0] 23)) :=
            (((((((((hS2.alloc' (.cells #[.slice (some ⟨g, 0, none⟩) (n + 1) (n + 1)] 60) (n := b5) (by rw [hb5])).alloc' (.cells #[.int .i64 n] 3) (n := b5 + 1) (by simp [hb5])).alloc' (.cells #[.int .i64 0] 3) (n := b5 + 1 + 1) (by simp [hb5])).alloc' zC (n := b5 + 1 + 1 + 1) (by simp [hb5])).alloc' (.cells #[.slice none 0 0] 23) (n := b5 + 1 + 1 + 1 + 1) (by simp [hb5])).row_nil 5 1).swap.pull (i := 2) rfl).pull (i := 5) rfl).pull (i := 5) rfl).pull (i := 5) rfl;
          have hb25 : b2 < b5 := (by have := hS2.swap.pt_lt; omega);
          have hcau := pcaught hE _ _ _ _ _ _ ls n hN1.2 Hls.out.1 Hls.out.2 hP; clear hP hS2 hsp)
      | (go_at_call 27; refine hcau.mono ?_; rintro e w3 ⟨o, L', rfl, ⟨i, x, ra, m, rc, raw, hx, rfl, hok, hbad⟩, hS3⟩; clear hcau;
          obtain ⟨a, b, c, d, e, f, gg, ii, j, rfl⟩ := list9 x hx; have hx := 0; cases o <;> (try (rename_i v; have hv0 : (v != 0) = true := (by rcases parse_code ls v i (hbad v rfl) with rfl | rfl <;> rfl)))))
    · have hok2 := Lib.hid (hok trivial)
      have n1 : ¬ b5 + 1 + 1 + 1 + 1 = b2 := by omega
      have n2 : ¬ b2 = b5 + 1 + 1 + 1 + 1 := by omega
      have n3 : ¬ b5 + 1 + 1 + 1 = b2 := by omega
      have n4 : ¬ b2 = b5 + 1 + 1 + 1 := by omega
      have hSx := hS3.pull (i := 3) rfl
      have hSz := hS3.pull (i := 7) rfl
      have p5 := hSx.pt_cell; have p2 := hSz.pt_cell; have f2 := hSz.pt_free
      have q0 := p5 0; have q1 := p5 1; have q2 := p5 2; have q3 := p5 3; have q4 := p5 4; have q5 := p5 5; have q6 := p5 6; have q7 := p5 7; have q8 := p5 8; 
      have z0 := p2 0; have z1 := p2 1; have z2 := p2 2; have z3 := p2 3; have z4 := p2 4; have z5 := p2 5; have z6 := p2 6; have z7 := p2 7; have z8 := p2 8; 
      have y0 := f2 0; have y1 := f2 1; have y2 := f2 2; have y3 := f2 3; have y4 := f2 4; have y5 := f2 5; have y6 := f2 6; have y7 := f2 7; have y8 := f2 8; 
      simp only [setC, List.map, List.getElem?_toArray, List.getElem?_cons_zero, List.getElem?_cons_succ] at q0 q1 q2 q3 q4 q5 q6 q7 q8 z0 z1 z2 z3 z4 z5 z6 z7 z8
      have cr := hS3.p4.pt_cell 0
      clear p5 p2 f2 hok hbad hx
      go_region
      go_wp2_with fail
      have hm := (hS3.pull (i := 5) rfl).row_len
      have S9 := ((((((((hSz.set (j := 0) (.int .i64 a)).set (j := 1) (.int .i64 b)).set (j := 2) (.int .i64 c)).set (j := 3) (.int .i64 d)).set (j := 4) (.int .i64 e)).set (j := 5) (.int .i64 f)).set (j := 6) (.int .i64 gg)).set (j := 7) (.int .i64 ii)).set (j := 8) (.int .i64 j)
      refine bodyPost_ret (v := .tuple #[.agg #[.int .i64 a, .int .i64 b, .int .i64 c, .int .i64 d, .int .i64 e, .int .i64 f, .int .i64 gg, .int .i64 ii, .int .i64 j], .slice ra m rc, .nilIface]) (by simp [results, Tryz.results7, go_sem, z0, z1, z2, z3, z4, z5, z6, z7, z8]) rfl (.inl ⟨a, b, c, d, e, f, gg, ii, j, raw, ra, m, rc, ?_, rfl, ?_, ?_⟩)
      · rw [Hp.out, hok2.out]
      · rw [u8s_len] at hm; omega
      · exact S9.drew.drop.drop.drop.drop.drop.drop.swap.drop
    · have hbad2 := Lib.hid (hbad v rfl)
      have n3 : ¬ b5 + 1 + 1 = b2 := by omega
      have n4 : ¬ b2 = b5 + 1 + 1 := by omega
      have hSz := hS3.pull (i := 7) rfl
      have hb3 := hSz.pt_lt
      have p2 := hSz.pt_cell; have f2 := hSz.pt_free
      have z0 := p2 0; have z1 := p2 1; have z2 := p2 2; have z3 := p2 3; have z4 := p2 4; have z5 := p2 5; have z6 := p2 6; have z7 := p2 7; have z8 := p2 8; 
      have y0 := f2 0; have y1 := f2 1; have y2 := f2 2; have y3 := f2 3; have y4 := f2 4; have y5 := f2 5; have y6 := f2 6; have y7 := f2 7; have y8 := f2 8; 
      simp only [List.getElem?_toArray, List.getElem?_cons_zero, List.getElem?_cons_succ] at z0 z1 z2 z3 z4 z5 z6 z7 z8
      have ca := hS3.pt_cell 0
      clear p2 f2 hok hbad hx
      go_region
      go_wp2_with fail
      have S9 := ((((((((hSz.set (j := 0) (.int .i64 0)).set (j := 1) (.int .i64 0)).set (j := 2) (.int .i64 0)).set (j := 3) (.int .i64 0)).set (j := 4) (.int .i64 0)).set (j := 5) (.int .i64 0)).set (j := 6) (.int .i64 0)).set (j := 7) (.int .i64 0)).set (j := 8) (.int .i64 0)
      have S10 := S9.alloc' (.cells #[.int .i64 v, .int .i64 i] 40) (n := w3.heap.size) (by simp)
      have S11 := S10.drew.swap
      refine bodyPost_ret (v := .tuple #[zS, .slice none 0 0, .iface 36 (.pointer (some ⟨w3.heap.size, 0, none⟩))]) (by simp [results, Tryz.results7, go_sem, z0, z1, z2, z3, z4, z5, z6, z7, z8, hb3]) rfl (.inr ⟨v, i, _, ?_, rfl, ?_⟩)
      · rw [Hp.out, hbad2.out]
      · exact S11.drop.swap.drop.swap.drop.swap.drop.swap.drop.swap.drop.swap.drop.swap.drop
end
end Go.Proofs.YtcjindifdghpgaaGreatDoor
