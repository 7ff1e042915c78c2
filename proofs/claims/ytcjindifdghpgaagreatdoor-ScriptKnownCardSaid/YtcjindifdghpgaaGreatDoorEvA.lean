/-
  EncodeResult, the document's and the program's: whether a result may be: contracts. ops.EncodeResult: contract. ops.laying, ops.count, ops.outcome, ops.EncodeResult: contracts.
-/
import Derived.Test.YtcjindifdghpgaaGreatDoorWireA
import Derived.Test.YtcjindifdghpgaaGreatDoorOpsCE
import Derived.Deep.RegionWith
namespace Go.Proofs.YtcjindifdghpgaaGreatDoor
set_option linter.all false
open Go.RowKit
section
variable {B w : World} {L : List HP}
/-- A result's cells. -/
abbrev resC (er : Int) (found : Bool) (r v : ByteArray) (ver : Nat) : Array Value := #[.int .i64 er, .bool found, .string r, .string v, .int .u64 ver]
/-- May a result be? -/
def mayRes (er : Int) (r v : ByteArray) (ver : Nat) : Bool := decide (0 ≤ er ∧ er ≤ 15) && decide (r.size ≤ 32) && decide (v.size ≤ 65536) && decide (ver ≤ 1099511627776)
theorem le65536 (n : Nat) : ((n : Int) ≤ 65536) = (n ≤ 65536) := by apply propext; omega
theorem le240 (n : Nat) : ((n : Int) ≤ 1099511627776) = (n ≤ 1099511627776) := by apply propext; omega
theorem slenT (s : ByteArray) : s.toList.length = s.size := by rw [Lib.toList_data]; exact slenB s
set_option maxHeartbeats 1000000 in
set_option maxRecDepth 100000 in
theorem rres (er : Int) (found : Bool) (r v : ByteArray) (ver : Nat) (hS : Sat B L w) :
    Calls Tryz.prog 74 #[.agg (resC er found r v ver)] w fun y w' => y = .returned (.bool (mayRes er r v ver)) ∧ Sat B L w' := by
  have hst := fun w' => rstored r w'
  rw [slenB] at hst
  go_enter Tryz.func74, Tryz.ntmps74
  go_wp2_with (go_at_call 68; refine (hst _).mono ?_; rintro y w' ⟨rfl, rfl⟩)
  all_goals
    go_ret
    refine ⟨?_, by first | exact (hS.alloc _).drop⟩
    show Ending.returned (Value.bool _) = Ending.returned (Value.bool _)
    congr 2
    clear hst hS
    simp [mayRes, le65536, le240] at *
    try (simp_all; done)
    try (simp_all; omega)
    try (intros; omega)
set_option maxHeartbeats 1000000 in
set_option maxRecDepth 100000 in
theorem pres (er : Int) (found : Bool) (r v : ByteArray) (ver : Nat) (hS : Sat B L w) :
    Calls Tryz.prog 71 #[.agg (resC er found r v ver)] w fun y w' => y = .returned (.bool (mayRes er r v ver)) ∧ Sat B L w' := by
  have hst := fun w' => pstored r w'
  have hbl := fun w' => pbelow er 16 w'
  rw [slenB] at hst
  go_enter Tryz.func71, Tryz.ntmps71
  go_wp2_with (first | (go_at_call 90; refine (hst _).mono ?_; rintro y w' ⟨rfl, rfl⟩) | (go_at_call 85; refine (hbl _).mono ?_; rintro y w' ⟨rfl, rfl⟩))
  all_goals
    go_ret
    refine ⟨?_, by first | exact (hS.alloc _).drop⟩
    show Ending.returned (Value.bool _) = Ending.returned (Value.bool _)
    congr 2
    clear hst hS hbl
    simp [mayRes, le65536, le240] at *
    try (simp_all; done)
    try (simp_all; omega)
    try (intros; omega)
/-! ### The document's bytes -/
section
variable (b : Nat) (t : ByteArray)
set_option maxRecDepth 100000 in
theorem rputN (hb : t.size ≤ 140737488355328) (n : Nat) (hn : n < 18446744073709551616) (h : Sat B (pt b (.cells #[.string t] 145) :: L) w) :
    Calls Tryz.prog 107 #[.pointer (some ⟨b, 0, none⟩), .int .u64 n] w fun y w' => y = .returned (.tuple #[]) ∧ Sat B (pt b (.cells #[.string ⟨(t.data.toList ++ vnL n).toArray⟩] 145) :: L) w' := by
  have c0 : w.cell? ⟨b, 0, none⟩ = some (.string t) := h.pt_cell 0
  have hp := rputn01 t hb n hn w
  go_enter Tryz.func107, Tryz.ntmps107
  go_wp2_with (go_at_call 129; refine hp.mono ?_; rintro y w1 ⟨rfl, h1⟩; have h2 := h.of_below h1; have c1 := h2.pt_cell 0; have f1 := h2.pt_free 0; simp only [List.getElem?_toArray, List.getElem?_cons_zero] at c1)
  exact bodyPost_end (results_none rfl _ _ _) rfl ⟨rfl, h2.set (j := 0) _⟩
set_option maxRecDepth 100000 in
theorem rputB (hb : t.size ≤ 140737488355328) (x : Bool) (hS : Sat B (pt b (.cells #[.string t] 145) :: L) w) :
    Calls Tryz.prog 108 #[.pointer (some ⟨b, 0, none⟩), .bool x] w fun y w' => y = .returned (.tuple #[]) ∧ Sat B (pt b (.cells #[.string ⟨(t.data.toList ++ [if x = true then 1 else 0]).toArray⟩] 145) :: L) w' := by
  have c0 : w.cell? ⟨b, 0, none⟩ = some (.string t) := hS.pt_cell 0
  have f0 : w.frozen? ⟨b, 0, none⟩ = false := hS.pt_free 0
  have e1 : (t ++ (⟨#[1]⟩ : ByteArray)) = ⟨(t.data.toList ++ [1]).toArray⟩ := ba_list t [1]
  have e0 : (t ++ (⟨#[0]⟩ : ByteArray)) = ⟨(t.data.toList ++ [0]).toArray⟩ := ba_list t [0]
  have hS1 : Sat B (pt b (.cells #[.string (t ++ (⟨#[1]⟩ : ByteArray))] 145) :: L) (w.setCell ⟨b, 0, none⟩ (.string (t ++ (⟨#[1]⟩ : ByteArray)))) := hS.set (j := 0) _
  have hS0 : Sat B (pt b (.cells #[.string (t ++ (⟨#[0]⟩ : ByteArray))] 145) :: L) (w.setCell ⟨b, 0, none⟩ (.string (t ++ (⟨#[0]⟩ : ByteArray)))) := hS.set (j := 0) _
  cases x
  · rw [if_neg (by decide), ← e0]
    clear e0 e1 hS1
    go_enter Tryz.func108, Tryz.ntmps108
    go_wp2_with fail
    exact bodyPost_end (results_none rfl _ _ _) rfl ⟨rfl, hS0⟩
  · rw [if_pos rfl, ← e1]
    clear e0 e1 hS0
    go_enter Tryz.func108, Tryz.ntmps108
    go_wp2_with fail
    exact bodyPost_end (results_none rfl _ _ _) rfl ⟨rfl, hS1⟩
set_option maxRecDepth 100000 in
theorem rputT (hb : t.size ≤ 140737488355328) (s : ByteArray) (hs : s.size ≤ 140737488355328) (h : Sat B (pt b (.cells #[.string t] 145) :: L) w) :
    Calls Tryz.prog 109 #[.pointer (some ⟨b, 0, none⟩), .string s] w fun y w' => y = .returned (.tuple #[]) ∧ Sat B (pt b (.cells #[.string ⟨(t.data.toList ++ (vnL s.size ++ s.data.toList)).toArray⟩] 145) :: L) w' := by
  have c0 : w.cell? ⟨b, 0, none⟩ = some (.string t) := h.pt_cell 0
  have hp := rputt01 t hb s hs w
  go_enter Tryz.func109, Tryz.ntmps109
  go_wp2_with (go_at_call 130; refine hp.mono ?_; rintro y w1 ⟨rfl, h1⟩; have h2 := h.of_below h1; have c1 := h2.pt_cell 0; have f1 := h2.pt_free 0; simp only [List.getElem?_toArray, List.getElem?_cons_zero] at c1)
  exact bodyPost_end (results_none rfl _ _ _) rfl ⟨rfl, h2.set (j := 0) _⟩
end
set_option maxHeartbeats 1000000 in
set_option maxRecDepth 100000 in
theorem rputR (b : Nat) (er : Int) (found : Bool) (r v : ByteArray) (ver : Nat) (hm : mayRes er r v ver = true) (hS : Sat B (pt b (.cells #[.string ⟨#[]⟩] 145) :: L) w) :
    Calls Tryz.prog 75 #[.pointer (some ⟨b, 0, none⟩), .agg (resC er found r v ver)] w fun y w' => y = .returned (.tuple #[]) ∧ ∃ t, Sat B (pt b (.cells #[.string t] 145) :: L) w' := by
  simp only [mayRes, Bool.and_eq_true, decide_eq_true_eq] at hm
  obtain ⟨⟨⟨⟨h1, h2⟩, h3⟩, h4⟩, h5⟩ := hm
  obtain ⟨en, hen⟩ : ∃ n : Nat, er = n := ⟨er.toNat, by omega⟩
  subst hen
  have k1 := vn_len10 en (by omega)
  have k2 := vn_len10 r.size (by omega)
  have k3 := vn_len10 v.size (by omega)
  have hA := (hS.alloc' (.cells (resC en found r v ver) 51) (n := w.heap.size) rfl).swap
  obtain ⟨t1, ht1⟩ : ∃ t : ByteArray, (⟨((⟨#[]⟩ : ByteArray).data.toList ++ vnL en).toArray⟩ : ByteArray) = t := ⟨_, rfl⟩
  have z1 : t1.size ≤ 10 := by rw [← ht1]; show ([] ++ vnL en).length ≤ _; simpa using k1
  obtain ⟨t2, ht2⟩ : ∃ t : ByteArray, (⟨(t1.data.toList ++ [if found = true then 1 else 0]).toArray⟩ : ByteArray) = t := ⟨_, rfl⟩
  have z2 : t2.size ≤ 11 := by rw [← ht2]; show (_ ++ _ : Bs).length ≤ _; rw [List.length_append, slenB]; simp; omega
  obtain ⟨t3, ht3⟩ : ∃ t : ByteArray, (⟨(t2.data.toList ++ (vnL r.size ++ r.data.toList)).toArray⟩ : ByteArray) = t := ⟨_, rfl⟩
  have z3 : t3.size ≤ 1000 := by rw [← ht3]; show (_ ++ _ : Bs).length ≤ _; rw [List.length_append, List.length_append, slenB, slenB]; omega
  obtain ⟨t4, ht4⟩ : ∃ t : ByteArray, (⟨(t3.data.toList ++ (vnL v.size ++ v.data.toList)).toArray⟩ : ByteArray) = t := ⟨_, rfl⟩
  have z4 : t4.size ≤ 100000 := by rw [← ht4]; show (_ ++ _ : Bs).length ≤ _; rw [List.length_append, List.length_append, slenB, slenB]; omega
  have p1 := rputN b ⟨#[]⟩ (by show 0 ≤ _; omega) en (by omega) hA
  rw [ht1] at p1
  have p2 := fun (M : List HP) (w' : World) h' => rputB (B := B) (L := M) (w := w') b t1 (by omega) found h'
  have p3 := fun (M : List HP) (w' : World) h' => rputT (B := B) (L := M) (w := w') b t2 (by omega) r (by omega) h'
  have p4 := fun (M : List HP) (w' : World) h' => rputT (B := B) (L := M) (w := w') b t3 (by omega) v (by omega) h'
  have p5 := fun (M : List HP) (w' : World) h' => rputN (B := B) (L := M) (w := w') b t4 (by omega) ver (by omega) h'
  rw [ht2] at p2
  rw [ht3] at p3
  rw [ht4] at p4
  clear ht1 ht2 ht3 ht4 k1 k2 k3 hS
  go_enter Tryz.func75, Tryz.ntmps75
  go_wp2_with (first
    | (go_at_call_of 107 (Value.int .u64 en); refine p1.mono ?_; rintro y w1 ⟨rfl, q1⟩; have c1 : w1.cell? ⟨w.heap.size, 1, none⟩ = some (.bool found) := q1.swap.pt_cell 1)
    | (go_at_call 108; refine (p2 _ _ q1).mono ?_; rintro y w2 ⟨rfl, q2⟩; have c2 : w2.cell? ⟨w.heap.size, 2, none⟩ = some (.string r) := q2.swap.pt_cell 2)
    | (go_at_call_of 109 (Value.string r); refine (p3 _ _ q2).mono ?_; rintro y w3 ⟨rfl, q3⟩; have c3 : w3.cell? ⟨w.heap.size, 3, none⟩ = some (.string v) := q3.swap.pt_cell 3)
    | (go_at_call_of 109 (Value.string v); refine (p4 _ _ q3).mono ?_; rintro y w4 ⟨rfl, q4⟩; have c4 : w4.cell? ⟨w.heap.size, 4, none⟩ = some (.int .u64 ver) := q4.swap.pt_cell 4)
    | (go_at_call_of 107 (Value.int .u64 ver); refine (p5 _ _ q4).mono ?_; rintro y w5 ⟨rfl, q5⟩))
  exact bodyPost_end (results_none rfl _ _ _) rfl ⟨rfl, _, q5.swap.drop⟩
set_option maxHeartbeats 1000000 in
set_option maxRecDepth 100000 in
theorem renc (er : Int) (found : Bool) (r v : ByteArray) (ver : Nat) (hS : Sat B L w) :
    Calls Tryz.prog 48 #[.agg (resC er found r v ver)] w fun y w' => (∃ t, y = .returned (.tuple #[.string t, .int .i64 (if mayRes er r v ver = true then 0 else 2)])) ∧ Sat B L w' := by
  have hA := hS.alloc' (.cells (resC er found r v ver) 51) (n := w.heap.size) rfl
  have hr := rres er found r v ver hA
  cases hm : mayRes er r v ver
  · rw [hm] at hr
    clear hm hS
    go_enter Tryz.func48, Tryz.ntmps48
    go_wp2_with (go_at_call 74; refine hr.mono ?_; rintro y w1 ⟨rfl, h1⟩)
    go_ret2
    exact ⟨⟨_, rfl⟩, h1.drop⟩
  · rw [hm] at hr
    have hp := fun (b : Nat) (M : List HP) (w' : World) h' => rputR (B := B) (L := M) (w := w') b er found r v ver hm h'
    clear hm hS
    go_enter Tryz.func48, Tryz.ntmps48
    go_wp2_with (first
      | (go_at_call 74; refine hr.mono ?_; rintro y w1 ⟨rfl, h1⟩;
          have h2 := h1.alloc' (.cells #[.string ⟨#[]⟩] 145) (n := w1.heap.size) rfl;
          have c9 := h2.swap.pt_cell; have i0 := c9 0; have i1 := c9 1; have i2 := c9 2; have i3 := c9 3; have i4 := c9 4;
          simp only [List.getElem?_toArray, List.getElem?_cons_zero, List.getElem?_cons_succ] at i0 i1 i2 i3 i4; clear c9)
      | (go_at_call 75; refine (hp _ _ _ h2).mono ?_; rintro y w3 ⟨rfl, t, h3⟩; have c3 := h3.pt_cell 0; simp only [List.getElem?_toArray, List.getElem?_cons_zero] at c3))
    go_ret2
    exact ⟨⟨_, rfl⟩, h3.drop.drop⟩
end
end Go.Proofs.YtcjindifdghpgaaGreatDoor

namespace Go.Proofs.YtcjindifdghpgaaGreatDoor
set_option linter.all false
open Go.RowKit
section
variable {B w : World} {L : List HP}
/-- What a layer keeps: the box that holds the text's address, and the text. -/
abbrev lay2 (bx bb : Nat) (t : ByteArray) (L : List HP) : List HP := pt bx (.cells #[.pointer (some ⟨bb, 0, none⟩)] 142) :: pt bb (.cells #[.string t] 9) :: L
abbrev wayC (bx : Nat) : Array Value := #[.func (.func 101) #[] #[.pointer (some ⟨bx, 0, none⟩)], .func (.func 103) #[] #[.pointer (some ⟨bx, 0, none⟩)], .func (.func 105) #[] #[.pointer (some ⟨bx, 0, none⟩)]]
section
variable (bx bb : Nat) (t : ByteArray)
set_option maxHeartbeats 2000000 in
set_option maxRecDepth 100000 in
theorem play1 (ht : t.size ≤ 70368744177664) (av : Addr) (n : Nat) (hn : n < 18446744073709551616) (mx : Int) (hv : w.cell? av = some (.int .u64 n)) (hS : Sat B (lay2 bx bb t L) w) :
    Calls Tryz.prog 101 #[.pointer (some av), .int .u64 mx, .pointer (some ⟨bx, 0, none⟩)] w fun y w' => y = .returned (.tuple #[]) ∧ Sat B (lay2 bx bb ⟨(t.data.toList ++ vnL n).toArray⟩ L) w' := by
  have c0 : w.cell? ⟨bx, 0, none⟩ = some (.pointer (some ⟨bb, 0, none⟩)) := hS.pt_cell 0
  have c1 : w.cell? ⟨bb, 0, none⟩ = some (.string t) := hS.swap.pt_cell 0
  have hp := fun (M : List HP) (w' : World) (h' : Sat B M w') => pputn t ht n hn h'
  have h0 := hS.drew
  clear hS
  go_enter Tryz.func101, Tryz.ntmps101
  go_wp2_with fail
  go_region_with (go_at_call 102; refine (hp _ _ h0).mono ?_; rintro y w1 ⟨rfl, h1⟩; have d0 := h1.pt_cell 0; have d1 := h1.swap.pt_cell 0; have f1 := h1.swap.pt_free 0; simp only [List.getElem?_toArray, List.getElem?_cons_zero] at d0 d1)
  all_goals go_wp2_with fail
  all_goals exact bodyPost_end (results_none rfl _ _ _) rfl ⟨rfl, (h1.swap.set (j := 0) _).swap⟩
set_option maxHeartbeats 2000000 in
set_option maxRecDepth 100000 in
theorem play2 (ht : t.size ≤ 70368744177664) (av : Addr) (s : ByteArray) (hs : s.size ≤ 140737488355328) (mx : Int) (hv : w.cell? av = some (.string s)) (hS : Sat B (lay2 bx bb t L) w) :
    Calls Tryz.prog 103 #[.pointer (some av), .int .i64 mx, .pointer (some ⟨bx, 0, none⟩)] w fun y w' => y = .returned (.tuple #[]) ∧ Sat B (lay2 bx bb ⟨(t.data.toList ++ (vnL s.size ++ s.data.toList)).toArray⟩ L) w' := by
  have c0 : w.cell? ⟨bx, 0, none⟩ = some (.pointer (some ⟨bb, 0, none⟩)) := hS.pt_cell 0
  have c1 : w.cell? ⟨bb, 0, none⟩ = some (.string t) := hS.swap.pt_cell 0
  have hp := fun (M : List HP) (w' : World) (h' : Sat B M w') => pputt t ht s hs h'
  have h0 := hS.drew
  clear hS
  go_enter Tryz.func103, Tryz.ntmps103
  go_wp2_with fail
  go_region_with (go_at_call 104; refine (hp _ _ h0).mono ?_; rintro y w1 ⟨rfl, h1⟩; have d0 := h1.pt_cell 0; have d1 := h1.swap.pt_cell 0; have f1 := h1.swap.pt_free 0; simp only [List.getElem?_toArray, List.getElem?_cons_zero] at d0 d1)
  all_goals go_wp2_with fail
  all_goals exact bodyPost_end (results_none rfl _ _ _) rfl ⟨rfl, (h1.swap.set (j := 0) _).swap⟩
set_option maxHeartbeats 2000000 in
set_option maxRecDepth 100000 in
theorem play3 (ht : t.size ≤ 70368744177664) (av : Addr) (x : Bool) (hv : w.cell? av = some (.bool x)) (hS : Sat B (lay2 bx bb t L) w) :
    Calls Tryz.prog 105 #[.pointer (some av), .pointer (some ⟨bx, 0, none⟩)] w fun y w' => y = .returned (.tuple #[]) ∧ Sat B (lay2 bx bb ⟨(t.data.toList ++ [if x = true then 1 else 0]).toArray⟩ L) w' := by
  have c0 : w.cell? ⟨bx, 0, none⟩ = some (.pointer (some ⟨bb, 0, none⟩)) := hS.pt_cell 0
  have c1 : w.cell? ⟨bb, 0, none⟩ = some (.string t) := hS.swap.pt_cell 0
  have h0 := hS.drew
  clear hS
  cases x
  · have hp := fun (M : List HP) (w' : World) (h' : Sat B M w') => pputb t ht 0 h'
    rw [if_neg (by decide)]
    go_enter Tryz.func105, Tryz.ntmps105
    go_wp2_with fail
    go_region_with (go_at_call 106; refine (hp _ _ h0).mono ?_; rintro y w1 ⟨rfl, h1⟩; have d0 := h1.pt_cell 0; have d1 := h1.swap.pt_cell 0; have f1 := h1.swap.pt_free 0; simp only [List.getElem?_toArray, List.getElem?_cons_zero] at d0 d1)
    all_goals go_wp2_with fail
    all_goals exact bodyPost_end (results_none rfl _ _ _) rfl ⟨rfl, (h1.swap.set (j := 0) _).swap⟩
  · have hp := fun (M : List HP) (w' : World) (h' : Sat B M w') => pputb t ht 1 h'
    rw [if_pos rfl]
    go_enter Tryz.func105, Tryz.ntmps105
    go_wp2_with fail
    go_region_with (go_at_call 106; refine (hp _ _ h0).mono ?_; rintro y w1 ⟨rfl, h1⟩; have d0 := h1.pt_cell 0; have d1 := h1.swap.pt_cell 0; have f1 := h1.swap.pt_free 0; simp only [List.getElem?_toArray, List.getElem?_cons_zero] at d0 d1)
    all_goals go_wp2_with fail
    all_goals exact bodyPost_end (results_none rfl _ _ _) rfl ⟨rfl, (h1.swap.set (j := 0) _).swap⟩
end
end
end Go.Proofs.YtcjindifdghpgaaGreatDoor

namespace Go.Proofs.YtcjindifdghpgaaGreatDoor
set_option linter.all false
open Go.RowKit
section
variable {B w : World} {L : List HP}
set_option maxHeartbeats 1000000 in
set_option maxRecDepth 100000 in
theorem play (bb : Nat) (t : ByteArray) (hS : Sat B (pt bb (.cells #[.string t] 9) :: L) w) :
    Calls Tryz.prog 73 #[.pointer (some ⟨bb, 0, none⟩)] w fun y w' => ∃ bx, y = .returned (.agg (wayC bx)) ∧ Sat B (lay2 bx bb t L) w' := by
  have h1 := (hS.alloc' (.cells #[.pointer (some ⟨bb, 0, none⟩)] 142) (n := w.heap.size) rfl).alloc' (.cells #[.nilFunc, .nilFunc, .nilFunc] 140) (n := w.heap.size + 1) (by simp)
  go_enter Tryz.func73, Tryz.ntmps73
  go_wp2_with ((with_reducible change wpList _ _ _ ({ dst := _, op := Op.store _ (.tmp 2) _, type := _, pos := _, after := _, guard := _ } :: _) _ _); (refine wpList_store_all (vs := wayC w.heap.size) rfl (.tmp 2) _ rfl rfl rfl (by kernel_rfl) h1 rfl (by simp [Value.oneCell']) ?_); intro w8 h8; have p6 := h8.pt_cell; have z0 := p6 0; have z1 := p6 1; have z2 := p6 2; simp only [List.getElem?_toArray, List.getElem?_cons_zero, List.getElem?_cons_succ] at z0 z1 z2; clear p6; go_frame)
  exact bodyPost_ret (v := .agg (wayC w.heap.size)) (by simp [results, Tryz.results73, go_sem, z0, z1, z2]) rfl ⟨_, rfl, h8.drop⟩
set_option maxHeartbeats 1000000 in
set_option maxRecDepth 100000 in
theorem pcount (bx bb rb : Nat) (t : ByteArray) (ht : t.size ≤ 70368744177664) (en : Nat) (hen : en ≤ 15) (found : Bool) (r v : ByteArray) (ver : Nat) (hS : Sat B (lay2 bx bb t (pt rb (.cells (resC en found r v ver) 51) :: L)) w) :
    Calls Tryz.prog 100 #[.agg (wayC bx), .pointer (some ⟨rb, 0, none⟩)] w fun y w' => y = .returned (.tuple #[]) ∧ Sat B (lay2 bx bb ⟨(t.data.toList ++ vnL en).toArray⟩ (pt rb (.cells (resC en found r v ver) 51) :: L)) w' := by
  have i0 : (w.alloc (.cells (wayC bx) 140)).cell? ⟨rb, 0, none⟩ = some (.int .i64 en) := (hS.alloc' (.cells (wayC bx) 140) (n := w.heap.size) rfl).p3.pt_cell 0
  have h1 := ((hS.alloc' (.cells (wayC bx) 140) (n := w.heap.size) rfl).alloc' (.cells #[.int .u64 en] 49) (n := w.heap.size + 1) (by simp)).q3.q3
  have av : ((w.alloc (.cells (wayC bx) 140)).alloc (.cells #[.int .u64 en] 49)).cell? ⟨w.heap.size + 1, 0, none⟩ = some (.int .u64 en) := h1.p2.pt_cell 0
  have hp := play1 bx bb t ht ⟨w.heap.size + 1, 0, none⟩ en (by omega) 1073741824 av h1
  go_enter Tryz.func100, Tryz.ntmps100
  go_wp2_with (go_at_call 101; refine hp.mono ?_; rintro y w3 ⟨rfl, h3⟩; have c4 := h3.p2.pt_cell 0; have d0 := h3.p4.pt_cell 0; have f0 := h3.p4.pt_free 0; have c5 := h3.p3.pt_cell 0; simp only [List.getElem?_toArray, List.getElem?_cons_zero] at c4 d0 c5)
  have h5 : Sat B (pt rb (.cells (resC en found r v ver) 51) :: _) _ := h3.p4.set (j := 0) (.int .i64 en)
  exact bodyPost_end (results_none rfl _ _ _) rfl ⟨rfl, h5.p3.drop.p3.drop.q2⟩
set_option maxHeartbeats 2000000 in
set_option maxRecDepth 100000 in
theorem poutcome (bx bb rb : Nat) (er : Int) (found : Bool) (r v : ByteArray) (ver : Nat) (hm : mayRes er r v ver = true) (hS : Sat B (lay2 bx bb ⟨#[]⟩ (pt rb (.cells (resC er found r v ver) 51) :: L)) w) :
    Calls Tryz.prog 72 #[.agg (wayC bx), .pointer (some ⟨rb, 0, none⟩)] w fun y w' => y = .returned (.tuple #[]) ∧ ∃ t, Sat B (lay2 bx bb t (pt rb (.cells (resC er found r v ver) 51) :: L)) w' := by
  simp only [mayRes, Bool.and_eq_true, decide_eq_true_eq] at hm
  obtain ⟨⟨⟨⟨h1, h2⟩, h3⟩, h4⟩, h5⟩ := hm
  obtain ⟨en, hen⟩ : ∃ n : Nat, er = n := ⟨er.toNat, by omega⟩
  subst hen
  have k1 := vn_len10 en (by omega)
  have k2 := vn_len10 r.size (by omega)
  have k3 := vn_len10 v.size (by omega)
  obtain ⟨t1, ht1⟩ : ∃ t : ByteArray, (⟨((⟨#[]⟩ : ByteArray).data.toList ++ vnL en).toArray⟩ : ByteArray) = t := ⟨_, rfl⟩
  have z1 : t1.size ≤ 10 := by rw [← ht1]; show ([] ++ vnL en).length ≤ _; simpa using k1
  obtain ⟨t2, ht2⟩ : ∃ t : ByteArray, (⟨(t1.data.toList ++ [if found = true then 1 else 0]).toArray⟩ : ByteArray) = t := ⟨_, rfl⟩
  have z2 : t2.size ≤ 11 := by rw [← ht2]; show (_ ++ _ : Bs).length ≤ _; rw [List.length_append, slenB]; simp; omega
  obtain ⟨t3, ht3⟩ : ∃ t : ByteArray, (⟨(t2.data.toList ++ (vnL r.size ++ r.data.toList)).toArray⟩ : ByteArray) = t := ⟨_, rfl⟩
  have z3 : t3.size ≤ 1000 := by rw [← ht3]; show (_ ++ _ : Bs).length ≤ _; rw [List.length_append, List.length_append, slenB, slenB]; omega
  obtain ⟨t4, ht4⟩ : ∃ t : ByteArray, (⟨(t3.data.toList ++ (vnL v.size ++ v.data.toList)).toArray⟩ : ByteArray) = t := ⟨_, rfl⟩
  have z4 : t4.size ≤ 100000 := by rw [← ht4]; show (_ ++ _ : Bs).length ≤ _; rw [List.length_append, List.length_append, slenB, slenB]; omega
  have hA : Sat B (lay2 bx bb ⟨#[]⟩ (pt rb (.cells (resC en found r v ver) 51) :: pt w.heap.size (.cells (wayC bx) 140) :: L)) (w.alloc (.cells (wayC bx) 140)) := (hS.alloc' (.cells (wayC bx) 140) (n := w.heap.size) rfl).q3
  have p1 := fun (M : List HP) (w' : World) h' => pcount (B := B) (L := M) (w := w') bx bb rb ⟨#[]⟩ (by show 0 ≤ _; omega) en (by omega) found r v ver h'
  rw [ht1] at p1
  have p2 := fun (M : List HP) (w' : World) av hv h' => play3 (B := B) (L := M) (w := w') bx bb t1 (by omega) av found hv h'
  have p3 := fun (M : List HP) (w' : World) av hv h' => play2 (B := B) (L := M) (w := w') bx bb t2 (by omega) av r (by omega) 65536 hv h'
  have p4 := fun (M : List HP) (w' : World) av hv h' => play2 (B := B) (L := M) (w := w') bx bb t3 (by omega) av v (by omega) 65536 hv h'
  have p5 := fun (M : List HP) (w' : World) av hv h' => play1 (B := B) (L := M) (w := w') bx bb t4 (by omega) av ver (by omega) 1099511627776 hv h'
  rw [ht2] at p2
  rw [ht3] at p3
  rw [ht4] at p4
  have x0 := hA.p3.pt_cell 0; have x1 := hA.p3.pt_cell 1; have x2 := hA.p3.pt_cell 2; have y0 := hA.p2.pt_cell 0; have y1 := hA.p2.pt_cell 1; have y2 := hA.p2.pt_cell 2; have y3 := hA.p2.pt_cell 3; have y4 := hA.p2.pt_cell 4; simp only [List.getElem?_toArray, List.getElem?_cons_zero, List.getElem?_cons_succ] at x0 x1 x2 y0 y1 y2 y3 y4
  clear ht1 ht2 ht3 ht4 k1 k2 k3 hS
  go_enter Tryz.func72, Tryz.ntmps72
  go_wp2_with fail
  go_region_with (go_at_call 100; refine (p1 _ _ hA.drew).mono ?_; rintro y w1 ⟨rfl, q1⟩)
  clear x0 x1 x2 y0 y1 y2 y3 y4
  have x0 := q1.p3.pt_cell 0; have x1 := q1.p3.pt_cell 1; have x2 := q1.p3.pt_cell 2; have y0 := q1.p2.pt_cell 0; have y1 := q1.p2.pt_cell 1; have y2 := q1.p2.pt_cell 2; have y3 := q1.p2.pt_cell 3; have y4 := q1.p2.pt_cell 4; simp only [List.getElem?_toArray, List.getElem?_cons_zero, List.getElem?_cons_succ] at x0 x1 x2 y0 y1 y2 y3 y4
  go_wp2_with fail
  go_region_with (go_at_call 105; refine (p2 _ w1.drew ⟨rb, 1, none⟩ y1 q1.drew).mono ?_; rintro y w2 ⟨rfl, q2⟩)
  clear x0 x1 x2 y0 y1 y2 y3 y4
  have x0 := q2.p3.pt_cell 0; have x1 := q2.p3.pt_cell 1; have x2 := q2.p3.pt_cell 2; have y0 := q2.p2.pt_cell 0; have y1 := q2.p2.pt_cell 1; have y2 := q2.p2.pt_cell 2; have y3 := q2.p2.pt_cell 3; have y4 := q2.p2.pt_cell 4; simp only [List.getElem?_toArray, List.getElem?_cons_zero, List.getElem?_cons_succ] at x0 x1 x2 y0 y1 y2 y3 y4
  go_wp2_with fail
  go_region_with (go_at_call 103; refine (p3 _ w2.drew ⟨rb, 2, none⟩ y2 q2.drew).mono ?_; rintro y w3 ⟨rfl, q3⟩)
  clear x0 x1 x2 y0 y1 y2 y3 y4
  have x0 := q3.p3.pt_cell 0; have x1 := q3.p3.pt_cell 1; have x2 := q3.p3.pt_cell 2; have y0 := q3.p2.pt_cell 0; have y1 := q3.p2.pt_cell 1; have y2 := q3.p2.pt_cell 2; have y3 := q3.p2.pt_cell 3; have y4 := q3.p2.pt_cell 4; simp only [List.getElem?_toArray, List.getElem?_cons_zero, List.getElem?_cons_succ] at x0 x1 x2 y0 y1 y2 y3 y4
  go_wp2_with fail
  go_region_with (go_at_call 103; refine (p4 _ w3.drew ⟨rb, 3, none⟩ y3 q3.drew).mono ?_; rintro y w4 ⟨rfl, q4⟩)
  clear x0 x1 x2 y0 y1 y2 y3 y4
  have x0 := q4.p3.pt_cell 0; have x1 := q4.p3.pt_cell 1; have x2 := q4.p3.pt_cell 2; have y0 := q4.p2.pt_cell 0; have y1 := q4.p2.pt_cell 1; have y2 := q4.p2.pt_cell 2; have y3 := q4.p2.pt_cell 3; have y4 := q4.p2.pt_cell 4; simp only [List.getElem?_toArray, List.getElem?_cons_zero, List.getElem?_cons_succ] at x0 x1 x2 y0 y1 y2 y3 y4
  go_wp2_with fail
  go_region_with (go_at_call 101; refine (p5 _ w4.drew ⟨rb, 4, none⟩ y4 q4.drew).mono ?_; rintro y w5 ⟨rfl, q5⟩)
  go_wp2_with fail
  exact bodyPost_end (results_none rfl _ _ _) rfl ⟨rfl, _, q5.p3.drop⟩
set_option maxHeartbeats 1000000 in
set_option maxRecDepth 100000 in
theorem penc (er : Int) (found : Bool) (r v : ByteArray) (ver : Nat) (hS : Sat B L w) :
    Calls Tryz.prog 46 #[.agg (resC er found r v ver)] w fun y w' => (∃ t, y = .returned (.tuple #[.string t, .int .i64 (if mayRes er r v ver = true then 0 else 2)])) ∧ Sat B L w' := by
  have hA := hS.alloc' (.cells (resC er found r v ver) 51) (n := w.heap.size) rfl
  have hr := pres er found r v ver hA
  cases hm : mayRes er r v ver
  · rw [hm] at hr
    clear hm hS
    go_enter Tryz.func46, Tryz.ntmps46
    go_wp2_with (go_at_call 71; refine hr.mono ?_; rintro y w1 ⟨rfl, h1⟩)
    go_ret2
    exact ⟨⟨_, rfl⟩, h1.drop⟩
  · rw [hm] at hr
    have hp := fun (bx bb rb : Nat) (M : List HP) (w' : World) h' => poutcome (B := B) (L := M) (w := w') bx bb rb er found r v ver hm h'
    clear hm hS
    go_enter Tryz.func46, Tryz.ntmps46
    go_wp2_with (first
      | (go_at_call 71; refine hr.mono ?_; rintro y w1 ⟨rfl, h1⟩; have h2 := h1.alloc' (.cells #[.string ⟨#[]⟩] 9) (n := w1.heap.size) rfl)
      | (go_at_call 73; refine (play _ _ h2).mono ?_; rintro y w2 ⟨bx, rfl, h3⟩)
      | (go_at_call 72; refine (hp _ _ _ _ _ h3).mono ?_; rintro y w3 ⟨rfl, t, h4⟩; have c3 := h4.swap.pt_cell 0; simp only [List.getElem?_toArray, List.getElem?_cons_zero] at c3))
    go_ret2
    exact ⟨⟨_, rfl⟩, h4.drop.drop.drop⟩
end
end Go.Proofs.YtcjindifdghpgaaGreatDoor
