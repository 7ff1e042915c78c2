/-
  wal: where a log lies; none, name, number: contracts. wal: number, (file).next, First, Next: contracts. wal: Next, Get: contracts.
-/
import Derived.Test.YtdngjkjoahgelaaGreatDoorDk7
import Derived.Test.YtdngjkjoahgelaaGreatDoorSea
import Derived.Test.YtdngjkjoahgelaaGreatDoorWlF
import Derived.Test.YtdngjkjoahgelaaGreatDoorWlO
import Derived.Deep.RegionHeld3
import Derived.Test.YtdngjkjoahgelaaGreatDoorSrt
import Derived.Deep.QuietTactic
import Derived.BigQuiet
import Derived.Test.YtdngjkjoahgelaaGreatDoorWlL
namespace Go.Proofs.YtdngjkjoahgelaaGreatDoor
set_option linter.all false
set_option maxRecDepth 100000
set_option maxHeartbeats 400000
open Go.RowKit
/-- A file's cells in a log: its number, its size, its records' slice. -/
def wfC (x : WF × Value) : List Value := [.int .u64 (x.1.first : Int), .int .i64 (x.1.size : Int), x.2]
def recP (x : WF × Value) : HP := row 9 1 x.2 x.1.recs.length (strB x.1.recs)
abbrev wlC (p : Nat) (pre : Bt) (most : Nat) (fv : Value) : Obj := .cells #[.pointer (some ⟨p, 0, none⟩), .string (bA pre), .int .i64 (most : Int), fv] 77
def walL (q p : Nat) (pre : Bt) (most : Nat) (fv : Value) (G : List (WF × Value)) : List HP := [pt q (wlC p pre most fv), row 87 3 fv G.length (G.flatMap wfC), stars (G.map recP)]
/-- What is asked of a log's files. -/
structure WOk (pre : Bt) (F : List WF) : Prop where
  pre : pre.length ≤ 48
  first : ∀ f ∈ F, 1 ≤ f.first ∧ f.first ≤ 1000000000000000
  recs : ∀ f ∈ F, f.size ≤ 1099511627776
  many : F.length ≤ 1000000
def wal (q p : Nat) (pre : Bt) (most : Nat) (F : List WF) : HP := ex fun y : Value × List (WF × Value) => stars (fact (y.2.map (·.1) = F ∧ WOk pre F) :: walL q p pre most y.1 y.2)
section
variable {B w w' : World} {L M : List HP} {q p most : Nat} {pre : Bt} {F : List WF}
theorem wal_open (h : Sat B (wal q p pre most F :: L) w) : ∃ (fv : Value) (G : List (WF × Value)), G.map (·.1) = F ∧ WOk pre F ∧ Sat B (pt q (wlC p pre most fv) :: row 87 3 fv G.length (G.flatMap wfC) :: stars (G.map recP) :: L) w := by
  obtain ⟨⟨fv, G⟩, h1⟩ := h.ex_out
  obtain ⟨⟨hG, hok⟩, h2⟩ := (show Sat B (fact _ :: (walL q p pre most fv G ++ L)) w from h1.flat).fact_out
  exact ⟨fv, G, hG, hok, h2⟩
theorem wal_close {fv : Value} {G : List (WF × Value)} (hG : G.map (·.1) = F) (hok : WOk pre F) (h : Sat B (pt q (wlC p pre most fv) :: row 87 3 fv G.length (G.flatMap wfC) :: stars (G.map recP) :: L) w) : Sat B (wal q p pre most F :: L) w := by
  refine Sat.ex_in (fv, G) ?_
  have h1 : Sat B (fact (G.map (·.1) = F ∧ WOk pre F) :: (walL q p pre most fv G ++ L)) w := Sat.fact_in ⟨hG, hok⟩ h
  exact Sat.fold (L := fact (G.map (·.1) = F ∧ WOk pre F) :: walL q p pre most fv G) h1
theorem wal_ok (h : Sat B (wal q p pre most F :: L) w) : WOk pre F := by obtain ⟨_, _, _, hok, _⟩ := wal_open h; exact hok
/-- 'none'. -/
theorem pwNone (hc : w.cell? ⟨q, 0, none⟩ = some (.pointer (some ⟨p, 0, none⟩))) : Calls Tryz.prog 39 #[.pointer (some ⟨q, 0, none⟩)] w fun y w' => y = .returned (.bool false) ∧ w' = w := by
  go_enter Tryz.func39, Tryz.ntmps39
  go_wp2
  go_ret
  exact ⟨rfl, rfl⟩
/-- 'name'. -/
theorem pwName (hE : Env B) (n : Nat) (hn : n ≤ 1000000000000000) (h : Sat B L w) (hc : ∀ w', Sat B L w' → w'.cell? ⟨q, 1, none⟩ = some (.string (bA pre))) (hp : pre.length ≤ 48) :
    Calls Tryz.prog 37 #[.pointer (some ⟨q, 0, none⟩), .int .u64 (n : Int)] w fun y w' => y = .returned (.string (bA (nameW pre n))) ∧ Sat B L w' := by
  have hf := pfmt hE h n (by omega)
  obtain ⟨ds, hds⟩ : ∃ ds, Lib.decDigits n = ds := ⟨_, rfl⟩
  rw [hds] at hf
  have hdl : ds.length ≤ 16 := by
    have := pad16_len (n := n) (by omega)
    rw [pad16, hds] at this; simp at this; omega
  have hnm : nameW pre n = pre ++ (List.replicate (16 - ds.length) 48 ++ ds) := by rw [nameW, pad16, hds]
  have Hnm := Lib.hid hnm
  have hz : (bA ds).size = ds.length := by simp [ByteArray.size]
  have hzp : (bA pre).size = pre.length := by simp [ByteArray.size]
  have Hc := Lib.hid hc
  clear hnm hds hc
  go_enter Tryz.func37, Tryz.ntmps37
  go_wp2_with fail
  refine hf.mono ?_
  rintro y w1 ⟨rfl, h1⟩
  have c1 := Hc.out _ h1
  have b1 : (ds.length : Int) ≤ 16 := by omega
  have e1 : (16 : Int) - (ds.length : Int) = ((16 - ds.length : Nat) : Int) := by omega
  obtain ⟨z, hz1⟩ : ∃ z, 16 - ds.length = z := ⟨_, rfl⟩
  rw [hz1] at e1
  have hzz : (bA' (List.replicate z 48)).size = z := by simp [ByteArray.size]
  have sz1 : ¬ 9223372036854775807 < pre.length + z := by omega
  have sz2 : ¬ 9223372036854775807 < pre.length + z + ds.length := by omega
  have z16 : z ≤ 16 := by omega
  have z17 : (z : Int) ≤ 16 := by omega
  have Hz1 := Lib.hid hz1
  have hS : ∀ w', Sat B L w' → w'.cell? ⟨q, 1, none⟩ = some (.string (bA pre)) ∧ Sat B L w' := fun w' h' => ⟨Hc.out _ h', h'⟩
  have hmx : max 0 (IntKind.i64.wrap (z : Int)) = (z : Int) := by rw [wraps_i64' _ (by omega) (by omega)]; omega
  clear hz1
  go_wp2_with fail
  go_region_held3 (fun w' => w'.cell? ⟨q, 1, none⟩ = some (.string (bA pre)) ∧ Sat B L w') (first | exact hS _ h1.drew | exact hS _ ‹_›)
    (first | (go_at_call 74; refine (prepeat z z16 (‹_ ∧ Sat B L _›).2).mono ?_; rintro y w2 ⟨rfl, h2⟩))
  all_goals
    go_wp2_with fail
    go_ret
    refine ⟨?_, by assumption⟩
    rw [Hnm.out, ba_add, ba_add, Hz1.out, List.append_assoc]
    rfl
end
end Go.Proofs.YtdngjkjoahgelaaGreatDoor

namespace Go.Proofs.YtdngjkjoahgelaaGreatDoor
set_option linter.all false
set_option maxRecDepth 100000
set_option maxHeartbeats 600000
open Go.RowKit
section
variable {B w w' : World} {L M : List HP} {q p most : Nat} {pre : Bt} {F : List WF}
/-- 'number'. -/
theorem pwNumber (d : Bt) (hd : d.length ≤ 9223372036854775807) (h : Sat B L w) : Calls Tryz.prog 35 #[.string (bA d)] w fun y w' => y = .returned (.int .u64 (numberB d : Int)) ∧ Sat B L w' := by
  have hz : (bA d).size = d.length := by simp [ByteArray.size]
  by_cases h16 : d.length = 16
  · have b0 : ((d.length : Int) != 16) = false := by simp [h16]
    have b1 : ((d.length : Int) == 16) = true := by simp [h16]
    have ht := ptrim d hd h
    cases hall : d.all isDig with
    | true =>
      have e0 := (trim_nil d).2 hall
      rw [e0] at ht
      by_cases hle : decV d ≤ 1000000000000000
      · have hv : numberB d = decV d := by rw [numberB, if_pos ⟨h16, hall, hle⟩]
        have Hv := Lib.hid hv
        have b2 : ¬ (decV d : Int) > 1000000000000000 := by omega
        have b3 : (decV d : Int) ≤ 1000000000000000 := by omega
        have H16 := Lib.hid h16
        have Hall := Lib.hid hall
        clear hv h16 hall e0 hle
        go_enter Tryz.func35, Tryz.ntmps35
        go_wp2_with fail
        refine ht.mono ?_
        rintro y w1 ⟨rfl, h1⟩
        go_wp2_with fail
        refine (pparse16 d H16.out Hall.out h1).mono ?_
        rintro y w2 ⟨rfl, h2⟩
        go_wp2_with fail
        go_ret
        rw [Hv.out]
        exact ⟨rfl, h2⟩
      · have hv : numberB d = 0 := by rw [numberB, if_neg fun h => hle h.2.2]
        have Hv := Lib.hid hv
        have b2 : (decV d : Int) > 1000000000000000 := by omega
        have H16 := Lib.hid h16
        have Hall := Lib.hid hall
        clear hv h16 hall e0 hle
        go_enter Tryz.func35, Tryz.ntmps35
        go_wp2_with fail
        refine ht.mono ?_
        rintro y w1 ⟨rfl, h1⟩
        go_wp2_with fail
        refine (pparse16 d H16.out Hall.out h1).mono ?_
        rintro y w2 ⟨rfl, h2⟩
        go_wp2_with fail
        go_ret
        rw [Hv.out]
        exact ⟨rfl, h2⟩
    | false =>
      have hv : numberB d = 0 := by rw [numberB, if_neg fun h => by rw [hall] at h; exact absurd h.2.1 (by simp)]
      have hne : Lib.trimS d digitsB.data.toList ≠ [] := fun e => by have := (trim_nil d).1 e; rw [hall] at this; cases this
      obtain ⟨t, ht0⟩ : ∃ t, Lib.trimS d digitsB.data.toList = t := ⟨_, rfl⟩
      rw [ht0] at ht hne
      have hte : t.isEmpty = false := by cases t with | nil => exact absurd rfl hne | cons _ _ => rfl
      have Hv := Lib.hid hv
      clear hv hall h16 ht0
      go_enter Tryz.func35, Tryz.ntmps35
      go_wp2_with fail
      refine ht.mono ?_
      rintro y w1 ⟨rfl, h1⟩
      go_wp2_with fail
      go_ret
      rw [Hv.out]
      exact ⟨rfl, h1⟩
  · have hv : numberB d = 0 := by rw [numberB, if_neg fun h => h16 h.1]
    have Hv := Lib.hid hv
    have b0 : ((d.length : Int) != 16) = true := by simp; omega
    have b1 : ((d.length : Int) == 16) = false := by simp; omega
    clear hv h16
    go_enter Tryz.func35, Tryz.ntmps35
    go_wp2_with fail
    go_ret
    rw [Hv.out]
    exact ⟨rfl, h⟩
theorem wf_get : ∀ {G : List (WF × Value)} {i : Nat} {x : WF × Value}, G[i]? = some x → (G.flatMap wfC)[i * 3]? = some (.int .u64 (x.1.first : Int)) ∧ (G.flatMap wfC)[i * 3 + 1]? = some (.int .i64 (x.1.size : Int)) ∧ (G.flatMap wfC)[i * 3 + 2]? = some x.2
  | [], _, _, h => by simp at h
  | y :: G, 0, x, h => by
    simp at h; subst h
    simp [wfC]
  | y :: G, i + 1, x, h => by
    have ih := wf_get (G := G) (i := i) (x := x) (by simpa using h)
    have e : ((y :: G).flatMap wfC) = wfC y ++ G.flatMap wfC := rfl
    have el : (wfC y).length = 3 := rfl
    rw [e, List.getElem?_append_right (by omega), List.getElem?_append_right (by omega), List.getElem?_append_right (by omega), el,
      show (i + 1) * 3 - 3 = i * 3 by omega, show (i + 1) * 3 + 1 - 3 = i * 3 + 1 by omega, show (i + 1) * 3 + 2 - 3 = i * 3 + 2 by omega]
    exact ih
theorem wf_len (G : List (WF × Value)) : (G.flatMap wfC).length = G.length * 3 := by
  induction G with
  | nil => rfl
  | cons y G ih => rw [List.flatMap_cons, List.length_append, ih, List.length_cons]; show 3 + _ = _; omega
/-- What lies at a file of the row. -/
theorem file_at {g off n c : Nat} {G : List (WF × Value)} {i : Nat} {x : WF × Value} (h : Sat B (row 87 3 (.slice (some ⟨g, off, none⟩) n c) n (G.flatMap wfC) :: L) w) (hx : G[i]? = some x) :
    w.cell? ⟨g, off + i * 3, none⟩ = some (.int .u64 (x.1.first : Int)) ∧ w.cell? ⟨g, off + i * 3 + 1, none⟩ = some (.int .i64 (x.1.size : Int)) ∧ w.cell? ⟨g, off + i * 3 + 2, none⟩ = some x.2 ∧ i < n := by
  have hl := h.row_len
  rw [wf_len] at hl
  have hi : i < G.length := (List.getElem?_eq_some_iff.1 hx).1
  obtain ⟨h1, h2, h3⟩ := wf_get hx
  obtain ⟨g', o', e, c1, _⟩ := h.row_cell (i * 3) (by omega)
  cases e
  obtain ⟨g', o', e, c2, _⟩ := h.row_cell (i * 3 + 1) (by omega)
  cases e
  obtain ⟨g', o', e, c3, _⟩ := h.row_cell (i * 3 + 2) (by omega)
  cases e
  rw [h1] at c1
  rw [h2] at c2
  rw [h3] at c3
  exact ⟨c1, by rw [Nat.add_assoc]; exact c2, by rw [Nat.add_assoc]; exact c3, by omega⟩
/-- '(file).next'. -/
theorem pwNextF {g o n c f : Nat} {a : Option Addr} (c0 : w.cell? ⟨g, o, none⟩ = some (.int .u64 (f : Int))) (c2 : w.cell? ⟨g, o + 2, none⟩ = some (.slice a n c)) (hf : f ≤ 1000000000000000) (hn : n ≤ 1099511627776) :
    Calls Tryz.prog 42 #[.pointer (some ⟨g, o, none⟩)] w fun y w' => y = .returned (.int .u64 ((f + n : Nat) : Int)) ∧ Dr w w' := by
  have b1 : (f : Int) ≤ 1000000000000000 := by omega
  have b2 : (n : Int) ≤ 1099511627776 := by omega
  have e1 : IntKind.u64.wrap (n : Int) = (n : Int) := by rw [IntKind.wrap_u64]; omega
  have e2 : IntKind.u64.wrap ((f : Int) + (n : Int)) = (f : Int) + (n : Int) := by rw [IntKind.wrap_u64]; omega
  have He : Hid (((f + n : Nat) : Int) = (f : Int) + (n : Int)) := Lib.hid (by omega)
  clear hf hn
  go_enter Tryz.func42, Tryz.ntmps42
  go_wp2_with fail
  go_quiet (fail)
  go_wp2_with fail
  go_ret
  exact ⟨by rw [He.out]; rfl, _, rfl⟩
/-- 'First'. -/
theorem pwFirst (h : Sat B (wal q p pre most F :: L) w) :
    Calls Tryz.prog 13 #[.pointer (some ⟨q, 0, none⟩)] w fun y w' => y = .returned (.int .u64 (firstW F : Int)) ∧ w' = w := by
  obtain ⟨fv, G, hG, hok, h1⟩ := wal_open h
  have c0 : w.cell? ⟨q, 0, none⟩ = some (.pointer (some ⟨p, 0, none⟩)) := h1.pt_cell 0
  have c3 : w.cell? ⟨q, 3, none⟩ = some fv := h1.pt_cell 3
  have hno := pwNone (q := q) c0
  have h2 := h1.swap
  obtain ⟨a, c, rfl, ha, _, hc⟩ := h2.row_reads
  have hc : c ≤ 9223372036854775807 := by have := hc.1; unfold maxLen at this; omega
  cases hGe : G with
  | nil =>
    subst hGe
    subst hG
    clear h h1 h2 hok
    go_enter Tryz.func13, Tryz.ntmps13
    go_wp2_with (go_at_call 39; refine hno.mono ?_; rintro y w1 ⟨rfl, rfl⟩)
    go_ret
    exact ⟨rfl, rfl⟩
  | cons x G' =>
    have hx : G[0]? = some x := by rw [hGe]; rfl
    obtain ⟨g, off, rfl⟩ : ∃ g off, a = some ⟨g, off, none⟩ := by
      rcases h2.row_form with ⟨e, e0, _⟩ | ⟨g, off, cap, e, _⟩
      · rw [hGe] at e0; simp at e0
      · cases e; exact ⟨g, off, rfl⟩
    obtain ⟨d1, _, _, d4⟩ := file_at h2 hx
    rw [Nat.zero_mul, Nat.add_zero] at d1
    obtain ⟨n, hn⟩ : ∃ n, G.length = n := ⟨_, rfl⟩
    rw [hn] at c3 d4
    have b1 : (0 : Int) < (n : Int) := by omega
    have b2 : ((n : Int) == 0) = false := by simp; omega
    have hf : firstW F = x.1.first := by rw [← hG, hGe]; rfl
    have Hf := Lib.hid hf
    clear h h1 h2 hok hG hx hGe hf hn
    go_enter Tryz.func13, Tryz.ntmps13
    go_wp2_with (go_at_call 39; refine hno.mono ?_; rintro y w1 ⟨rfl, rfl⟩)
    go_ret
    rw [Hf.out]
    exact ⟨rfl, rfl⟩
end
end Go.Proofs.YtdngjkjoahgelaaGreatDoor

namespace Go.Proofs.YtdngjkjoahgelaaGreatDoor
set_option linter.all false
set_option maxRecDepth 100000
set_option maxHeartbeats 600000
open Go.RowKit
section
variable {B w w' : World} {L M : List HP} {q p most : Nat} {pre : Bt} {F : List WF}
theorem wal_snoc {G : List (WF × Value)} {F : List WF} {f : WF} (h : G.map (·.1) = F ++ [f]) : ∃ G' v, G = G' ++ [(f, v)] ∧ G'.map (·.1) = F := by
  rcases snoc_cases G with rfl | ⟨G', ⟨f', v⟩, rfl⟩
  · simp at h
  · rw [List.map_append] at h
    obtain ⟨h1, h2⟩ := List.append_inj' h rfl
    simp at h2
    subst h2
    exact ⟨G', v, rfl, h1⟩
theorem row_some {g : Type} {e : TypeId} {size n : Nat} {a : Option Addr} {c : Nat} {xs : List Value} (h : Sat B (row e size (.slice a n c) n xs :: L) w) (hn : 0 < n) : ∃ g off, a = some ⟨g, off, none⟩ := by
  rcases h.row_form with ⟨e1, e0, _⟩ | ⟨g, off, cap, e1, _⟩
  · omega
  · cases e1; exact ⟨g, off, rfl⟩
theorem rec_at {G : List (WF × Value)} {x : WF × Value} {i : Nat} {A0 A1 : HP} (h : Sat B (A0 :: A1 :: stars (G.map recP) :: L) w) (hx : G[i]? = some x) : ∃ a c, x.2 = .slice a x.1.recs.length c ∧ ∀ j b, x.1.recs[j]? = some b → ∃ g o, a = some ⟨g, o, none⟩ ∧ w.cell? ⟨g, o + j, none⟩ = some (.string (bA b)) := by
  obtain ⟨hi, hxe⟩ := List.getElem?_eq_some_iff.1 hx
  have hsp : G.map recP = (G.take i).map recP ++ recP x :: (G.drop (i + 1)).map recP := by
    rw [← List.map_cons, ← List.map_append]; congr 1; rw [← hxe]; simp
  have h1 := h.p2
  rw [hsp] at h1
  have h2 := h1.mid
  obtain ⟨a, c, e, _, _, _, hc⟩ := (show Sat B (row 9 1 x.2 x.1.recs.length (strB x.1.recs) :: _) w from h2).row_reads
  exact ⟨a, c, e, fun j b hb => hc j _ (strB_get hb)⟩
/-- 'Next'. -/
theorem pwNext (h : Sat B (wal q p pre most F :: L) w) :
    Calls Tryz.prog 14 #[.pointer (some ⟨q, 0, none⟩)] w fun y w' => y = .returned (.int .u64 (nextW F : Int)) ∧ Dr w w' := by
  have hfi := pwFirst h
  obtain ⟨fv, G, hG, hok, h1⟩ := wal_open h
  have c0 : w.cell? ⟨q, 0, none⟩ = some (.pointer (some ⟨p, 0, none⟩)) := h1.pt_cell 0
  have c3 : w.cell? ⟨q, 3, none⟩ = some fv := h1.pt_cell 3
  have hno := pwNone (q := q) c0
  have h2 := h1.swap
  obtain ⟨a, c, rfl, ha, _, hc⟩ := h2.row_reads
  have hc : c ≤ 9223372036854775807 := by have := hc.1; unfold maxLen at this; omega
  rcases snoc_cases F with rfl | ⟨F', f, rfl⟩
  · have hGn : G = [] := by simpa using hG
    subst hGn
    clear h h1 h2 hok
    go_enter Tryz.func14, Tryz.ntmps14
    go_wp2_with (first
      | (go_at_call 39; refine hno.mono ?_; rintro y w1 ⟨rfl, rfl⟩)
      | (go_at_call 13; refine hfi.mono ?_; rintro y w1 ⟨rfl, rfl⟩))
    go_ret
    exact ⟨rfl, 0, rfl⟩
  · obtain ⟨G', v, rfl, hG'⟩ := wal_snoc hG
    obtain ⟨m, hm⟩ : ∃ m, G'.length = m := ⟨_, rfl⟩
    have hx : (G' ++ [(f, v)])[m]? = some (f, v) := by rw [← hm]; simp
    have hlen : (G' ++ [(f, v)]).length = m + 1 := by simp [hm]
    rw [hlen] at c3 h2 ha
    obtain ⟨g, off, rfl⟩ := row_some (g := Unit) h2 (by omega)
    obtain ⟨d1, d2, d3, _⟩ := file_at h2 hx
    obtain ⟨ra, rc, hv, _⟩ := rec_at h1 hx
    simp only at hv d1 d3
    subst hv
    have hf := hok.first f (by simp)
    have hr : f.recs.length ≤ 1099511627776 := by have := hok.recs f (by simp); have := rs_le f.recs; simp only [WF.size] at *; omega
    have hmn := hok.many
    have hFl : F'.length = m := by rw [← hG', List.length_map, hm]
    have b0 : m ≤ 1000000 := by simp at hmn; omega
    have b1 : (m : Int) ≤ 1000000 := by omega
    have b2 : (m : Int) < (m : Int) + 1 := by omega
    have ew : IntKind.i64.wrap (m : Int) = (m : Int) := wraps_i64' _ (by omega) (by omega)
    have b3 : ((m : Int) + 1 == 0) = false := by simp; omega
    have hn := fun k => pwNextF (w := w.drewN k) (g := g) (o := off + m * 3) (f := f.first) d1 d3 hf.2 hr
    have Hf := Lib.hid (show nextW (F' ++ [f]) = f.first + f.recs.length from nextW_snoc F' f)
    clear h h1 h2 hok hG hG' hx hm hlen hf hr hmn hFl ha d1 d2 d3 hfi
    go_enter Tryz.func14, Tryz.ntmps14
    go_wp2_with (go_at_call 39; refine hno.mono ?_; rintro y w1 ⟨rfl, rfl⟩)
    go_quiet ((go_at_call 42; exact Calls.quiet_of (hn _)))
    go_wp2_with fail
    go_ret
    rw [Hf.out]
    exact ⟨rfl, _, rfl⟩
def getV (F : List WF) (n : Nat) : Value := match getW F n with
  | none => .tuple #[.string ⟨#[]⟩, .int .i64 5]
  | some r => .tuple #[.string (bA r), .int .i64 0]
theorem getW_in {f : WF} {F : List WF} {n : Nat} (h : f.first ≤ n ∧ n < f.next) : getW (f :: F) n = f.recs[n - f.first]? := by rw [getW, if_pos h]
theorem getW_out {f : WF} {F : List WF} {n : Nat} (h : ¬ (f.first ≤ n ∧ n < f.next)) : getW (f :: F) n = getW F n := by rw [getW, if_neg h]
/-- 'Get'. -/
theorem pwGet (n : Nat) (hn : n ≤ 18446744073709551615) (h : Sat B (wal q p pre most F :: L) w) :
    Calls Tryz.prog 15 #[.pointer (some ⟨q, 0, none⟩), .int .u64 (n : Int)] w fun y w' => y = .returned (getV F n) ∧ Dr w w' := by
  obtain ⟨fv, G, hG, hok, h1⟩ := wal_open h
  have c0 : w.cell? ⟨q, 0, none⟩ = some (.pointer (some ⟨p, 0, none⟩)) := h1.pt_cell 0
  have c3 : w.cell? ⟨q, 3, none⟩ = some fv := h1.pt_cell 3
  have hno := pwNone (q := q) c0
  have h2 := h1.swap
  obtain ⟨a, c, rfl, ha, _, hc⟩ := h2.row_reads
  have hc : c ≤ 9223372036854775807 := by have := hc.1; unfold maxLen at this; omega
  have hGl : G.length = F.length := by rw [← hG, List.length_map]
  rw [hGl] at c3 h2 ha h1
  have hN := hok.many
  obtain ⟨N, hNe⟩ : ∃ N, F.length = N := ⟨_, rfl⟩
  rw [hNe] at c3 h2 ha h1 hN hGl
  have hD0 : Dr w w := ⟨0, rfl⟩
  have HG := Lib.hid hG
  have HN := Lib.hid hNe
  have Hok := Lib.hid hok
  clear h hG hNe hok
  have n1 : (n : Int) ≤ 18446744073709551615 := by omega
  go_enter Tryz.func15, Tryz.ntmps15
  go_wp2_with (go_at_call 39; refine hno.mono ?_; rintro y w1 ⟨rfl, rfl⟩)
  go_loopg [15] (N + 1) (fun gh v15 wr => ∃ i : Nat, i ≤ N ∧ N + 1 ≤ i + gh ∧ v15 = .int .i64 (i : Int) ∧ getW F n = getW (F.drop i) n ∧ Dr w1 wr)
  case atStart => exact ⟨0, by omega, by omega, rfl, rfl, hD0⟩
  case round =>
    obtain ⟨i, hi1, hi2, rfl, hget, hd⟩ := hrel
    have Hget := Lib.hid hget
    have Hd := Lib.hid hd
    have c3' := (hd.cell ⟨q, 3, none⟩).trans c3
    clear hget hno hD0
    by_cases hlt : i < N
    · have b1 : (i : Int) < (N : Int) := by omega
      obtain ⟨x, hx⟩ : ∃ x, G[i]? = some x := ⟨_, List.getElem?_eq_getElem (by omega)⟩
      have hxF : F[i]? = some x.1 := by rw [← HG.out, List.getElem?_map, hx]; rfl
      obtain ⟨g, off, rfl⟩ := row_some (g := Unit) h2 (by omega)
      obtain ⟨d1, d2, d3, _⟩ := file_at h2 hx
      obtain ⟨ra, rc, hv, hrec⟩ := rec_at h1 hx
      obtain ⟨f, v⟩ := x
      simp only at hv d1 d2 d3 hxF hrec
      subst hv
      have hf := Hok.out.first f (List.mem_of_getElem? hxF)
      have hr : f.recs.length ≤ 1099511627776 := by have := Hok.out.recs f (List.mem_of_getElem? hxF); have := rs_le f.recs; simp only [WF.size] at *; omega
      have e1 := (hd.cell ⟨g, off + i * 3, none⟩).trans d1
      have e3 := (hd.cell ⟨g, off + i * 3 + 2, none⟩).trans d3
      have hdrop : F.drop i = f :: F.drop (i + 1) := by
        obtain ⟨hi3, hie⟩ := List.getElem?_eq_some_iff.1 hxF
        rw [← hie, List.drop_eq_getElem_cons hi3]
      have hnx := pwNextF (w := wr) (g := g) (o := off + i * 3) (f := f.first) e1 e3 hf.2 hr
      have Hdrop := Lib.hid hdrop
      clear hdrop hx hxF d2 hd
      by_cases hge : f.first ≤ n
      · by_cases hlt2 : n < f.first + f.recs.length
        · -- found
          obtain ⟨k, hk⟩ : ∃ k, n - f.first = k := ⟨_, rfl⟩
          obtain ⟨r, hrr⟩ : ∃ r, f.recs[k]? = some r := ⟨_, List.getElem?_eq_getElem (by omega)⟩
          obtain ⟨g2, o2, rfl, cr⟩ := hrec k r hrr
          have hgv : getV F n = .tuple #[.string (bA r), .int .i64 0] := by
            rw [getV, Hget.out, Hdrop.out, getW_in ⟨hge, hlt2⟩, hk, hrr]
          have Hgv := Lib.hid hgv
          have g1 : (n : Int) ≥ (f.first : Int) := by omega
          have g3 : (n : Int) < ((f.first + f.recs.length : Nat) : Int) := by omega
          have ek : IntKind.u64.wrap ((n : Int) - (f.first : Int)) = (k : Int) := by rw [IntKind.wrap_u64]; omega
          have b5 : (k : Int) < (f.recs.length : Int) := by omega
          clear hgv hk hrr hrec hge hlt2
          go_wp2_with fail
          refine hnx.mono ?_
          rintro y w2 ⟨rfl, hw2⟩
          have cr2 := (hw2.cell ⟨g2, o2 + k, none⟩).trans ((Hd.out.cell _).trans cr)
          have e1' := (hw2.cell ⟨g, off + i * 3, none⟩).trans e1
          have e3' := (hw2.cell ⟨g, off + i * 3 + 2, none⟩).trans e3
          have Hd2 := Lib.hid (Hd.out.trans hw2)
          clear hw2 cr hnx
          go_wp2_with fail
          go_quiet (fail)
          go_wp2_with fail
          go_ret2
          rw [Hgv.out]
          exact ⟨rfl, Hd2.out.trans ⟨_, rfl⟩⟩
        · have hgo : getW F n = getW (F.drop (i + 1)) n := by rw [Hget.out, Hdrop.out, getW_out fun h => hlt2 h.2]
          have Hgo := Lib.hid hgo
          have g1 : (n : Int) ≥ (f.first : Int) := by omega
          have g3 : ¬ (n : Int) < ((f.first + f.recs.length : Nat) : Int) := by omega
          clear hgo hrec hge hlt2
          go_wp2_with fail
          refine hnx.mono ?_
          rintro y w2 ⟨rfl, hw2⟩
          have Hd2 := Lib.hid (Hd.out.trans hw2)
          clear hw2 hnx
          go_wp2_with fail
          go_roundg (gk - 1)
          case measure => omega
          case rel => exact ⟨i + 1, by omega, by omega, by go_num, Hgo.out, Hd2.out⟩
      · have hgo : getW F n = getW (F.drop (i + 1)) n := by rw [Hget.out, Hdrop.out, getW_out fun h => hge h.1]
        have Hgo := Lib.hid hgo
        have g1 : ¬ (n : Int) ≥ (f.first : Int) := by omega
        clear hgo hrec hge hnx
        go_wp2_with fail
        go_roundg (gk - 1)
        case measure => omega
        case rel => exact ⟨i + 1, by omega, by omega, by go_num, Hgo.out, Hd.out⟩
    · obtain rfl : i = N := by omega
      have b1 : ¬ (i : Int) < (i : Int) := by omega
      have hgv : getV F n = .tuple #[.string ⟨#[]⟩, .int .i64 5] := by
        rw [getV, Hget.out, List.drop_of_length_le (by rw [HN.out]; omega)]; rfl
      have Hgv := Lib.hid hgv
      clear hgv
      go_wp2_with fail
      go_ret2
      rw [Hgv.out]
      exact ⟨rfl, Hd.out⟩
end
end Go.Proofs.YtdngjkjoahgelaaGreatDoor
