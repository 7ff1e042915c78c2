/-
  wal: where a log lies; none, name, number: contracts. wal: number, (file).next, First, Next: contracts. wal: Next, Get: contracts. wal: Sync: contract. wal: anew and its function: contracts. wal: Open: contract.
-/
import Derived.Test.YtdngjkjoahgelaaGreatDoorDk7
import Derived.Test.YtdngjkjoahgelaaGreatDoorSea
import Derived.Test.YtdngjkjoahgelaaGreatDoorWlF
import Derived.Test.YtdngjkjoahgelaaGreatDoorWlA
import Derived.Deep.RegionHeld3
import Derived.Test.YtdngjkjoahgelaaGreatDoorSrt
import Derived.Deep.QuietTactic
import Derived.BigQuiet
namespace Go.Proofs.YtdngjkjoahgelaaGreatDoor
set_option linter.all false
set_option maxRecDepth 100000
set_option maxHeartbeats 400000
open Go.RowKit
/-- A file's cells in a log: its number, its size, its records' slice. -/
def wfC (x : WF × Value) : List Value := [.int .u64 (x.1.first : Int), .int .i64 (x.1.size : Int), x.2]
def recP (x : WF × Value) : HP := row 9 1 x.2 x.1.recs.length (strB x.1.recs)
abbrev wlC (p : Nat) (pre : Bt) (most : Nat) (fv : Value) : Obj := .cells #[.pointer (some ⟨p, 0, none⟩), .string (bA pre), .int .i64 (most : Int), fv] 77
def walL (q p : Nat) (pre : Bt) (most : Nat) (fv : Value) (G : List (WF × Value)) : List HP := [pt q (wlC p pre most fv), row 87 3 fv G.length (G.flatMap wfC), stars (G.map recP)]
/-- What is asked of a log's files. -/
structure WOk (pre : Bt) (F : List WF) : Prop where
  pre : pre.length ≤ 48
  first : ∀ f ∈ F, 1 ≤ f.first ∧ f.first ≤ 1000000000000000
  recs : ∀ f ∈ F, f.size ≤ 1099511627776
  many : F.length ≤ 1000000
def wal (q p : Nat) (pre : Bt) (most : Nat) (F : List WF) : HP := ex fun y : Value × List (WF × Value) => stars (fact (y.2.map (·.1) = F ∧ WOk pre F) :: walL q p pre most y.1 y.2)
section
variable {B w w' : World} {L M : List HP} {q p most : Nat} {pre : Bt} {F : List WF}
theorem wal_open (h : Sat B (wal q p pre most F :: L) w) : ∃ (fv : Value) (G : List (WF × Value)), G.map (·.1) = F ∧ WOk pre F ∧ Sat B (pt q (wlC p pre most fv) :: row 87 3 fv G.length (G.flatMap wfC) :: stars (G.map recP) :: L) w := by
  obtain ⟨⟨fv, G⟩, h1⟩ := h.ex_out
  obtain ⟨⟨hG, hok⟩, h2⟩ := (show Sat B (fact _ :: (walL q p pre most fv G ++ L)) w from h1.flat).fact_out
  exact ⟨fv, G, hG, hok, h2⟩
theorem wal_close {fv : Value} {G : List (WF × Value)} (hG : G.map (·.1) = F) (hok : WOk pre F) (h : Sat B (pt q (wlC p pre most fv) :: row 87 3 fv G.length (G.flatMap wfC) :: stars (G.map recP) :: L) w) : Sat B (wal q p pre most F :: L) w := by
  refine Sat.ex_in (fv, G) ?_
  have h1 : Sat B (fact (G.map (·.1) = F ∧ WOk pre F) :: (walL q p pre most fv G ++ L)) w := Sat.fact_in ⟨hG, hok⟩ h
  exact Sat.fold (L := fact (G.map (·.1) = F ∧ WOk pre F) :: walL q p pre most fv G) h1
theorem wal_ok (h : Sat B (wal q p pre most F :: L) w) : WOk pre F := by obtain ⟨_, _, _, hok, _⟩ := wal_open h; exact hok
/-- 'none'. -/
theorem pwNone (hc : w.cell? ⟨q, 0, none⟩ = some (.pointer (some ⟨p, 0, none⟩))) : Calls Tryz.prog 39 #[.pointer (some ⟨q, 0, none⟩)] w fun y w' => y = .returned (.bool false) ∧ w' = w := by
  go_enter Tryz.func39, Tryz.ntmps39
  go_wp2
  go_ret
  exact ⟨rfl, rfl⟩
/-- 'name'. -/
theorem pwName (hE : Env B) (n : Nat) (hn : n ≤ 1000000000000000) (h : Sat B L w) (hc : ∀ w', Sat B L w' → w'.cell? ⟨q, 1, none⟩ = some (.string (bA pre))) (hp : pre.length ≤ 48) :
    Calls Tryz.prog 37 #[.pointer (some ⟨q, 0, none⟩), .int .u64 (n : Int)] w fun y w' => y = .returned (.string (bA (nameW pre n))) ∧ Sat B L w' := by
  have hf := pfmt hE h n (by omega)
  obtain ⟨ds, hds⟩ : ∃ ds, Lib.decDigits n = ds := ⟨_, rfl⟩
  rw [hds] at hf
  have hdl : ds.length ≤ 16 := by
    have := pad16_len (n := n) (by omega)
    rw [pad16, hds] at this; simp at this; omega
  have hnm : nameW pre n = pre ++ (List.replicate (16 - ds.length) 48 ++ ds) := by rw [nameW, pad16, hds]
  have Hnm := Lib.hid hnm
  have hz : (bA ds).size = ds.length := by simp [ByteArray.size]
  have hzp : (bA pre).size = pre.length := by simp [ByteArray.size]
  have Hc := Lib.hid hc
  clear hnm hds hc
  go_enter Tryz.func37, Tryz.ntmps37
  go_wp2_with fail
  refine hf.mono ?_
  rintro y w1 ⟨rfl, h1⟩
  have c1 := Hc.out _ h1
  have b1 : (ds.length : Int) ≤ 16 := by omega
  have e1 : (16 : Int) - (ds.length : Int) = ((16 - ds.length : Nat) : Int) := by omega
  obtain ⟨z, hz1⟩ : ∃ z, 16 - ds.length = z := ⟨_, rfl⟩
  rw [hz1] at e1
  have hzz : (bA' (List.replicate z 48)).size = z := by simp [ByteArray.size]
  have sz1 : ¬ 9223372036854775807 < pre.length + z := by omega
  have sz2 : ¬ 9223372036854775807 < pre.length + z + ds.length := by omega
  have z16 : z ≤ 16 := by omega
  have z17 : (z : Int) ≤ 16 := by omega
  have Hz1 := Lib.hid hz1
  have hS : ∀ w', Sat B L w' → w'.cell? ⟨q, 1, none⟩ = some (.string (bA pre)) ∧ Sat B L w' := fun w' h' => ⟨Hc.out _ h', h'⟩
  have hmx : max 0 (IntKind.i64.wrap (z : Int)) = (z : Int) := by rw [wraps_i64' _ (by omega) (by omega)]; omega
  clear hz1
  go_wp2_with fail
  go_region_held3 (fun w' => w'.cell? ⟨q, 1, none⟩ = some (.string (bA pre)) ∧ Sat B L w') (first | exact hS _ h1.drew | exact hS _ ‹_›)
    (first | (go_at_call 74; refine (prepeat z z16 (‹_ ∧ Sat B L _›).2).mono ?_; rintro y w2 ⟨rfl, h2⟩))
  all_goals
    go_wp2_with fail
    go_ret
    refine ⟨?_, by assumption⟩
    rw [Hnm.out, ba_add, ba_add, Hz1.out, List.append_assoc]
    rfl
end
end Go.Proofs.YtdngjkjoahgelaaGreatDoor

namespace Go.Proofs.YtdngjkjoahgelaaGreatDoor
set_option linter.all false
set_option maxRecDepth 100000
set_option maxHeartbeats 600000
open Go.RowKit
section
variable {B w w' : World} {L M : List HP} {q p most : Nat} {pre : Bt} {F : List WF}
/-- 'number'. -/
theorem pwNumber (d : Bt) (hd : d.length ≤ 9223372036854775807) (h : Sat B L w) : Calls Tryz.prog 35 #[.string (bA d)] w fun y w' => y = .returned (.int .u64 (numberB d : Int)) ∧ Sat B L w' := by
  have hz : (bA d).size = d.length := by simp [ByteArray.size]
  by_cases h16 : d.length = 16
  · have b0 : ((d.length : Int) != 16) = false := by simp [h16]
    have b1 : ((d.length : Int) == 16) = true := by simp [h16]
    have ht := ptrim d hd h
    cases hall : d.all isDig with
    | true =>
      have e0 := (trim_nil d).2 hall
      rw [e0] at ht
      by_cases hle : decV d ≤ 1000000000000000
      · have hv : numberB d = decV d := by rw [numberB, if_pos ⟨h16, hall, hle⟩]
        have Hv := Lib.hid hv
        have b2 : ¬ (decV d : Int) > 1000000000000000 := by omega
        have b3 : (decV d : Int) ≤ 1000000000000000 := by omega
        have H16 := Lib.hid h16
        have Hall := Lib.hid hall
        clear hv h16 hall e0 hle
        go_enter Tryz.func35, Tryz.ntmps35
        go_wp2_with fail
        refine ht.mono ?_
        rintro y w1 ⟨rfl, h1⟩
        go_wp2_with fail
        refine (pparse16 d H16.out Hall.out h1).mono ?_
        rintro y w2 ⟨rfl, h2⟩
        go_wp2_with fail
        go_ret
        rw [Hv.out]
        exact ⟨rfl, h2⟩
      · have hv : numberB d = 0 := by rw [numberB, if_neg fun h => hle h.2.2]
        have Hv := Lib.hid hv
        have b2 : (decV d : Int) > 1000000000000000 := by omega
        have H16 := Lib.hid h16
        have Hall := Lib.hid hall
        clear hv h16 hall e0 hle
        go_enter Tryz.func35, Tryz.ntmps35
        go_wp2_with fail
        refine ht.mono ?_
        rintro y w1 ⟨rfl, h1⟩
        go_wp2_with fail
        refine (pparse16 d H16.out Hall.out h1).mono ?_
        rintro y w2 ⟨rfl, h2⟩
        go_wp2_with fail
        go_ret
        rw [Hv.out]
        exact ⟨rfl, h2⟩
    | false =>
      have hv : numberB d = 0 := by rw [numberB, if_neg fun h => by rw [hall] at h; exact absurd h.2.1 (by simp)]
      have hne : Lib.trimS d digitsB.data.toList ≠ [] := fun e => by have := (trim_nil d).1 e; rw [hall] at this; cases this
      obtain ⟨t, ht0⟩ : ∃ t, Lib.trimS d digitsB.data.toList = t := ⟨_, rfl⟩
      rw [ht0] at ht hne
      have hte : t.isEmpty = false := by cases t with | nil => exact absurd rfl hne | cons _ _ => rfl
      have Hv := Lib.hid hv
      clear hv hall h16 ht0
      go_enter Tryz.func35, Tryz.ntmps35
      go_wp2_with fail
      refine ht.mono ?_
      rintro y w1 ⟨rfl, h1⟩
      go_wp2_with fail
      go_ret
      rw [Hv.out]
      exact ⟨rfl, h1⟩
  · have hv : numberB d = 0 := by rw [numberB, if_neg fun h => h16 h.1]
    have Hv := Lib.hid hv
    have b0 : ((d.length : Int) != 16) = true := by simp; omega
    have b1 : ((d.length : Int) == 16) = false := by simp; omega
    clear hv h16
    go_enter Tryz.func35, Tryz.ntmps35
    go_wp2_with fail
    go_ret
    rw [Hv.out]
    exact ⟨rfl, h⟩
theorem wf_get : ∀ {G : List (WF × Value)} {i : Nat} {x : WF × Value}, G[i]? = some x → (G.flatMap wfC)[i * 3]? = some (.int .u64 (x.1.first : Int)) ∧ (G.flatMap wfC)[i * 3 + 1]? = some (.int .i64 (x.1.size : Int)) ∧ (G.flatMap wfC)[i * 3 + 2]? = some x.2
  | [], _, _, h => by simp at h
  | y :: G, 0, x, h => by
    simp at h; subst h
    simp [wfC]
  | y :: G, i + 1, x, h => by
    have ih := wf_get (G := G) (i := i) (x := x) (by simpa using h)
    have e : ((y :: G).flatMap wfC) = wfC y ++ G.flatMap wfC := rfl
    have el : (wfC y).length = 3 := rfl
    rw [e, List.getElem?_append_right (by omega), List.getElem?_append_right (by omega), List.getElem?_append_right (by omega), el,
      show (i + 1) * 3 - 3 = i * 3 by omega, show (i + 1) * 3 + 1 - 3 = i * 3 + 1 by omega, show (i + 1) * 3 + 2 - 3 = i * 3 + 2 by omega]
    exact ih
theorem wf_len (G : List (WF × Value)) : (G.flatMap wfC).length = G.length * 3 := by
  induction G with
  | nil => rfl
  | cons y G ih => rw [List.flatMap_cons, List.length_append, ih, List.length_cons]; show 3 + _ = _; omega
/-- What lies at a file of the row. -/
theorem file_at {g off n c : Nat} {G : List (WF × Value)} {i : Nat} {x : WF × Value} (h : Sat B (row 87 3 (.slice (some ⟨g, off, none⟩) n c) n (G.flatMap wfC) :: L) w) (hx : G[i]? = some x) :
    w.cell? ⟨g, off + i * 3, none⟩ = some (.int .u64 (x.1.first : Int)) ∧ w.cell? ⟨g, off + i * 3 + 1, none⟩ = some (.int .i64 (x.1.size : Int)) ∧ w.cell? ⟨g, off + i * 3 + 2, none⟩ = some x.2 ∧ i < n := by
  have hl := h.row_len
  rw [wf_len] at hl
  have hi : i < G.length := (List.getElem?_eq_some_iff.1 hx).1
  obtain ⟨h1, h2, h3⟩ := wf_get hx
  obtain ⟨g', o', e, c1, _⟩ := h.row_cell (i * 3) (by omega)
  cases e
  obtain ⟨g', o', e, c2, _⟩ := h.row_cell (i * 3 + 1) (by omega)
  cases e
  obtain ⟨g', o', e, c3, _⟩ := h.row_cell (i * 3 + 2) (by omega)
  cases e
  rw [h1] at c1
  rw [h2] at c2
  rw [h3] at c3
  exact ⟨c1, by rw [Nat.add_assoc]; exact c2, by rw [Nat.add_assoc]; exact c3, by omega⟩
/-- '(file).next'. -/
theorem pwNextF {g o n c f : Nat} {a : Option Addr} (c0 : w.cell? ⟨g, o, none⟩ = some (.int .u64 (f : Int))) (c2 : w.cell? ⟨g, o + 2, none⟩ = some (.slice a n c)) (hf : f ≤ 1000000000000000) (hn : n ≤ 1099511627776) :
    Calls Tryz.prog 42 #[.pointer (some ⟨g, o, none⟩)] w fun y w' => y = .returned (.int .u64 ((f + n : Nat) : Int)) ∧ Dr w w' := by
  have b1 : (f : Int) ≤ 1000000000000000 := by omega
  have b2 : (n : Int) ≤ 1099511627776 := by omega
  have e1 : IntKind.u64.wrap (n : Int) = (n : Int) := by rw [IntKind.wrap_u64]; omega
  have e2 : IntKind.u64.wrap ((f : Int) + (n : Int)) = (f : Int) + (n : Int) := by rw [IntKind.wrap_u64]; omega
  have He : Hid (((f + n : Nat) : Int) = (f : Int) + (n : Int)) := Lib.hid (by omega)
  clear hf hn
  go_enter Tryz.func42, Tryz.ntmps42
  go_wp2_with fail
  go_quiet (fail)
  go_wp2_with fail
  go_ret
  exact ⟨by rw [He.out]; rfl, _, rfl⟩
/-- 'First'. -/
theorem pwFirst (h : Sat B (wal q p pre most F :: L) w) :
    Calls Tryz.prog 13 #[.pointer (some ⟨q, 0, none⟩)] w fun y w' => y = .returned (.int .u64 (firstW F : Int)) ∧ w' = w := by
  obtain ⟨fv, G, hG, hok, h1⟩ := wal_open h
  have c0 : w.cell? ⟨q, 0, none⟩ = some (.pointer (some ⟨p, 0, none⟩)) := h1.pt_cell 0
  have c3 : w.cell? ⟨q, 3, none⟩ = some fv := h1.pt_cell 3
  have hno := pwNone (q := q) c0
  have h2 := h1.swap
  obtain ⟨a, c, rfl, ha, _, hc⟩ := h2.row_reads
  have hc : c ≤ 9223372036854775807 := by have := hc.1; unfold maxLen at this; omega
  cases hGe : G with
  | nil =>
    subst hGe
    subst hG
    clear h h1 h2 hok
    go_enter Tryz.func13, Tryz.ntmps13
    go_wp2_with (go_at_call 39; refine hno.mono ?_; rintro y w1 ⟨rfl, rfl⟩)
    go_ret
    exact ⟨rfl, rfl⟩
  | cons x G' =>
    have hx : G[0]? = some x := by rw [hGe]; rfl
    obtain ⟨g, off, rfl⟩ : ∃ g off, a = some ⟨g, off, none⟩ := by
      rcases h2.row_form with ⟨e, e0, _⟩ | ⟨g, off, cap, e, _⟩
      · rw [hGe] at e0; simp at e0
      · cases e; exact ⟨g, off, rfl⟩
    obtain ⟨d1, _, _, d4⟩ := file_at h2 hx
    rw [Nat.zero_mul, Nat.add_zero] at d1
    obtain ⟨n, hn⟩ : ∃ n, G.length = n := ⟨_, rfl⟩
    rw [hn] at c3 d4
    have b1 : (0 : Int) < (n : Int) := by omega
    have b2 : ((n : Int) == 0) = false := by simp; omega
    have hf : firstW F = x.1.first := by rw [← hG, hGe]; rfl
    have Hf := Lib.hid hf
    clear h h1 h2 hok hG hx hGe hf hn
    go_enter Tryz.func13, Tryz.ntmps13
    go_wp2_with (go_at_call 39; refine hno.mono ?_; rintro y w1 ⟨rfl, rfl⟩)
    go_ret
    rw [Hf.out]
    exact ⟨rfl, rfl⟩
end
end Go.Proofs.YtdngjkjoahgelaaGreatDoor

namespace Go.Proofs.YtdngjkjoahgelaaGreatDoor
set_option linter.all false
set_option maxRecDepth 100000
set_option maxHeartbeats 600000
open Go.RowKit
section
variable {B w w' : World} {L M : List HP} {q p most : Nat} {pre : Bt} {F : List WF}
theorem wal_snoc {G : List (WF × Value)} {F : List WF} {f : WF} (h : G.map (·.1) = F ++ [f]) : ∃ G' v, G = G' ++ [(f, v)] ∧ G'.map (·.1) = F := by
  rcases snoc_cases G with rfl | ⟨G', ⟨f', v⟩, rfl⟩
  · simp at h
  · rw [List.map_append] at h
    obtain ⟨h1, h2⟩ := List.append_inj' h rfl
    simp at h2
    subst h2
    exact ⟨G', v, rfl, h1⟩
theorem row_some {g : Type} {e : TypeId} {size n : Nat} {a : Option Addr} {c : Nat} {xs : List Value} (h : Sat B (row e size (.slice a n c) n xs :: L) w) (hn : 0 < n) : ∃ g off, a = some ⟨g, off, none⟩ := by
  rcases h.row_form with ⟨e1, e0, _⟩ | ⟨g, off, cap, e1, _⟩
  · omega
  · cases e1; exact ⟨g, off, rfl⟩
theorem rec_at {G : List (WF × Value)} {x : WF × Value} {i : Nat} {A0 A1 : HP} (h : Sat B (A0 :: A1 :: stars (G.map recP) :: L) w) (hx : G[i]? = some x) : ∃ a c, x.2 = .slice a x.1.recs.length c ∧ ∀ j b, x.1.recs[j]? = some b → ∃ g o, a = some ⟨g, o, none⟩ ∧ w.cell? ⟨g, o + j, none⟩ = some (.string (bA b)) := by
  obtain ⟨hi, hxe⟩ := List.getElem?_eq_some_iff.1 hx
  have hsp : G.map recP = (G.take i).map recP ++ recP x :: (G.drop (i + 1)).map recP := by
    rw [← List.map_cons, ← List.map_append]; congr 1; rw [← hxe]; simp
  have h1 := h.p2
  rw [hsp] at h1
  have h2 := h1.mid
  obtain ⟨a, c, e, _, _, _, hc⟩ := (show Sat B (row 9 1 x.2 x.1.recs.length (strB x.1.recs) :: _) w from h2).row_reads
  exact ⟨a, c, e, fun j b hb => hc j _ (strB_get hb)⟩
/-- 'Next'. -/
theorem pwNext (h : Sat B (wal q p pre most F :: L) w) :
    Calls Tryz.prog 14 #[.pointer (some ⟨q, 0, none⟩)] w fun y w' => y = .returned (.int .u64 (nextW F : Int)) ∧ Dr w w' := by
  have hfi := pwFirst h
  obtain ⟨fv, G, hG, hok, h1⟩ := wal_open h
  have c0 : w.cell? ⟨q, 0, none⟩ = some (.pointer (some ⟨p, 0, none⟩)) := h1.pt_cell 0
  have c3 : w.cell? ⟨q, 3, none⟩ = some fv := h1.pt_cell 3
  have hno := pwNone (q := q) c0
  have h2 := h1.swap
  obtain ⟨a, c, rfl, ha, _, hc⟩ := h2.row_reads
  have hc : c ≤ 9223372036854775807 := by have := hc.1; unfold maxLen at this; omega
  rcases snoc_cases F with rfl | ⟨F', f, rfl⟩
  · have hGn : G = [] := by simpa using hG
    subst hGn
    clear h h1 h2 hok
    go_enter Tryz.func14, Tryz.ntmps14
    go_wp2_with (first
      | (go_at_call 39; refine hno.mono ?_; rintro y w1 ⟨rfl, rfl⟩)
      | (go_at_call 13; refine hfi.mono ?_; rintro y w1 ⟨rfl, rfl⟩))
    go_ret
    exact ⟨rfl, 0, rfl⟩
  · obtain ⟨G', v, rfl, hG'⟩ := wal_snoc hG
    obtain ⟨m, hm⟩ : ∃ m, G'.length = m := ⟨_, rfl⟩
    have hx : (G' ++ [(f, v)])[m]? = some (f, v) := by rw [← hm]; simp
    have hlen : (G' ++ [(f, v)]).length = m + 1 := by simp [hm]
    rw [hlen] at c3 h2 ha
    obtain ⟨g, off, rfl⟩ := row_some (g := Unit) h2 (by omega)
    obtain ⟨d1, d2, d3, _⟩ := file_at h2 hx
    obtain ⟨ra, rc, hv, _⟩ := rec_at h1 hx
    simp only at hv d1 d3
    subst hv
    have hf := hok.first f (by simp)
    have hr : f.recs.length ≤ 1099511627776 := by have := hok.recs f (by simp); have := rs_le f.recs; simp only [WF.size] at *; omega
    have hmn := hok.many
    have hFl : F'.length = m := by rw [← hG', List.length_map, hm]
    have b0 : m ≤ 1000000 := by simp at hmn; omega
    have b1 : (m : Int) ≤ 1000000 := by omega
    have b2 : (m : Int) < (m : Int) + 1 := by omega
    have ew : IntKind.i64.wrap (m : Int) = (m : Int) := wraps_i64' _ (by omega) (by omega)
    have b3 : ((m : Int) + 1 == 0) = false := by simp; omega
    have hn := fun k => pwNextF (w := w.drewN k) (g := g) (o := off + m * 3) (f := f.first) d1 d3 hf.2 hr
    have Hf := Lib.hid (show nextW (F' ++ [f]) = f.first + f.recs.length from nextW_snoc F' f)
    clear h h1 h2 hok hG hG' hx hm hlen hf hr hmn hFl ha d1 d2 d3 hfi
    go_enter Tryz.func14, Tryz.ntmps14
    go_wp2_with (go_at_call 39; refine hno.mono ?_; rintro y w1 ⟨rfl, rfl⟩)
    go_quiet ((go_at_call 42; exact Calls.quiet_of (hn _)))
    go_wp2_with fail
    go_ret
    rw [Hf.out]
    exact ⟨rfl, _, rfl⟩
def getV (F : List WF) (n : Nat) : Value := match getW F n with
  | none => .tuple #[.string ⟨#[]⟩, .int .i64 5]
  | some r => .tuple #[.string (bA r), .int .i64 0]
theorem getW_in {f : WF} {F : List WF} {n : Nat} (h : f.first ≤ n ∧ n < f.next) : getW (f :: F) n = f.recs[n - f.first]? := by rw [getW, if_pos h]
theorem getW_out {f : WF} {F : List WF} {n : Nat} (h : ¬ (f.first ≤ n ∧ n < f.next)) : getW (f :: F) n = getW F n := by rw [getW, if_neg h]
/-- 'Get'. -/
theorem pwGet (n : Nat) (hn : n ≤ 18446744073709551615) (h : Sat B (wal q p pre most F :: L) w) :
    Calls Tryz.prog 15 #[.pointer (some ⟨q, 0, none⟩), .int .u64 (n : Int)] w fun y w' => y = .returned (getV F n) ∧ Dr w w' := by
  obtain ⟨fv, G, hG, hok, h1⟩ := wal_open h
  have c0 : w.cell? ⟨q, 0, none⟩ = some (.pointer (some ⟨p, 0, none⟩)) := h1.pt_cell 0
  have c3 : w.cell? ⟨q, 3, none⟩ = some fv := h1.pt_cell 3
  have hno := pwNone (q := q) c0
  have h2 := h1.swap
  obtain ⟨a, c, rfl, ha, _, hc⟩ := h2.row_reads
  have hc : c ≤ 9223372036854775807 := by have := hc.1; unfold maxLen at this; omega
  have hGl : G.length = F.length := by rw [← hG, List.length_map]
  rw [hGl] at c3 h2 ha h1
  have hN := hok.many
  obtain ⟨N, hNe⟩ : ∃ N, F.length = N := ⟨_, rfl⟩
  rw [hNe] at c3 h2 ha h1 hN hGl
  have hD0 : Dr w w := ⟨0, rfl⟩
  have HG := Lib.hid hG
  have HN := Lib.hid hNe
  have Hok := Lib.hid hok
  clear h hG hNe hok
  have n1 : (n : Int) ≤ 18446744073709551615 := by omega
  go_enter Tryz.func15, Tryz.ntmps15
  go_wp2_with (go_at_call 39; refine hno.mono ?_; rintro y w1 ⟨rfl, rfl⟩)
  go_loopg [15] (N + 1) (fun gh v15 wr => ∃ i : Nat, i ≤ N ∧ N + 1 ≤ i + gh ∧ v15 = .int .i64 (i : Int) ∧ getW F n = getW (F.drop i) n ∧ Dr w1 wr)
  case atStart => exact ⟨0, by omega, by omega, rfl, rfl, hD0⟩
  case round =>
    obtain ⟨i, hi1, hi2, rfl, hget, hd⟩ := hrel
    have Hget := Lib.hid hget
    have Hd := Lib.hid hd
    have c3' := (hd.cell ⟨q, 3, none⟩).trans c3
    clear hget hno hD0
    by_cases hlt : i < N
    · have b1 : (i : Int) < (N : Int) := by omega
      obtain ⟨x, hx⟩ : ∃ x, G[i]? = some x := ⟨_, List.getElem?_eq_getElem (by omega)⟩
      have hxF : F[i]? = some x.1 := by rw [← HG.out, List.getElem?_map, hx]; rfl
      obtain ⟨g, off, rfl⟩ := row_some (g := Unit) h2 (by omega)
      obtain ⟨d1, d2, d3, _⟩ := file_at h2 hx
      obtain ⟨ra, rc, hv, hrec⟩ := rec_at h1 hx
      obtain ⟨f, v⟩ := x
      simp only at hv d1 d2 d3 hxF hrec
      subst hv
      have hf := Hok.out.first f (List.mem_of_getElem? hxF)
      have hr : f.recs.length ≤ 1099511627776 := by have := Hok.out.recs f (List.mem_of_getElem? hxF); have := rs_le f.recs; simp only [WF.size] at *; omega
      have e1 := (hd.cell ⟨g, off + i * 3, none⟩).trans d1
      have e3 := (hd.cell ⟨g, off + i * 3 + 2, none⟩).trans d3
      have hdrop : F.drop i = f :: F.drop (i + 1) := by
        obtain ⟨hi3, hie⟩ := List.getElem?_eq_some_iff.1 hxF
        rw [← hie, List.drop_eq_getElem_cons hi3]
      have hnx := pwNextF (w := wr) (g := g) (o := off + i * 3) (f := f.first) e1 e3 hf.2 hr
      have Hdrop := Lib.hid hdrop
      clear hdrop hx hxF d2 hd
      by_cases hge : f.first ≤ n
      · by_cases hlt2 : n < f.first + f.recs.length
        · -- found
          obtain ⟨k, hk⟩ : ∃ k, n - f.first = k := ⟨_, rfl⟩
          obtain ⟨r, hrr⟩ : ∃ r, f.recs[k]? = some r := ⟨_, List.getElem?_eq_getElem (by omega)⟩
          obtain ⟨g2, o2, rfl, cr⟩ := hrec k r hrr
          have hgv : getV F n = .tuple #[.string (bA r), .int .i64 0] := by
            rw [getV, Hget.out, Hdrop.out, getW_in ⟨hge, hlt2⟩, hk, hrr]
          have Hgv := Lib.hid hgv
          have g1 : (n : Int) ≥ (f.first : Int) := by omega
          have g3 : (n : Int) < ((f.first + f.recs.length : Nat) : Int) := by omega
          have ek : IntKind.u64.wrap ((n : Int) - (f.first : Int)) = (k : Int) := by rw [IntKind.wrap_u64]; omega
          have b5 : (k : Int) < (f.recs.length : Int) := by omega
          clear hgv hk hrr hrec hge hlt2
          go_wp2_with fail
          refine hnx.mono ?_
          rintro y w2 ⟨rfl, hw2⟩
          have cr2 := (hw2.cell ⟨g2, o2 + k, none⟩).trans ((Hd.out.cell _).trans cr)
          have e1' := (hw2.cell ⟨g, off + i * 3, none⟩).trans e1
          have e3' := (hw2.cell ⟨g, off + i * 3 + 2, none⟩).trans e3
          have Hd2 := Lib.hid (Hd.out.trans hw2)
          clear hw2 cr hnx
          go_wp2_with fail
          go_quiet (fail)
          go_wp2_with fail
          go_ret2
          rw [Hgv.out]
          exact ⟨rfl, Hd2.out.trans ⟨_, rfl⟩⟩
        · have hgo : getW F n = getW (F.drop (i + 1)) n := by rw [Hget.out, Hdrop.out, getW_out fun h => hlt2 h.2]
          have Hgo := Lib.hid hgo
          have g1 : (n : Int) ≥ (f.first : Int) := by omega
          have g3 : ¬ (n : Int) < ((f.first + f.recs.length : Nat) : Int) := by omega
          clear hgo hrec hge hlt2
          go_wp2_with fail
          refine hnx.mono ?_
          rintro y w2 ⟨rfl, hw2⟩
          have Hd2 := Lib.hid (Hd.out.trans hw2)
          clear hw2 hnx
          go_wp2_with fail
          go_roundg (gk - 1)
          case measure => omega
          case rel => exact ⟨i + 1, by omega, by omega, by go_num, Hgo.out, Hd2.out⟩
      · have hgo : getW F n = getW (F.drop (i + 1)) n := by rw [Hget.out, Hdrop.out, getW_out fun h => hge h.1]
        have Hgo := Lib.hid hgo
        have g1 : ¬ (n : Int) ≥ (f.first : Int) := by omega
        clear hgo hrec hge hnx
        go_wp2_with fail
        go_roundg (gk - 1)
        case measure => omega
        case rel => exact ⟨i + 1, by omega, by omega, by go_num, Hgo.out, Hd.out⟩
    · obtain rfl : i = N := by omega
      have b1 : ¬ (i : Int) < (i : Int) := by omega
      have hgv : getV F n = .tuple #[.string ⟨#[]⟩, .int .i64 5] := by
        rw [getV, Hget.out, List.drop_of_length_le (by rw [HN.out]; omega)]; rfl
      have Hgv := Lib.hid hgv
      clear hgv
      go_wp2_with fail
      go_ret2
      rw [Hgv.out]
      exact ⟨rfl, Hd.out⟩
end
end Go.Proofs.YtdngjkjoahgelaaGreatDoor

namespace Go.Proofs.YtdngjkjoahgelaaGreatDoor
set_option linter.all false
set_option maxRecDepth 100000
set_option maxHeartbeats 1000000
open Go.RowKit
section
variable {B w w' : World} {L M : List HP} {q p most room : Nat} {pre : Bt} {F : List WF} {D : Fls}
theorem syncW_snoc (D : Fls) (p : Bt) (F : List WF) (f : WF) : syncW D p (F ++ [f]) = (syncD D (nameW p f.first)).2 := by simp [syncW]
/-- 'Sync'. -/
theorem pwSync (hE : Env B) (h : Sat B (wal q p pre most F :: disk p room D :: L) w) :
    Calls Tryz.prog 9 #[.pointer (some ⟨q, 0, none⟩)] w fun y w' => y = .returned (.int .i64 0) ∧ Sat B (wal q p pre most F :: disk p room (syncW D pre F) :: L) w' := by
  obtain ⟨fv, G, hG, hok, h1⟩ := wal_open h
  have c0 : w.cell? ⟨q, 0, none⟩ = some (.pointer (some ⟨p, 0, none⟩)) := h1.pt_cell 0
  have c3 : w.cell? ⟨q, 3, none⟩ = some fv := h1.pt_cell 3
  have hno := pwNone (q := q) c0
  have h2 := h1.swap
  obtain ⟨a, c, rfl, ha, _, hc⟩ := h2.row_reads
  have hc : c ≤ 9223372036854775807 := by have := hc.1; unfold maxLen at this; omega
  rcases snoc_cases F with rfl | ⟨F', f, rfl⟩
  · have hGn : G = [] := by simpa using hG
    subst hGn
    clear h1 h2 hok
    go_enter Tryz.func9, Tryz.ntmps9
    go_wp2_with (go_at_call 39; refine hno.mono ?_; rintro y w1 ⟨rfl, rfl⟩)
    go_ret
    exact ⟨rfl, h⟩
  · obtain ⟨G', v, rfl, hG'⟩ := wal_snoc hG
    obtain ⟨m, hm⟩ : ∃ m, G'.length = m := ⟨_, rfl⟩
    have hx : (G' ++ [(f, v)])[m]? = some (f, v) := by rw [← hm]; simp
    have hlen : (G' ++ [(f, v)]).length = m + 1 := by simp [hm]
    have HG := Lib.hid hG
    have Hlen := Lib.hid hlen
    rw [hlen] at c3 h2 ha h1
    obtain ⟨g, off, rfl⟩ := row_some (g := Unit) h2 (by omega)
    have hf := hok.first f (by simp)
    have hmn := hok.many
    have hFl : F'.length = m := by rw [← hG', List.length_map, hm]
    have b0 : m ≤ 1000000 := by simp at hmn; omega
    have b1 : (m : Int) ≤ 1000000 := by omega
    have b2 : (m : Int) < (m : Int) + 1 := by omega
    have ew : IntKind.i64.wrap (m : Int) = (m : Int) := wraps_i64' _ (by omega) (by omega)
    have b3 : (0 : Int) < (m : Int) + 1 := by omega
    have hS : ∀ (D' : Fls) (w' : World), Sat B (pt q (wlC p pre most (.slice (some ⟨g, off, none⟩) (m + 1) c)) :: row 87 3 (.slice (some ⟨g, off, none⟩) (m + 1) c) (m + 1) ((G' ++ [(f, v)]).flatMap wfC) :: stars ((G' ++ [(f, v)]).map recP) :: disk p room D' :: L) w' →
        w'.cell? ⟨q, 0, none⟩ = some (.pointer (some ⟨p, 0, none⟩)) ∧ w'.cell? ⟨q, 3, none⟩ = some (.slice (some ⟨g, off, none⟩) (m + 1) c) ∧ w'.cell? ⟨g, off + m * 3, none⟩ = some (.int .u64 (f.first : Int)) := fun D' w' h' =>
      ⟨h'.pt_cell 0, h'.pt_cell 3, (file_at h'.swap hx).1⟩
    have hc1 : ∀ w', Sat B (pt q (wlC p pre most (.slice (some ⟨g, off, none⟩) (m + 1) c)) :: row 87 3 (.slice (some ⟨g, off, none⟩) (m + 1) c) (m + 1) ((G' ++ [(f, v)]).flatMap wfC) :: stars ((G' ++ [(f, v)]).map recP) :: disk p room D :: L) w' →
        w'.cell? ⟨q, 1, none⟩ = some (.string (bA pre)) := fun w' h' => h'.pt_cell 1
    have h0 := hS _ _ h1.drew
    have h1d := h1.drew
    have hpl := hok.pre
    have Hok := Lib.hid hok
    have Hsy := Lib.hid (syncW_snoc D pre F' f)
    clear h h2 hok hG hG' hx hm hlen hmn hFl ha
    go_enter Tryz.func9, Tryz.ntmps9
    go_wp2_with (go_at_call 39; refine hno.mono ?_; rintro y w1 ⟨rfl, rfl⟩)
    go_region_held3 (fun w' => w'.cell? ⟨q, 0, none⟩ = some (.pointer (some ⟨p, 0, none⟩)) ∧ w'.cell? ⟨q, 3, none⟩ = some (.slice (some ⟨g, off, none⟩) (m + 1) c) ∧ w'.cell? ⟨g, off + m * 3, none⟩ = some (.int .u64 (f.first : Int)))
      (first | exact h0 | exact hS _ _ h3.q3 | exact hS _ _ h2)
      (first
        | (go_at_call 37; refine (pwName hE f.first hf.2 h1d hc1 hpl).mono ?_; rintro y w2 ⟨rfl, h2⟩)
        | (go_at_call 40; refine (pdSync (nameW pre f.first) h2.p3).mono ?_; rintro y w3 ⟨rfl, h3⟩))
    all_goals
      go_wp2_with fail
      go_ret
      rw [Hsy.out]
      refine ⟨rfl, wal_close HG.out Hok.out (fv := .slice (some ⟨g, off, none⟩) (m + 1) c) ?_⟩
      rw [Hlen.out]
      exact h3.q3
end
end Go.Proofs.YtdngjkjoahgelaaGreatDoor

namespace Go.Proofs.YtdngjkjoahgelaaGreatDoor
set_option linter.all false
set_option maxRecDepth 100000
set_option maxHeartbeats 1000000
open Go.RowKit
def anew1 (room : Nat) (D : Fls) (p : Bt) (n : Nat) (bytes : Bt) : Int × Fls :=
  let x := appendD room D (tmpW p) bytes
  if x.1 = 0 then renameD (syncD x.2 (tmpW p)).2 (tmpW p) (nameW p n) else (x.1, D)
theorem anew_eq (room : Nat) (D : Fls) (p : Bt) (n : Nat) (b : Bt) : anewW room D p n b = anew1 room (removeD D (tmpW p)).2 p n b := rfl
theorem append_err {room : Nat} {D : Fls} {n d : Bt} (h : (appendD room D n d).1 ≠ 0) : (appendD room D n d).2 = D ∧ ((appendD room D n d).1 = 2 ∨ (appendD room D n d).1 = 7) := by
  unfold appendD at h ⊢
  split
  · exact ⟨rfl, .inl rfl⟩
  · split
    · exact ⟨rfl, .inr rfl⟩
    · rename_i h1 h2
      rw [if_neg h1, if_neg h2] at h
      exact absurd rfl h
theorem append_zero {room : Nat} {D : Fls} {n d : Bt} (hok : DOk room D) (h : (appendD room D n d).1 = 0) : (syncD (appendD room D n d).2 n).1 = 0 := by
  unfold appendD at h ⊢
  split at h
  · cases h
  · split at h
    · cases h
    · rename_i h1 h2
      rw [if_neg h1, if_neg h2]
      have : getF n (putF ⟨n, bytesOf n D ++ d, syncedOf n D⟩ D) = some ⟨n, bytesOf n D ++ d, syncedOf n D⟩ := by rw [getF_put hok.srt, if_pos rfl]
      simp only [syncD, this]
section
variable {B w w' : World} {L M : List HP} {q p most room bw bs bb bf n : Nat} {pre bytes : Bt} {D : Fls}
/-- What the function of 'anew' reads. -/
structure AnCells (q p bw bs bb bf n : Nat) (pre bytes : Bt) (w : World) : Prop where
  a : w.cell? ⟨bw, 0, none⟩ = some (.pointer (some ⟨q, 0, none⟩))
  b : w.cell? ⟨bs, 0, none⟩ = some (.string (bA (tmpW pre)))
  c : w.cell? ⟨bb, 0, none⟩ = some (.string (bA bytes))
  d : w.cell? ⟨bf, 0, none⟩ = some (.int .u64 (n : Int))
  e : w.cell? ⟨q, 0, none⟩ = some (.pointer (some ⟨p, 0, none⟩))
  f : w.cell? ⟨q, 1, none⟩ = some (.string (bA pre))
theorem pwAnew1 (hE : Env B) (hq : ∀ (D' : Fls) (w' : World), Sat B (disk p room D' :: L) w' → AnCells q p bw bs bb bf n pre bytes w') (hn : inR n) (hp : pre.length ≤ 48) (hb : bytes.length ≤ 9223372036854775807) (h : Sat B (disk p room D :: L) w) :
    Calls Tryz.prog 75 #[.pointer (some ⟨bw, 0, none⟩), .pointer (some ⟨bs, 0, none⟩), .pointer (some ⟨bb, 0, none⟩), .pointer (some ⟨bf, 0, none⟩)] w fun y w' => y = .returned (.int .i64 (anew1 room D pre n bytes).1) ∧ Sat B (disk p room (anew1 room D pre n bytes).2 :: L) w' := by
  have hok := disk_ok h
  have htl : (tmpW pre).length ≤ 9223372036854775807 := by simp [tmpW]; omega
  have h0 := h.drew
  have hS : ∀ (D' : Fls) (w' : World), Sat B (disk p room D' :: L) w' → w'.cell? ⟨bw, 0, none⟩ = some (.pointer (some ⟨q, 0, none⟩)) ∧ w'.cell? ⟨bs, 0, none⟩ = some (.string (bA (tmpW pre))) ∧ w'.cell? ⟨bb, 0, none⟩ = some (.string (bA bytes)) ∧ w'.cell? ⟨bf, 0, none⟩ = some (.int .u64 (n : Int)) ∧
      w'.cell? ⟨q, 0, none⟩ = some (.pointer (some ⟨p, 0, none⟩)) := fun D' w' h' => by obtain ⟨a, b, c, d, e, _⟩ := hq D' w' h'; exact ⟨a, b, c, d, e⟩
  have hf : ∀ (D' : Fls) (w' : World), Sat B (disk p room D' :: L) w' → w'.cell? ⟨q, 1, none⟩ = some (.string (bA pre)) := fun D' w' h' => (hq D' w' h').f
  have hs0 := hS _ _ h0
  by_cases hx : (appendD room D (tmpW pre) bytes).1 = 0
  · have hsy := append_zero hok hx
    have Han := Lib.hid (show anew1 room D pre n bytes = renameD (syncD (appendD room D (tmpW pre) bytes).2 (tmpW pre)).2 (tmpW pre) (nameW pre n) by rw [anew1]; simp only [hx, if_true])
    have hnl : (nameW pre n).length ≤ 9223372036854775807 := by rw [name_len hn]; omega
    have Hx := Lib.hid hx
    have Hsy := Lib.hid hsy
    clear hq hok hx hsy
    go_enter Tryz.func75, Tryz.ntmps75
    go_wp2_with fail
    go_region_held3 (fun w' => w'.cell? ⟨bw, 0, none⟩ = some (.pointer (some ⟨q, 0, none⟩)) ∧ w'.cell? ⟨bs, 0, none⟩ = some (.string (bA (tmpW pre))) ∧ w'.cell? ⟨bb, 0, none⟩ = some (.string (bA bytes)) ∧ w'.cell? ⟨bf, 0, none⟩ = some (.int .u64 (n : Int)) ∧ w'.cell? ⟨q, 0, none⟩ = some (.pointer (some ⟨p, 0, none⟩)))
      (first | exact hs0 | exact hS _ _ h1)
      (first | (go_at_call 17; refine (pdAppend (tmpW pre) bytes htl hb h0).mono ?_; rintro y w1 ⟨rfl, h1⟩))
    rw [Hx.out]
    have h1d := h1.drew
    have hs1 := hS _ _ h1d
    go_wp2_with fail
    go_region_held3 (fun w' => w'.cell? ⟨bw, 0, none⟩ = some (.pointer (some ⟨q, 0, none⟩)) ∧ w'.cell? ⟨bs, 0, none⟩ = some (.string (bA (tmpW pre))) ∧ w'.cell? ⟨bb, 0, none⟩ = some (.string (bA bytes)) ∧ w'.cell? ⟨bf, 0, none⟩ = some (.int .u64 (n : Int)) ∧ w'.cell? ⟨q, 0, none⟩ = some (.pointer (some ⟨p, 0, none⟩)))
      (first | exact hs1 | exact hS _ _ h2)
      (first | (go_at_call 40; refine (pdSync (tmpW pre) h1d).mono ?_; rintro y w2 ⟨rfl, h2⟩))
    rw [Hsy.out]
    have h2d := h2.drew
    have hs2 := hS _ _ h2d
    go_wp2_with fail
    go_region_held3 (fun w' => w'.cell? ⟨bw, 0, none⟩ = some (.pointer (some ⟨q, 0, none⟩)) ∧ w'.cell? ⟨bs, 0, none⟩ = some (.string (bA (tmpW pre))) ∧ w'.cell? ⟨bb, 0, none⟩ = some (.string (bA bytes)) ∧ w'.cell? ⟨bf, 0, none⟩ = some (.int .u64 (n : Int)) ∧ w'.cell? ⟨q, 0, none⟩ = some (.pointer (some ⟨p, 0, none⟩)))
      (first | exact hs2 | exact hS _ _ h4 | exact hS _ _ h3)
      (first
        | (go_at_call 37; refine (pwName hE n hn.2 h2d (fun w' h' => hf _ w' h') hp).mono ?_; rintro y w3 ⟨rfl, h3⟩)
        | (go_at_call 76; refine (pdRename (tmpW pre) (nameW pre n) hnl h3).mono ?_; rintro y w4 ⟨rfl, h4⟩))
    all_goals
      go_wp2_with fail
      go_ret
      rw [Han.out]
      exact ⟨rfl, h4⟩
  · obtain ⟨e1, e2⟩ := append_err hx
    have Han := Lib.hid (show anew1 room D pre n bytes = ((appendD room D (tmpW pre) bytes).1, D) by rw [anew1]; simp only [if_neg hx])
    have hap := pdAppend (tmpW pre) bytes htl hb h0
    rw [e1] at hap
    obtain ⟨z, hz⟩ : ∃ z, (appendD room D (tmpW pre) bytes).1 = z := ⟨_, rfl⟩
    rw [hz] at hap hx e2 Han
    have z1 : (z == 0) = false := by simpa using hx
    have z2 : (z != 0) = true := by simpa using hx
    clear hq hok hz e1 e2
    go_enter Tryz.func75, Tryz.ntmps75
    go_wp2_with fail
    go_region_held3 (fun w' => w'.cell? ⟨bw, 0, none⟩ = some (.pointer (some ⟨q, 0, none⟩)) ∧ w'.cell? ⟨bs, 0, none⟩ = some (.string (bA (tmpW pre))) ∧ w'.cell? ⟨bb, 0, none⟩ = some (.string (bA bytes)) ∧ w'.cell? ⟨bf, 0, none⟩ = some (.int .u64 (n : Int)) ∧ w'.cell? ⟨q, 0, none⟩ = some (.pointer (some ⟨p, 0, none⟩)))
      (first | exact hs0 | exact hS _ _ h1)
      (first | (go_at_call 17; refine hap.mono ?_; rintro y w1 ⟨rfl, h1⟩))
    all_goals
      go_wp2_with fail
      go_ret
      rw [Han.out]
      exact ⟨rfl, h1⟩
/-- 'anew'. -/
theorem pwAnew (hE : Env B) (hq : ∀ (D' : Fls) (w' : World), Sat B (disk p room D' :: L) w' → w'.cell? ⟨q, 0, none⟩ = some (.pointer (some ⟨p, 0, none⟩)) ∧ w'.cell? ⟨q, 1, none⟩ = some (.string (bA pre))) (hn : inR n) (hp : pre.length ≤ 48) (hb : bytes.length ≤ 9223372036854775807) (h : Sat B (disk p room D :: L) w) :
    Calls Tryz.prog 38 #[.pointer (some ⟨q, 0, none⟩), .int .u64 (n : Int), .string (bA bytes)] w fun y w' => y = .returned (.int .i64 (anewW room D pre n bytes).1) ∧ Sat B (disk p room (anewW room D pre n bytes).2 :: L) w' := by
  have hzp : (bA pre).size = pre.length := by simp [ByteArray.size]
  have hzt : ¬ 9223372036854775807 < pre.length + 3 := by omega
  have hcat : bA pre ++ ⟨#[116, 109, 112]⟩ = bA (tmpW pre) := by rw [show (⟨#[116, 109, 112]⟩ : ByteArray) = bA [116, 109, 112] from rfl, ba_add]; rfl
  obtain ⟨bw, hbw⟩ : ∃ bw, w.heap.size = bw := ⟨_, rfl⟩
  have h1 := (h.alloc' (.cells #[.pointer (some ⟨q, 0, none⟩)] 26) (n := bw) hbw.symm).swap
  have h2 := (h1.alloc' (.cells #[.int .u64 (n : Int)] 35) (n := bw + 1) (by simp [hbw])).swap
  have h3 := (h2.alloc' (.cells #[.string (bA bytes)] 9) (n := bw + 1 + 1) (by simp [hbw])).swap
  have hq3 := hq _ _ (h3.swap.drop.swap.drop.swap.drop)
  go_enter Tryz.func38, Tryz.ntmps38
  go_wp2_with fail
  have h4 := (h3.alloc' (.cells #[.string (bA (tmpW pre))] 9) (n := bw + 1 + 1 + 1) (by simp [hbw])).swap
  generalize (((w.alloc _).alloc _).alloc _).alloc _ = w4 at h4 ⊢
  have hAn : ∀ (D' : Fls) (w' : World), Sat B (disk p room D' :: pt (bw + 1 + 1 + 1) (.cells #[.string (bA (tmpW pre))] 9) :: pt (bw + 1 + 1) (.cells #[.string (bA bytes)] 9) :: pt (bw + 1) (.cells #[.int .u64 (n : Int)] 35) :: pt bw (.cells #[.pointer (some ⟨q, 0, none⟩)] 26) :: L) w' →
      AnCells q p bw (bw + 1 + 1 + 1) (bw + 1 + 1) (bw + 1) n pre bytes w' := fun D' w' h' => by
    obtain ⟨k1, k2⟩ := hq _ _ (h'.swap.drop.swap.drop.swap.drop.swap.drop)
    exact ⟨h'.p4.pt_cell 0, h'.swap.pt_cell 0, h'.p2.pt_cell 0, h'.p3.pt_cell 0, k1, k2⟩
  have h4d := h4.drew
  obtain ⟨a1, a2, a3, a4, a5, a6⟩ := hAn _ _ h4d
  have hs0 : w4.drew.cell? ⟨bw, 0, none⟩ = some (.pointer (some ⟨q, 0, none⟩)) ∧ w4.drew.cell? ⟨bw + 1 + 1 + 1, 0, none⟩ = some (.string (bA (tmpW pre))) ∧ w4.drew.cell? ⟨q, 0, none⟩ = some (.pointer (some ⟨p, 0, none⟩)) := ⟨a1, a2, a5⟩
  have hS : ∀ (D' : Fls) (w' : World), Sat B (disk p room D' :: pt (bw + 1 + 1 + 1) (.cells #[.string (bA (tmpW pre))] 9) :: pt (bw + 1 + 1) (.cells #[.string (bA bytes)] 9) :: pt (bw + 1) (.cells #[.int .u64 (n : Int)] 35) :: pt bw (.cells #[.pointer (some ⟨q, 0, none⟩)] 26) :: L) w' →
      w'.cell? ⟨bw, 0, none⟩ = some (.pointer (some ⟨q, 0, none⟩)) ∧ w'.cell? ⟨bw + 1 + 1 + 1, 0, none⟩ = some (.string (bA (tmpW pre))) ∧ w'.cell? ⟨q, 0, none⟩ = some (.pointer (some ⟨p, 0, none⟩)) := fun D' w' h' => by obtain ⟨a, b, c, d, e, _⟩ := hAn D' w' h'; exact ⟨a, b, e⟩
  clear h1 h2 h3 hq3 a1 a2 a3 a4 a5 a6 hbw h hcat hzt
  go_region_held3 (fun w' => w'.cell? ⟨bw, 0, none⟩ = some (.pointer (some ⟨q, 0, none⟩)) ∧ w'.cell? ⟨bw + 1 + 1 + 1, 0, none⟩ = some (.string (bA (tmpW pre))) ∧ w'.cell? ⟨q, 0, none⟩ = some (.pointer (some ⟨p, 0, none⟩)))
    (first | exact hs0 | exact hS _ _ h5)
    (first | (go_at_call 33; refine (pdRemove (tmpW pre) h4d).mono ?_; rintro y w5 ⟨rfl, h5⟩))
  have hcl := pwAnew1 hE hAn hn hp hb h5
  rw [← anew_eq] at hcl
  go_wp2_with fail
  refine hcl.mono ?_
  rintro y w6 ⟨rfl, h6⟩
  go_wp2_with fail
  go_ret
  exact ⟨rfl, h6.swap.drop.swap.drop.swap.drop.swap.drop⟩
end
end Go.Proofs.YtdngjkjoahgelaaGreatDoor

namespace Go.Proofs.YtdngjkjoahgelaaGreatDoor
set_option linter.all false
set_option maxRecDepth 100000
set_option maxHeartbeats 4000000
open Go.RowKit
theorem u64Elem : Elem Tryz.prog 78 35 (.int .u64 0) 1 8 :=
  ⟨Tryz.underlying78, by kernel_rfl, rfl, by decide, by simp [Value.cells, Value.oneCell']⟩
theorem fileElem : Elem Tryz.prog 75 87 (.agg #[.int .u64 0, .int .i64 0, .slice none 0 0]) 3 40 :=
  ⟨Tryz.underlying75, by kernel_rfl, rfl, by decide, by simp [Value.cells, Value.oneCell']⟩
/-- The numbers of the first names. -/
def numsOf (p : Bt) (ns : List Bt) : List Nat := (ns.map fun s => numberB (s.drop p.length)).filter fun n => decide (0 < n)
theorem numsOf_all (D : Fls) (p : Bt) : numsOf p (listD D p) = numsW D p := rfl
theorem numsOf_snoc (p : Bt) (ns : List Bt) (s : Bt) : numsOf p (ns ++ [s]) = numsOf p ns ++ (if 0 < numberB (s.drop p.length) then [numberB (s.drop p.length)] else []) := by
  simp only [numsOf, List.map_append, List.filter_append, List.map_cons, List.map_nil, List.filter_cons, List.filter_nil, decide_eq_true_eq]
theorem numsOf_len (p : Bt) (ns : List Bt) : (numsOf p ns).length ≤ ns.length := by
  have := List.length_filter_le (fun n => decide (0 < n)) (ns.map fun s => numberB (s.drop p.length))
  rw [List.length_map] at this
  exact this
def consW (F : List WF) (y : Int × Fls × List WF) : Int × Fls × List WF := (y.1, y.2.1, F ++ y.2.2)
theorem consW_cons (F G : List WF) (y : Int × Fls × List WF) : consW F (consW G y) = consW (F ++ G) y := by simp [consW]
theorem bytes_le (D : Fls) (n : Bt) (h : SrtBy Fl.name D) : (bytesOf n D).length ≤ usedD D := by
  unfold bytesOf
  cases hg : getF n D with
  | none => simp
  | some f => have := used_del h hg; simp; omega
theorem read_bytes (D : Fls) (n : Bt) : (readD D n).1 = bytesOf n D := by
  unfold readD bytesOf
  cases getF n D <;> rfl
theorem goW_end {room : Nat} {p : Bt} {nx : Option Nat} {n : Nat} {ns : List Nat} {D : Fls} (h : nx ≠ none ∧ nx ≠ some n) : goW room p nx (n :: ns) D = (0, delAllW p (n :: ns) D, []) := by rw [goW, if_pos h]
theorem goW_all {room : Nat} {p : Bt} {nx : Option Nat} {n : Nat} {ns : List Nat} {D : Fls} (h : ¬ (nx ≠ none ∧ nx ≠ some n)) (h2 : ¬ goodB (scanB (bytesOf (nameW p n) D)) < (bytesOf (nameW p n) D).length) :
    goW room p nx (n :: ns) D = consW [⟨n, scanB (bytesOf (nameW p n) D)⟩] (goW room p (some (n + (scanB (bytesOf (nameW p n) D)).length)) ns D) := by rw [goW, if_neg h]; simp only [if_neg h2]; rfl
theorem goW_cut {room : Nat} {p : Bt} {nx : Option Nat} {n : Nat} {ns : List Nat} {D : Fls} (h : ¬ (nx ≠ none ∧ nx ≠ some n)) (h2 : goodB (scanB (bytesOf (nameW p n) D)) < (bytesOf (nameW p n) D).length) :
    goW room p nx (n :: ns) D = if (anewW room D p n ((bytesOf (nameW p n) D).take (goodB (scanB (bytesOf (nameW p n) D))))).1 = 0 then (0, delAllW p ns (anewW room D p n ((bytesOf (nameW p n) D).take (goodB (scanB (bytesOf (nameW p n) D))))).2, [⟨n, scanB (bytesOf (nameW p n) D)⟩])
      else ((anewW room D p n ((bytesOf (nameW p n) D).take (goodB (scanB (bytesOf (nameW p n) D))))).1, (anewW room D p n ((bytesOf (nameW p n) D).take (goodB (scanB (bytesOf (nameW p n) D))))).2, []) := by rw [goW, if_neg h]; simp only [if_pos h2]
def nxOf (F : List WF) : Option Nat := if F = [] then none else some (nextW F)
theorem nxOf_snoc (F : List WF) (f : WF) : nxOf (F ++ [f]) = some f.next := by rw [nxOf, if_neg (by simp), nextW_snoc]
theorem delAll_cons (p : Bt) (n : Nat) (ns : List Nat) (D : Fls) : delAllW p (n :: ns) D = delAllW p ns (removeD D (nameW p n)).2 := rfl
theorem list_len (D : Fls) (p : Bt) : (listD D p).length ≤ D.length := by
  have := List.length_filter_le (fun s => p.isPrefixOf s) (D.map (·.name))
  rw [List.length_map] at this
  exact this
theorem remove_len (D : Fls) (n : Bt) : (removeD D n).2.length ≤ D.length := by
  unfold removeD
  split
  · exact Nat.le_refl _
  · exact List.length_filter_le _ _
theorem list_pref {D : Fls} {p s : Bt} (h : s ∈ listD D p) : ∃ t, s = p ++ t := (pref_iff p s).1 (list_mem.1 h).2
section
variable {B w w' : World} {L M : List HP} {q p most room : Nat} {pre : Bt} {D : Fls} {F : List WF}
def OpenPost (B : World) (L : List HP) (p room most : Nat) (pre : Bt) (D : Fls) (y : Ending) (w' : World) : Prop :=
  ((openW room D pre).1 = 0 ∧ ∃ q, y = .returned (.tuple #[.pointer (some ⟨q, 0, none⟩), .int .i64 0]) ∧ Sat B (wal q p pre most (openW room D pre).2.2 :: disk p room (openW room D pre).2.1 :: L) w') ∨
  ((openW room D pre).1 ≠ 0 ∧ y = .returned (.tuple #[.pointer none, .int .i64 (openW room D pre).1]) ∧ Sat B (disk p room (openW room D pre).2.1 :: L) w')
theorem wal_cells (h : Sat B (wal q p pre most F :: L) w) : w.cell? ⟨q, 0, none⟩ = some (.pointer (some ⟨p, 0, none⟩)) ∧ w.cell? ⟨q, 1, none⟩ = some (.string (bA pre)) := by
  obtain ⟨fv, G, hG, hok, h1⟩ := wal_open h
  exact ⟨h1.pt_cell 0, h1.pt_cell 1⟩
theorem open_done {X : List Nat} {D1 D' : Fls} {G : List WF} (hop : openW room D pre = goW room pre none X D1) (hgo : goW room pre none X D1 = consW F (0, D', G)) (h : Sat B (wal q p pre most (F ++ G) :: disk p room D' :: L) w) : OpenPost B L p room most pre D (.returned (.tuple #[.pointer (some ⟨q, 0, none⟩), .int .i64 0])) w := by
  have e : openW room D pre = (0, D', F ++ G) := by rw [hop, hgo]; rfl
  unfold OpenPost
  rw [e]
  exact .inl ⟨rfl, q, rfl, h⟩
theorem delAll_snoc (p : Bt) (n : Nat) (ns : List Nat) (D : Fls) : delAllW p (ns ++ [n]) D = (removeD (delAllW p ns D) (nameW p n)).2 := by simp [delAllW]
theorem psScan2 {s : Bt} {rs : List Bt} {gd : Nat} (hs : s.length ≤ 1099511627776) (hrs : scanB s = rs) (hgd : goodB rs = gd) (h : Sat B L w) : Calls Tryz.prog 18 #[.string (bA s)] w fun y w' => ∃ v, y = .returned (.tuple #[v, .int .i64 (gd : Int)]) ∧ Sat B (row 9 1 v rs.length (strB rs) :: L) w' := by
  subst hrs
  subst hgd
  exact psScan s hs h
theorem open_fail {X : List Nat} {D1 D' : Fls} {G : List WF} {e : Int} (he : e ≠ 0) (hop : openW room D pre = goW room pre none X D1) (hgo : goW room pre none X D1 = consW F (e, D', G)) (h : Sat B (disk p room D' :: L) w) : OpenPost B L p room most pre D (.returned (.tuple #[.pointer none, .int .i64 e])) w := by
  have e1 : openW room D pre = (e, D', F ++ G) := by rw [hop, hgo]; rfl
  unfold OpenPost
  rw [e1]
  exact .inr ⟨he, rfl, h⟩
theorem wal_set {fv v : Value} {e : TypeId} {n m : Nat} {o : Obj} {xs : List Value} (h : Sat B (row e 3 v n xs :: pt m o :: pt q (wlC p pre most fv) :: L) w) : Sat B (pt q (wlC p pre most v) :: row e 3 v n xs :: L) (w.setCell ⟨q, 3, none⟩ v) := by
  have h1 := h.p2.set (j := 3) v
  exact h1.p2.drop
/-- A file more. -/
theorem wal_more {v fv' : Value} {G : List (WF × Value)} {f : WF} (hG : G.map (·.1) = F) (hok : WOk pre F) (hf : 1 ≤ f.first ∧ f.first ≤ 1000000000000000) (hr : f.size ≤ 1099511627776) (hn : F.length + 1 ≤ 1000000)
    (h : Sat B (pt q (wlC p pre most fv') :: row 87 3 fv' (G.length + 1) (G.flatMap wfC ++ wfC (f, v)) :: stars (G.map recP) :: row 9 1 v f.recs.length (strB f.recs) :: L) w) : Sat B (wal q p pre most (F ++ [f]) :: L) w := by
  refine wal_close (G := G ++ [(f, v)]) (fv := fv') (by rw [List.map_append, hG]; rfl) ⟨hok.pre, fun g hg => ?_, fun g hg => ?_, by simp; omega⟩ ?_
  · rcases List.mem_append.1 hg with h | h
    · exact hok.first g h
    · obtain rfl := List.mem_singleton.1 h; exact hf
  · rcases List.mem_append.1 hg with h | h
    · exact hok.recs g h
    · obtain rfl := List.mem_singleton.1 h; exact hr
  · have h1 := h.p3
    have h2 : Sat B (stars (G.map recP) :: row 9 1 v f.recs.length (strB f.recs) :: pt q (wlC p pre most fv') :: row 87 3 fv' (G.length + 1) (G.flatMap wfC ++ wfC (f, v)) :: L) w := h.p2.p3.swap
    have h3 : Sat B (stars (G.map recP ++ [recP (f, v)]) :: pt q (wlC p pre most fv') :: row 87 3 fv' (G.length + 1) (G.flatMap wfC ++ wfC (f, v)) :: L) w := by
      refine Sat.mid' (L2 := []) ?_
      rw [List.append_nil]
      exact h2.swap
    have h4 := h3.q2
    rw [List.flatMap_append, List.length_append, List.map_append]
    exact h4
theorem wal_more2 {fv' : Value} {va : Option Addr} {vc x gd rl : Nat} {rs : List Bt} {G : List (WF × Value)} (hG : G.map (·.1) = F) (hok : WOk pre F) (hf : 1 ≤ x ∧ x ≤ 1000000000000000) (hr : gd ≤ 1099511627776) (hn : F.length + 1 ≤ 1000000) (hg : goodB rs = gd) (hl : rs.length = rl)
    (h : Sat B (pt q (wlC p pre most fv') :: row 87 3 fv' (G.length + 1) (G.flatMap wfC ++ [.int .u64 (x : Int), .int .i64 (gd : Int), .slice va rl vc]) :: stars (G.map recP) :: row 9 1 (.slice va rl vc) rl (strB rs) :: L) w) : Sat B (wal q p pre most (F ++ [⟨x, rs⟩]) :: L) w := by
  subst hg
  subst hl
  exact wal_more (f := ⟨x, rs⟩) (v := .slice va rs.length vc) hG hok hf hr hn h
/-- 'Open'. -/
theorem pwOpenU (hE : Env B) (hp : pre.length ≤ 48) (hm1 : 1 ≤ most) (hm2 : most ≤ 9223372036854775807) (hlen : D.length ≤ 1000000) (hused : usedD D ≤ 1099511627776) (h : Sat B (disk p room D :: L) w) :
    Calls Tryz.prog 8 #[.pointer (some ⟨p, 0, none⟩), .string (bA pre), .int .i64 (most : Int)] w (OpenPost B L p room most pre D) := by
  have hzp : (bA pre).size = pre.length := by simp [ByteArray.size]
  have hzt : ¬ 9223372036854775807 < pre.length + 3 := by omega
  have hcat : bA pre ++ ⟨#[116, 109, 112]⟩ = bA (tmpW pre) := by rw [show (⟨#[116, 109, 112]⟩ : ByteArray) = bA [116, 109, 112] from rfl, ba_add]; rfl
  have b1 : (pre.length : Int) ≤ 48 := by omega
  have b2 : ¬ (most : Int) < 1 := by omega
  have b3 : ¬ (pre.length : Int) > 48 := by omega
  obtain ⟨q, hq⟩ : ∃ q, w.heap.size = q := ⟨_, rfl⟩
  have h1 := h.alloc' (.cells #[.pointer (some ⟨p, 0, none⟩), .string (bA pre), .int .i64 (most : Int), .slice none 0 0] 77) (n := q) hq.symm
  obtain ⟨D1, hD1⟩ : ∃ D1, (removeD D (tmpW pre)).2 = D1 := ⟨_, rfl⟩
  go_enter Tryz.func8, Tryz.ntmps8
  go_wp2_with fail
  go_step3
  go_wp2_with fail
  have h2 := h1.swap
  refine (pdRemove (tmpW pre) h2).mono ?_
  rintro y w1 ⟨rfl, h3⟩
  rw [hD1] at h3
  go_wp2_with fail
  have hl1 : D1.length ≤ 1000000 := by rw [← hD1]; exact Nat.le_trans (remove_len _ _) hlen
  have hok1 := disk_ok h3
  refine (pdList pre h3 hl1).mono ?_
  rintro y w2 ⟨vn, rfl, h4⟩
  obtain ⟨ns, hns⟩ : ∃ ns, listD D1 pre = ns := ⟨_, rfl⟩
  have hnm : ∀ s ∈ ns, (∃ t, s = pre ++ t) ∧ s.length ≤ 64 := fun s hs => by
    rw [← hns] at hs
    refine ⟨list_pref hs, ?_⟩
    obtain ⟨f, hf, rfl⟩ := List.mem_map.1 (List.mem_filter.1 hs).1
    exact hok1.names f hf
  have hnl : ns.length ≤ 1000000 := by rw [← hns]; exact Nat.le_trans (list_len _ _) hl1
  rw [hns] at h4
  obtain ⟨a, c, rfl, ha, _, hc, _⟩ := h4.row_reads
  obtain ⟨n, hn⟩ : ∃ n, ns.length = n := ⟨_, rfl⟩
  have hop : openW room D pre = goW room pre none (numsOf pre ns) D1 := by rw [← hns, numsOf_all, ← hD1]; rfl
  have h5 : Sat B (row 35 1 (.slice none 0 0) 0 (u64s []) :: row 9 1 (.slice a ns.length c) ns.length (strB ns) :: disk p room D1 :: pt q (wlC p pre most (.slice none 0 0)) :: L) w2 := Sat.row_nil h4 _ _
  rw [hn] at h5 hnl ⊢
  have n1 : (n : Int) ≤ 1000000 := by omega
  have Hop := Lib.hid hop
  have Hnm := Lib.hid hnm
  have Hok1 := Lib.hid hok1
  have Hn := Lib.hid hn
  have Hns := Lib.hid hns
  have Hl1 := Lib.hid hl1
  have hU1 : usedD D1 ≤ 1099511627776 := by rw [← hD1]; exact Nat.le_trans (used_remove_le (disk_ok h)) hused
  have Hroom := Lib.hid hU1
  clear h h1 h2 h3 h4 hop hnm hok1 hn hns hl1 hD1 hq hlen hc ha hzt hcat hused hU1
  go_wp2_with fail
  go_loopg [9, 45] (n + 1) (fun gh v9 v45 wr => ∃ i : Nat, i ≤ n ∧ n + 1 ≤ i + gh ∧ v45 = .int .i64 (i : Int) ∧ Sat B (row 35 1 v9 (numsOf pre (ns.take i)).length (u64s (numsOf pre (ns.take i))) :: row 9 1 (.slice a n c) n (strB ns) :: disk p room D1 :: pt q (wlC p pre most (.slice none 0 0)) :: L) wr)
  case atStart => exact ⟨0, by omega, by omega, rfl, h5⟩
  case round =>
    obtain ⟨i, hi1, hi2, rfl, h6⟩ := hrel
    by_cases hi : i < n
    · obtain ⟨s, hs⟩ : ∃ s, ns[i]? = some s := ⟨_, List.getElem?_eq_getElem (by rw [Hn.out]; exact hi)⟩
      have hmem : s ∈ ns := List.mem_of_getElem? hs
      obtain ⟨⟨t, rfl⟩, hsl⟩ := Hnm.out s hmem
      rw [List.length_append] at hsl
      obtain ⟨a', c', he, _, _, _, hc'⟩ := h6.swap.row_reads
      cases he
      obtain ⟨g, off, rfl, hcell⟩ := hc' i _ (strB_get hs)
      have htk : ns.take (i + 1) = ns.take i ++ [pre ++ t] := by rw [List.take_add_one, hs]; rfl
      have hnum := numsOf_snoc pre (ns.take i) (pre ++ t)
      rw [← htk, List.drop_left] at hnum
      have hzt : (bA (pre ++ t)).size = pre.length + t.length := by simp [ByteArray.size]
      have ex : (bA (pre ++ t)).extract pre.length (pre.length + t.length) = bA t := by
        apply ByteArray.ext
        rw [ByteArray.data_extract]
        simp
      have i1 : (i : Int) < (n : Int) := by omega
      have i2 : ((pre.length + t.length : Nat) : Int) ≤ 64 := by omega
      have hdl : t.length ≤ 9223372036854775807 := by omega
      have Htk := Lib.hid htk
      clear hc' htk hmem hs
      go_wp2_with fail
      refine (pwNumber t hdl h6).mono ?_
      rintro y w3 ⟨rfl, h7⟩
      by_cases hz : 0 < numberB t
      · rw [if_pos hz] at hnum
        obtain ⟨x, hx⟩ : ∃ x, numberB t = x := ⟨_, rfl⟩
        rw [hx] at hnum hz ⊢
        obtain ⟨xs, hxs⟩ : ∃ xs, numsOf pre (ns.take i) = xs := ⟨_, rfl⟩
        have hxl : xs.length ≤ 1000000 := by rw [← hxs]; exact Nat.le_trans (numsOf_len _ _) (by rw [List.length_take]; omega)
        rw [hxs] at h7 hnum
        have hz1 : (0 : Int) < (x : Int) := by omega
        have hz2 : (x : Int) > 0 := by omega
        have h8 := (h7.alloc (.cells #[.int .u64 (x : Int)] 35)).swap
        have b4 : xs.length + 1 ≤ maxLen := by unfold maxLen; omega
        have b5 : (xs.length + 1) * 8 ≤ 140737488355328 := by omega
        have Hnum := Lib.hid hnum
        clear hnum hx hxs
        go_wp2_with (at_builtin; refine wpList_append_row rfl u64Elem (.tmp 56) (.tmp 58) rfl _ _ xs.length 1 (u64s xs) [.int .u64 (x : Int)] rfl rfl h8 (reads_new _ _ rfl (by omega)) rfl (by simp [Value.oneCell']) b4 b5 ?_; intro a' c' w4 h9; go_frame)
        go_roundg (gk - 1)
        case measure => omega
        case rel =>
          refine ⟨i + 1, by omega, by omega, by go_num, ?_⟩
          have h9 : Sat B (row 35 1 (.slice _ (xs.length + 1) _) (xs.length + 1) (u64s xs ++ [.int .u64 (x : Int)]) :: _ :: row 9 1 (.slice (some ⟨g, off, none⟩) n c) n (strB ns) :: disk p room D1 :: pt q (wlC p pre most (.slice none 0 0)) :: L) _ := ‹_›
          rw [Hnum.out]
          have h10 := h9.swap.drop
          rw [List.length_append, List.length_singleton, show u64s (xs ++ [x]) = u64s xs ++ [.int .u64 (x : Int)] by simp [u64s]]
          exact h10
      · rw [if_neg hz, List.append_nil] at hnum
        have hz1 : (numberB t : Int) = 0 := by omega
        rw [hz1]
        have Hnum := Lib.hid hnum
        clear hnum hz1
        go_wp2_with fail
        go_roundg (gk - 1)
        case measure => omega
        case rel =>
          refine ⟨i + 1, by omega, by omega, by go_num, ?_⟩
          rw [Hnum.out]
          exact h7
    · have hin : i = n := by omega
      subst hin
      have htk : ns.take i = ns := List.take_of_length_le (by rw [Hn.out]; exact Nat.le_refl _)
      rw [htk] at h6
      clear htk h5
      have hsrt : (numsOf pre ns).Pairwise (· < ·) := by rw [← Hns.out, numsOf_all]; exact nums_sorted Hok1.out
      have hinR : ∀ x ∈ numsOf pre ns, inR x := fun x hx => by rw [← Hns.out, numsOf_all] at hx; exact ((nums_mem x).1 hx).1
      obtain ⟨xs, hxs⟩ : ∃ xs, numsOf pre ns = xs := ⟨_, rfl⟩
      have hxl : xs.length ≤ 1000000 := by rw [← hxs]; exact Nat.le_trans (numsOf_len _ _) (by rw [Hn.out]; omega)
      rw [hxs] at h6 hsrt hinR
      have hop := Hop.out
      rw [hxs] at hop
      have h7 := (h6.p3.drop)
      have hsort := pSort xs h6 hsrt
      clear hxs h7 Hop
      go_wp2_with fail
      refine hsort.mono ?_
      rintro y w3 ⟨rfl, h7⟩
      clear hsort h6
      -- the log at the start: no file
      have h8 : Sat B (wal q p pre most [] :: row 35 1 u9 xs.length (u64s xs) :: disk p room D1 :: L) w3 := by
        refine wal_close (G := []) (fv := .slice none 0 0) rfl ⟨hp, (fun f hf => by cases hf), (fun f hf => by cases hf), Nat.zero_le _⟩ ?_
        have k1 := h7.swap.drop.p2
        have k2 : Sat B (stars (([] : List (WF × Value)).map recP) :: pt q (wlC p pre most (.slice none 0 0)) :: row 35 1 u9 xs.length (u64s xs) :: disk p room D1 :: L) w3 := Sat.fold (L := []) k1
        have k3 := k2.swap
        exact (Sat.row_nil k3 _ _).swap
      obtain ⟨a, cx, rfl, _, hNc, hcx, _⟩ := h8.swap.row_reads
      obtain ⟨N, hN⟩ : ∃ N, xs.length = N := ⟨_, rfl⟩
      rw [hN] at h8 hxl ⊢
      have n2 : (N : Int) ≤ 1000000 := by omega
      have Hop := Lib.hid hop
      have HN := Lib.hid hN
      have HinR := Lib.hid hinR
      have hcx : cx ≤ 9223372036854775807 := by have := hcx; unfold maxLen at this; omega
      clear h7 hop hN hinR hsrt
      go_wp2_with fail
      go_step3
      go_wp2_with fail
      go_loopg [65] (N + 1) (fun gh v65 wr => ∃ (j : Nat) (F : List WF), j ≤ N ∧ N + 1 ≤ j + gh ∧ v65 = .int .i64 (j : Int) ∧ F.length = j ∧ goW room pre none xs D1 = consW F (goW room pre (nxOf F) (xs.drop j) D1) ∧ Sat B (wal q p pre most F :: row 35 1 (.slice a N cx) N (u64s xs) :: disk p room D1 :: L) wr)
      case atStart => exact ⟨0, [], by omega, by omega, rfl, rfl, rfl, h8⟩
      case round =>
        clear h8 hi2
        obtain ⟨j, F, hj1, hj2, rfl, hF, hgo, h9⟩ := hrel
        by_cases hj : j < N
        · obtain ⟨x, hx⟩ : ∃ x, xs[j]? = some x := ⟨_, List.getElem?_eq_getElem (by rw [HN.out]; exact hj)⟩
          have hxR := HinR.out x (List.mem_of_getElem? hx)
          have hdr : xs.drop j = x :: xs.drop (j + 1) := by
            obtain ⟨hlt, e⟩ := List.getElem?_eq_some_iff.1 hx
            rw [List.drop_eq_getElem_cons hlt, e]
          rw [hdr] at hgo
          obtain ⟨a', c', he, _, _, _, hc'⟩ := h9.swap.row_reads
          cases he
          obtain ⟨g, off, rfl, hcell⟩ := hc' j (.int .u64 (x : Int)) (by rw [u64s, List.getElem?_map, hx]; rfl)
          have hnext := pwNext h9
          have hx1 := hxR.1
          have hx2 := hxR.2
          have j1 : (j : Int) < (N : Int) := by omega
          clear hc' hx
          by_cases hends : nxOf F ≠ none ∧ nxOf F ≠ some x
          · have hF0 : F ≠ [] := fun e => hends.1 (by rw [nxOf, if_pos e])
            have hne : nextW F ≠ x := fun e => hends.2 (by rw [nxOf, if_neg hF0, e])
            have hj0 : 0 < j := by rw [← hF]; exact List.length_pos_iff.2 hF0
            have e1 := goW_end (room := room) (p := pre) (ns := xs.drop (j + 1)) (D := D1) hends
            rw [e1] at hgo
            have j2 : (0 : Int) < (j : Int) := by omega
            have j3 : ((x : Int) != (nextW F : Int)) = true := by simp; omega
            have j4 : ((x : Int) == (nextW F : Int)) = false := by simp; omega
            have Hgo := Lib.hid hgo
            clear hgo e1 hne hends hF0 hF
            obtain ⟨nx, hnx⟩ : ∃ nx, nextW F = nx := ⟨_, rfl⟩
            rw [hnx] at hnext j3 j4
            go_wp2_with (go_at_call 14; refine hnext.mono ?_; rintro y w4 ⟨rfl, k4, rfl⟩)
            obtain ⟨X, hX⟩ : ∃ X, xs.drop j = X := ⟨_, rfl⟩
            have hXl : X.length = N - j := by rw [← hX, List.length_drop, HN.out]
            have hXg : ∀ m y, X[m]? = some y → xs[j + m]? = some y ∧ inR y := fun m y hm => by
              rw [← hX, List.getElem?_drop] at hm
              exact ⟨hm, HinR.out y (List.mem_of_getElem? hm)⟩
            have hgo2 := Hgo.out
            rw [← hdr, hX] at hgo2
            have Hgo2 := Lib.hid hgo2
            have HXg := Lib.hid hXg
            obtain ⟨Z, hZ⟩ : ∃ Z, N - j = Z := ⟨_, rfl⟩
            rw [hZ] at hXl
            have hZ2 : (N : Int) - (j : Int) = (Z : Int) := by omega
            rw [hZ]
            have h10 := h9.drewN k4
            have z1 : (Z : Int) ≤ 1000000 := by omega
            have hXl' : X.length = Z := hXl
            clear hgo2 hX hXg Hgo hdr
            go_loopg [128] (Z + 1) (fun gh v128 wz => ∃ m : Nat, m ≤ Z ∧ Z + 1 ≤ m + gh ∧ v128 = .int .i64 (m : Int) ∧ Sat B (wal q p pre most F :: row 35 1 (.slice (some ⟨g, off, none⟩) N cx) N (u64s xs) :: disk p room (delAllW pre (X.take m) D1) :: L) wz)
            case atStart => exact ⟨0, by omega, by omega, rfl, h10⟩
            case round =>
              obtain ⟨m, hm1, hm2, rfl, h11⟩ := hrel
              by_cases hm : m < Z
              · obtain ⟨y, hy⟩ : ∃ y, X[m]? = some y := ⟨_, List.getElem?_eq_getElem (by rw [hXl]; exact hm)⟩
                obtain ⟨hy1, hyR⟩ := HXg.out m y hy
                obtain ⟨a', c', he, _, _, _, hc'⟩ := h11.swap.row_reads
                cases he
                obtain ⟨g', off', he, hcy⟩ := hc' (j + m) (.int .u64 (y : Int)) (by rw [u64s, List.getElem?_map, hy1]; rfl)
                cases he
                have htk : X.take (m + 1) = X.take m ++ [y] := by rw [List.take_add_one, hy]; rfl
                have m1 : (m : Int) < (Z : Int) := by omega
                have hcy : wr.cell? ⟨g, off + j + m, none⟩ = some (.int .u64 (y : Int)) := by rw [Nat.add_assoc]; exact hcy
                have hnm := pwName (q := q) hE y hyR.2 h11 (fun w' h' => (wal_cells h').2) hp
                have Htk := Lib.hid htk
                clear hc' hy hy1 htk
                go_wp2_with fail
                refine hnm.mono ?_
                rintro e w5 ⟨rfl, h12⟩
                go_wp2_with fail
                refine (pdRemove (nameW pre y) h12.p2).mono ?_
                rintro e w6 ⟨rfl, h13⟩
                go_wp2_with fail
                go_roundg (gk - 1)
                case measure => omega
                case rel =>
                  refine ⟨m + 1, by omega, by omega, by go_num, ?_⟩
                  rw [Htk.out, delAll_snoc]
                  exact h13.q2
              · have hm : m = Z := by omega
                subst hm
                rw [List.take_of_length_le (by omega)] at h11
                go_wp2_with fail
                go_ret2
                refine open_done (F := F) (G := []) Hop.out Hgo2.out ?_
                rw [List.append_nil]
                exact h11.swap.drop
          · have hcase : ¬ 0 < j ∨ (0 < j ∧ nextW F = x) := by
              by_cases hF0 : F = []
              · exact .inl (by rw [← hF, hF0]; simp)
              · refine .inr ⟨by rw [← hF]; exact List.length_pos_iff.2 hF0, ?_⟩
                by_cases e : nextW F = x
                · exact e
                · exact absurd ⟨by rw [nxOf, if_neg hF0]; simp, by rw [nxOf, if_neg hF0]; simpa using e⟩ hends
            obtain ⟨s, hs⟩ : ∃ s, bytesOf (nameW pre x) D1 = s := ⟨_, rfl⟩
            have hsl : s.length ≤ 1099511627776 := by rw [← hs]; exact Nat.le_trans (bytes_le D1 _ Hok1.out.srt) Hroom.out
            obtain ⟨rs, hrs⟩ : ∃ rs, scanB s = rs := ⟨_, rfl⟩
            obtain ⟨gd, hgd⟩ : ∃ gd, goodB rs = gd := ⟨_, rfl⟩
            have hgs : gd ≤ s.length := by rw [← hgd, ← hrs]; exact (scan_good s.length s (Nat.le_refl _)).1
            have hca := goW_all (room := room) (p := pre) (ns := xs.drop (j + 1)) (D := D1) hends
            have hcc := goW_cut (room := room) (p := pre) (ns := xs.drop (j + 1)) (D := D1) hends
            rw [hs, hrs, hgd] at hca hcc
            have Hs := Lib.hid hs
            have Hrs := Lib.hid hrs
            have Hgd := Lib.hid hgd
            have HF := Lib.hid hF
            have Hca := Lib.hid hca
            have Hcc := Lib.hid hcc
            have Hgo := Lib.hid hgo
            have Hdr := Lib.hid hdr
            have hsz : (bA s).size = s.length := by simp [ByteArray.size]
            clear hs hrs hgd hF hca hcc hgo hdr hends
            rcases hcase with hj0 | ⟨hj0, hnx⟩
            case' inl =>
              have j2 : ¬ (0 : Int) < (j : Int) := by omega
              go_wp2_with fail
              have h10 := h9
            case' inr =>
              have j2 : (0 : Int) < (j : Int) := by omega
              rw [hnx] at hnext
              go_wp2_with (go_at_call 14; refine hnext.mono ?_; rintro y w4 ⟨rfl, k4, rfl⟩)
              have h10 := h9.drewN k4
            all_goals
              have hnm := pwName (q := q) hE x hx2 h10 (fun w' h' => (wal_cells h').2) hp
              go_wp2_with fail
              refine hnm.mono ?_
              rintro e w5 ⟨rfl, h11⟩
              have hrd := pdRead (nameW pre x) h11.p2
              rw [read_bytes, Hs.out] at hrd
              have hsc := psScan2 hsl Hrs.out Hgd.out h11
              go_wp2_with fail
              refine hrd.mono ?_
              rintro e w6 ⟨rfl, rfl⟩
              go_wp2_with fail
              refine hsc.mono ?_
              rintro e w7 ⟨v, rfl, h12⟩
              obtain ⟨va, vc, rfl, _⟩ := h12.row_reads
              obtain ⟨rl, hrl⟩ : ∃ rl, rs.length = rl := ⟨_, rfl⟩
              rw [hrl] at h12 ⊢
              have Hrl := Lib.hid hrl
              clear hrl
              by_cases hlt : gd < s.length
              · have c1 : (gd : Int) < (s.length : Int) := by omega
                have ex : (bA s).extract 0 gd = bA (s.take gd) := by
                  apply ByteArray.ext
                  rw [ByteArray.data_extract]
                  simp
                have htl : (s.take gd).length ≤ 9223372036854775807 := by rw [List.length_take]; omega
                have han := pwAnew hE (fun D' w' h' => wal_cells h'.p2) ⟨hx1, hx2⟩ hp htl h12.p3
                have hcc := Hcc.out hlt
                obtain ⟨an, han0⟩ : ∃ an, anewW room D1 pre x (s.take gd) = an := ⟨_, rfl⟩
                obtain ⟨en, Da⟩ := an
                rw [han0] at han hcc
                simp only at han hcc
                clear h9 h10 h11 h12 hnm hrd hsc han0
                by_cases hen : en = 0
                · subst hen
                  rw [if_pos rfl] at hcc
                  have Hgo3 := Lib.hid (show goW room pre none xs D1 = consW F (0, delAllW pre (xs.drop (j + 1)) Da, [⟨x, rs⟩]) by rw [Hgo.out, hcc])
                  clear hcc
                  go_wp2_with fail
                  refine han.mono ?_
                  rintro e w8 ⟨rfl, h20⟩
                  obtain ⟨fv, G, hG, hok, h13⟩ := wal_open h20.q3.swap
                  have hGl : G.length = j := by rw [← HF.out, ← hG, List.length_map]
                  clear han
                  have hNc2 : N ≤ cx := by rw [← HN.out]; exact hNc
                  have c3 := h13.pt_cell 3
                  have h14 := (h13.alloc (.cells #[.int .u64 (x : Int), .int .i64 (gd : Int), .slice va rl vc] 87)).p2
                  have b4 : G.length + 1 ≤ maxLen := by unfold maxLen; omega
                  have b5 : (G.length + 1) * 40 ≤ 140737488355328 := by omega
                  have hone : ∀ u ∈ [Value.int .u64 (x : Int), .int .i64 (gd : Int), .slice va rl vc], u.oneCell' = true := by
                    intro u hu
                    simp only [List.mem_cons, List.not_mem_nil, or_false] at hu
                    rcases hu with rfl | rfl | rfl
                    · rfl
                    · rfl
                    · rfl
                  have hrn : reads (w8.alloc (.cells #[.int .u64 (x : Int), .int .i64 (gd : Int), .slice va rl vc] 87)) (.slice (some ⟨w8.heap.size, 0, none⟩) 1 1) 1 [.int .u64 (x : Int), .int .i64 (gd : Int), .slice va rl vc] := reads_new _ _ rfl (by omega)
                  go_wp2_with (at_builtin; refine wpList_append_row rfl fileElem (.tmp 112) (.tmp 118) rfl fv _ G.length 1 (G.flatMap wfC) [.int .u64 (x : Int), .int .i64 (gd : Int), .slice va rl vc] rfl rfl h14 hrn rfl hone b4 b5 ?_; intro a' c' w9 h16; have k3 := h16.p2.pt_cell 3; have f3 := h16.p2.pt_free 3; go_frame)
                  all_goals
                    have h16 : Sat B (row 87 3 (.slice _ (G.length + 1) _) (G.length + 1) (G.flatMap wfC ++ [.int .u64 (x : Int), .int .i64 (gd : Int), .slice va rl vc]) :: pt w8.heap.size _ :: pt q (wlC p pre most fv) :: stars (G.map recP) :: row 9 1 (.slice va rl vc) rl (strB rs) :: row 35 1 (.slice (some ⟨g, off, none⟩) N _) N (u64s xs) :: disk p room Da :: L) _ := ‹_›
                    have h17 := wal_set h16
                    have h18 := wal_more2 hG hok ⟨hx1, hx2⟩ (show gd ≤ 1099511627776 by omega) (by rw [HF.out]; omega) Hgd.out Hrl.out h17
                    rw [hGl] at h18
                    obtain ⟨X, hX⟩ : ∃ X, xs.drop (j + 1) = X := ⟨_, rfl⟩
                    have hXl : X.length = N - (j + 1) := by rw [← hX, List.length_drop, HN.out]
                    have hXg : ∀ m y, X[m]? = some y → xs[j + 1 + m]? = some y ∧ inR y := fun m y hm => by
                      rw [← hX, List.getElem?_drop] at hm
                      exact ⟨hm, HinR.out y (List.mem_of_getElem? hm)⟩
                    have hgo2 := Hgo3.out
                    rw [hX] at hgo2
                    have Hgo2 := Lib.hid hgo2
                    have HXg := Lib.hid hXg
                    obtain ⟨Z, hZ⟩ : ∃ Z, N - (j + 1) = Z := ⟨_, rfl⟩
                    rw [hZ] at hXl
                    try rw [hZ]
                    have h10 := h18
                    have z1 : (Z : Int) ≤ 1000000 := by omega
                    have hXl' : X.length = Z := hXl
                    clear hgo2 hX hXg
                    go_loopg [128] (Z + 1) (fun gh v128 wz => ∃ (m cz : Nat), m ≤ Z ∧ Z + 1 ≤ m + gh ∧ v128 = .int .i64 (m : Int) ∧ Sat B (wal q p pre most (F ++ [⟨x, rs⟩]) :: row 35 1 (.slice (some ⟨g, off, none⟩) N cz) N (u64s xs) :: disk p room (delAllW pre (X.take m) Da) :: L) wz)
                    case atStart => exact ⟨0, _, by omega, by omega, rfl, h10⟩
                    case round =>
                      obtain ⟨m, cz, hm1, hm2, rfl, h11⟩ := hrel
                      by_cases hm : m < Z
                      · by_cases hz0 : N ≤ j + 1
                        · exact absurd hm (by omega)
                        all_goals try (exfalso; omega)
                        all_goals
                          obtain ⟨y, hy⟩ : ∃ y, X[m]? = some y := ⟨_, List.getElem?_eq_getElem (by rw [hXl]; exact hm)⟩
                          obtain ⟨hy1, hyR⟩ := HXg.out m y hy
                          obtain ⟨a', c', he, _, _, _, hc'⟩ := h11.swap.row_reads
                          cases he
                          obtain ⟨g', off', he, hcy⟩ := hc' (j + 1 + m) (.int .u64 (y : Int)) (by rw [u64s, List.getElem?_map, hy1]; rfl)
                          cases he
                          have htk : X.take (m + 1) = X.take m ++ [y] := by rw [List.take_add_one, hy]; rfl
                          have m1 : (m : Int) < (Z : Int) := by omega
                          have hcy : wr.cell? ⟨g, off + (j + 1) + m, none⟩ = some (.int .u64 (y : Int)) := by rw [Nat.add_assoc]; exact hcy
                          have hnm := pwName (q := q) hE y hyR.2 h11 (fun w' h' => (wal_cells h').2) hp
                          have Htk := Lib.hid htk
                          clear hc' hy hy1 htk
                          go_wp2_with fail
                          refine hnm.mono ?_
                          rintro e w5 ⟨rfl, h12⟩
                          go_wp2_with fail
                          refine (pdRemove (nameW pre y) h12.p2).mono ?_
                          rintro e w6 ⟨rfl, h13⟩
                          go_wp2_with fail
                          go_roundg (gk - 1)
                          case measure => omega
                          case rel =>
                            refine ⟨m + 1, cz, by omega, by omega, by go_num, ?_⟩
                            rw [Htk.out, delAll_snoc]
                            exact h13.q2
                      · have hm : m = Z := by omega
                        subst hm
                        rw [List.take_of_length_le (by omega)] at h11
                        go_wp2_with fail
                        go_ret2
                        refine open_done (F := F) (G := [⟨x, rs⟩]) Hop.out Hgo2.out ?_
                        exact h11.swap.drop
                · rw [if_neg hen] at hcc
                  have hgo3 : goW room pre none xs D1 = consW F (en, Da, []) := by rw [Hgo.out, hcc]
                  have Hgo3 := Lib.hid hgo3
                  have hen1 : (en != 0) = true := by simpa using hen
                  have hen2 : (en == 0) = false := by simpa using hen
                  clear hcc hgo3
                  go_wp2_with fail
                  refine han.mono ?_
                  rintro e w8 ⟨rfl, h20⟩
                  go_wp2_with fail
                  go_ret2
                  exact open_fail (F := F) (G := []) hen Hop.out Hgo3.out h20.swap.drop.swap.drop.swap.drop
              · have c1 : ¬ (gd : Int) < (s.length : Int) := by omega
                obtain ⟨fv, G, hG, hok, h13⟩ := wal_open h12.swap
                have hGl : G.length = j := by rw [← HF.out, ← hG, List.length_map]
                clear h9 h10 h11 h12 hnm hrd hsc
                have c3 := h13.pt_cell 3
                have h14 := (h13.alloc (.cells #[.int .u64 (x : Int), .int .i64 (gd : Int), .slice va rl vc] 87)).p2
                have b4 : G.length + 1 ≤ maxLen := by unfold maxLen; omega
                have b5 : (G.length + 1) * 40 ≤ 140737488355328 := by omega
                have hone : ∀ u ∈ [Value.int .u64 (x : Int), .int .i64 (gd : Int), .slice va rl vc], u.oneCell' = true := by
                  intro u hu
                  simp only [List.mem_cons, List.not_mem_nil, or_false] at hu
                  rcases hu with rfl | rfl | rfl
                  · rfl
                  · rfl
                  · rfl
                have hrn : reads (w7.alloc (.cells #[.int .u64 (x : Int), .int .i64 (gd : Int), .slice va rl vc] 87)) (.slice (some ⟨w7.heap.size, 0, none⟩) 1 1) 1 [.int .u64 (x : Int), .int .i64 (gd : Int), .slice va rl vc] := reads_new _ _ rfl (by omega)
                go_wp2_with (at_builtin; refine wpList_append_row rfl fileElem (.tmp 112) (.tmp 118) rfl fv _ G.length 1 (G.flatMap wfC) [.int .u64 (x : Int), .int .i64 (gd : Int), .slice va rl vc] rfl rfl h14 hrn rfl hone b4 b5 ?_; intro a' c' w8 h16; have k3 := h16.p2.pt_cell 3; have f3 := h16.p2.pt_free 3; go_frame)
                have h16 : Sat B (row 87 3 (.slice _ (G.length + 1) _) (G.length + 1) (G.flatMap wfC ++ [.int .u64 (x : Int), .int .i64 (gd : Int), .slice va rl vc]) :: pt w7.heap.size _ :: pt q (wlC p pre most fv) :: stars (G.map recP) :: row 9 1 (.slice va rl vc) rl (strB rs) :: row 35 1 (.slice (some ⟨g, off, none⟩) N cx) N (u64s xs) :: disk p room D1 :: L) _ := ‹_›
                have h17 := wal_set h16
                have h18 := wal_more2 hG hok ⟨hx1, hx2⟩ (show gd ≤ 1099511627776 by omega) (by rw [HF.out]; omega) Hgd.out Hrl.out h17
                rw [hGl] at h18
                go_roundg (gk - 1)
                case measure => omega
                case rel => exact ⟨j + 1, F ++ [⟨x, rs⟩], by omega, by omega, by go_num, by simp [HF.out], by rw [Hgo.out, Hca.out hlt, consW_cons, nxOf_snoc], h18⟩
        · have hj : j = N := by omega
          subst hj
          rw [List.drop_of_length_le (by rw [HN.out]; exact Nat.le_refl _)] at hgo
          go_wp2_with fail
          go_ret2
          refine open_done (F := F) (G := []) Hop.out (show _ = consW F (0, D1, []) from hgo) ?_
          rw [List.append_nil]
          exact h9.swap.drop
end
end Go.Proofs.YtdngjkjoahgelaaGreatDoor
