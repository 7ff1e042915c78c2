/-
  script.Event: contract. script.Event of an answer, and of any event: contract. The document's Event: contract. (Printed by a program.)
-/
import Derived.Test.YtcjindifdghpgaaGreatDoorEvA
import Derived.Test.YtcjindifdghpgaaGreatDoorOpsCE
import Derived.Deep.RegionHeld3
import Derived.Deep.RegionLaw
import Derived.Test.YtcjindifdghpgaaGreatDoorScr4
namespace Go.Proofs.YtcjindifdghpgaaGreatDoor
set_option linter.all false
open Go.RowKit
section
variable {B w : World} {L : List HP}
/-- An event's cells. -/
abbrev evC (cl : Int) (sq : Nat) (call : Bool) (k : Int) (r c v : ByteArray) (has : Bool) (e : ByteArray) (er : Int) (found : Bool) (rr rv : ByteArray) (ver : Nat) : Array Value :=
  #[.int .i64 cl, .int .u64 sq, .bool call, .int .i64 k, .string r, .string c, .string v, .bool has, .string e, .int .i64 er, .bool found, .string rr, .string rv, .int .u64 ver]
def evOk (cl : Int) (sq : Nat) : Bool := decide (0 ≤ cl ∧ cl < 4) && decide (1 ≤ sq ∧ sq ≤ 1099511627776)
abbrev wCall : Bs := [99, 97, 108, 108]
abbrev wAnswer : Bs := [97, 110, 115, 119, 101, 114]
abbrev wFound : Bs := [102, 111, 117, 110, 100]
/-- An event's words. -/
def callW (cl : Int) (sq : Nat) (t : Bs) : List Bs := [Lib.decDigits cl.toNat, Lib.decDigits sq, wCall, t]
def ansW (cl : Int) (sq : Nat) (er : Int) (found : Bool) (rr rv : Bs) (ver : Nat) : List Bs :=
  [Lib.decDigits cl.toNat, Lib.decDigits sq, wAnswer, Lib.decDigits er.toNat, if found = true then wFound else [110, 111, 110, 101], wordL rr, wordL rv, Lib.decDigits ver]
/-- What Event answers. -/
def evT (cl : Int) (sq : Nat) (call : Bool) (k : Int) (r c v : ByteArray) (has : Bool) (e : ByteArray) (er : Int) (found : Bool) (rr rv : ByteArray) (ver : Nat) : Bs × Int :=
  if evOk cl sq = true then
    if call = true then
      if mayOp k r.data.toList c.data.toList v.data.toList has e.data.toList = true then (Lib.join (callW cl sq (opLine k r.data.toList c.data.toList v.data.toList has e.data.toList)) [32], 0) else ([], 2)
    else if mayRes er rr rv ver = true then (Lib.join (ansW cl sq er found rr.data.toList rv.data.toList ver) [32], 0) else ([], 2)
  else ([], 2)
def evV (x : Bs × Int) : Ending := .returned (.tuple #[.string ⟨x.1.toArray⟩, .int .i64 x.2])
theorem pjoin2 (g o n cc : Nat) (ws : List Bs) (hn : ws.length = n) (hcc : n ≤ cc) (hl : (Lib.join ws [32]).length ≤ 1000000) (hw : n ≤ 10) (h : Sat B (row 9 1 (.slice (some ⟨g, o, none⟩) n cc) n (strL ws) :: L) w) (h0 : 0 < n) :
    Calls Tryz.prog 39 #[.slice (some ⟨g, o, none⟩) n cc, .string ⟨#[32]⟩] w fun y w' => y = .returned (.string ⟨(Lib.join ws [32]).toArray⟩) ∧ Sat B L w' := by
  have hx : (ws.map fun b => (⟨b.toArray⟩ : ByteArray)).map (·.data.toList) = ws := by rw [List.map_map]; exact List.map_id'' (fun _ => rfl) ws
  have hlen : (ws.map fun b => (⟨b.toArray⟩ : ByteArray)).length = n := by rw [List.length_map, hn]
  have hlt : g < w.heap.size := by
    rcases h.row_form with ⟨hx, _⟩ | ⟨g', o', cap, hx, _, _, _, hlt, _⟩
    · cases hx
    · cases hx; exact hlt
  have := Tryz.strings_Join g o cc (ws.map fun b => (⟨b.toArray⟩ : ByteArray)) ⟨#[32]⟩ w (fun j x hj => by
      have hc : (strL ws)[j]? = some (.string x) := by
        rw [List.getElem?_map] at hj
        cases hw : ws[j]? with
        | none => rw [hw] at hj; cases hj
        | some b => rw [hw] at hj; cases hj; simp [strL, hw]
      rcases h.row_form with ⟨hx, _⟩ | ⟨g', o', cap, hx, _, _, _, _, hcell, _⟩
      · cases hx
      · cases hx; exact hcell j _ hc) hlt (by rw [hlen]; omega) (by rw [hlen]; exact hcc) (by rw [hx]; exact Nat.le_trans hl (by omega))
  rw [hlen, hx] at this
  refine this.mono ?_
  rintro y w' ⟨rfl, hb⟩
  exact ⟨rfl, (h.of_below hb).drop⟩
theorem pevnum (hE : Env B) (h : Sat B L w) (u : Nat) (hu : u < 18446744073709551616) : Calls Tryz.prog 44 #[.int .u64 u] w fun e w' => e = .returned (.string ⟨(Lib.decDigits u).toArray⟩) ∧ Sat B L w' := by
  go_enter Tryz.func44, Tryz.ntmps44
  go_wp2_with (go_at_call 45; refine (pfmt hE h u hu).mono ?_; rintro y w1 ⟨rfl, h1⟩)
  go_ret
  exact ⟨rfl, h1⟩
set_option maxHeartbeats 1000000 in
set_option maxRecDepth 100000 in
theorem pev_bad (cl : Int) (sq : Nat) (call : Bool) (k : Int) (r c v : ByteArray) (has : Bool) (e : ByteArray) (er : Int) (found : Bool) (rr rv : ByteArray) (ver : Nat) (hok : evOk cl sq = false) (hS : Sat B L w) :
    Calls Tryz.prog 14 #[.agg (evC cl sq call k r c v has e er found rr rv ver)] w fun y w' => y = evV (evT cl sq call k r c v has e er found rr rv ver) ∧ Sat B L w' := by
  have hA := hS.alloc' (.cells (evC cl sq call k r c v has e er found rr rv ver) 53) (n := w.heap.size) rfl
  have hv : evT cl sq call k r c v has e er found rr rv ver = ([], 2) := by rw [evT, if_neg (by rw [hok]; decide)]
  rw [hv]
  have hcs : cl < 0 ∨ (0 ≤ cl ∧ 4 ≤ cl) ∨ (0 ≤ cl ∧ cl < 4 ∧ sq < 1) ∨ (0 ≤ cl ∧ cl < 4 ∧ 1 ≤ sq ∧ 1099511627776 < sq) := by
    simp [evOk] at hok; omega
  clear hv hok
  rcases hcs with h1 | ⟨h1, h2⟩ | ⟨h1, h2, h3⟩ | ⟨h1, h2, h3, h4⟩
  all_goals
    (try have h5 : (sq : Int) < 1 := by omega)
    (try have h6 : ¬ (sq : Int) < 1 := by omega)
    (try have h7 : (1099511627776 : Int) < sq := by omega)
    go_enter Tryz.func14, Tryz.ntmps14
    go_wp2_with fail
    go_ret2
    exact ⟨rfl, hA.drop⟩
set_option maxHeartbeats 4000000 in
set_option maxRecDepth 100000 in
theorem pev_call (hE : Env B) (hF : EnvF B) (cl : Int) (sq : Nat) (k : Int) (r c v : ByteArray) (has : Bool) (e : ByteArray) (er : Int) (found : Bool) (rr rv : ByteArray) (ver : Nat) (hok : evOk cl sq = true) (hS : Sat B L w) :
    Calls Tryz.prog 14 #[.agg (evC cl sq true k r c v has e er found rr rv ver)] w fun y w' => y = evV (evT cl sq true k r c v has e er found rr rv ver) ∧ Sat B L w' := by
  have hA := hS.alloc' (.cells (evC cl sq true k r c v has e er found rr rv ver) 53) (n := w.heap.size) rfl
  have hcs : 0 ≤ cl ∧ cl < 4 ∧ 1 ≤ sq ∧ sq ≤ 1099511627776 := by
    simp [evOk] at hok; omega
  obtain ⟨hc0, hc1, hc2, hc3⟩ := hcs
  obtain ⟨n, hn⟩ : ∃ n : Nat, cl = n := ⟨cl.toNat, by omega⟩
  subst hn
  have hd1 := dec_len n (by omega)
  have hd2 := dec_len sq (by omega)
  obtain ⟨d1, he1⟩ : ∃ d : ByteArray, (⟨(Lib.decDigits n).toArray⟩ : ByteArray) = d := ⟨_, rfl⟩
  obtain ⟨d2, he2⟩ : ∃ d : ByteArray, (⟨(Lib.decDigits sq).toArray⟩ : ByteArray) = d := ⟨_, rfl⟩
  have hp1 := fun (M : List HP) (w' : World) (h' : Sat B M w') => pitoa hE h' n (by omega)
  have hp2 := fun (M : List HP) (w' : World) (h' : Sat B M w') => pevnum hE h' sq (by omega)
  rw [he1] at hp1
  rw [he2] at hp2
  have hd := Lib.hid (And.intro he1 he2)
  have h6 : ¬ (sq : Int) < 1 := by omega
  have h7 : ¬ (1099511627776 : Int) < sq := by omega
  have hlens := Lib.hid (And.intro hd1 hd2)
  have hoks := Lib.hid hok
  clear he1 he2 hd1 hd2 hok hc2 hc3
  go_enter Tryz.func14, Tryz.ntmps14
  go_wp2_with fail
  obtain ⟨b1, hb1⟩ : ∃ b1, w.heap.size = b1 := ⟨_, rfl⟩
  rw [hb1] at hA ⊢
  clear hb1 hS
  generalize w.alloc (.cells (evC n sq true k r c v has e er found rr rv ver) 53) = w1 at hA ⊢
  have hK : ∀ w', Sat B (pt b1 (.cells (evC n sq true k r c v has e er found rr rv ver) 53) :: L) w' → (fun w' => w'.cell? ⟨b1, 0, none⟩ = some (.int .i64 n) ∧ w'.cell? ⟨b1, 1, none⟩ = some (.int .u64 sq) ∧ Sat B (pt b1 (.cells (evC n sq true k r c v has e er found rr rv ver) 53) :: L) w') w' := fun w' h' => ⟨h'.pt_cell 0, h'.pt_cell 1, h'⟩
  have h0 := hK _ hA.drew
  go_region_held3 (fun w' => w'.cell? ⟨b1, 0, none⟩ = some (.int .i64 n) ∧ w'.cell? ⟨b1, 1, none⟩ = some (.int .u64 sq) ∧ Sat B (pt b1 (.cells (evC n sq true k r c v has e er found rr rv ver) 53) :: L) w')
    (first | exact h0 | exact hK _ ‹_› | exact hK _ (Sat.drop (Sat.alloc ((‹_ ∧ _ ∧ Sat B _ _›).2.2) _)))
    (first
      | (go_at_call 23; refine (hp1 _ _ ((‹_ ∧ _ ∧ Sat B _ _›).2.2)).mono ?_; rintro y w2 ⟨rfl, h2⟩)
      | (go_at_call 44; refine (hp2 _ _ ((‹_ ∧ _ ∧ Sat B _ _›).2.2)).mono ?_; rintro y w3 ⟨rfl, h3⟩))
  obtain ⟨rfl, rfl⟩ := hd.out
  have hA2 := h3.alloc' (.cells #[.string ⟨(Lib.decDigits n).toArray⟩, .string ⟨(Lib.decDigits sq).toArray⟩] 9) (n := w3.heap.size) rfl
  have hrow : Sat B (row 9 1 (.slice (some ⟨w3.heap.size, 0, none⟩) 2 2) 2 (strL [Lib.decDigits n, Lib.decDigits sq]) :: _) _ := hA2.pt_row 2 2 0 (strL [Lib.decDigits n, Lib.decDigits sq]) rfl (strL_one _) (Nat.le_refl _) (by unfold maxLen; omega) (by simp) (by simp [strL])
  have p9 := hrow.swap.pt_cell
  have x2 := p9 2; have x3 := p9 3; have x4 := p9 4; have x5 := p9 5; have x6 := p9 6; have x7 := p9 7; have x8 := p9 8
  simp only [List.getElem?_toArray, List.getElem?_cons_zero, List.getElem?_cons_succ] at x2 x3 x4 x5 x6 x7 x8
  have hT := popText hF k r c v has e hrow
  have b1m : 2 + 2 ≤ maxLen := by unfold maxLen; omega
  have b2m : (2 + 2) * 16 ≤ 140737488355328 := by omega
  clear p9 hA2 hp1 hp2 h0 hK hA h2 hd h3
  by_cases hm : mayOp k r.data.toList c.data.toList v.data.toList has e.data.toList = true
  · rw [if_pos hm] at hT
    have hv : evT n sq true k r c v has e er found rr rv ver = (Lib.join (callW n sq (opLine k r.data.toList c.data.toList v.data.toList has e.data.toList)) [32], 0) := by rw [evT, if_pos hoks.out, if_pos rfl, if_pos hm]
    have hll := line_len hm
    generalize opLine k r.data.toList c.data.toList v.data.toList has e.data.toList = tl at hT hv hll
    have Hv := Lib.hid hv
    have hjl : (Lib.join [Lib.decDigits n, Lib.decDigits sq, wCall, tl] [32]).length ≤ 1000000 := by
      refine Nat.le_trans (join_len _ _) ?_
      have := hlens.out.1; have := hlens.out.2
      simp; omega
    clear hv hm hll
    go_wp2_with (first
      | (go_at_call 10; refine hT.mono ?_; rintro y w5 ⟨rfl, h5⟩)
      | (at_builtin; (with_reducible refine wpList_append_row rfl string_elem (.tmp 49) (.tmp 51) rfl _ _ 2 2 _ [.string ⟨#[99, 97, 108, 108]⟩, .string ⟨tl.toArray⟩] rfl rfl ((h5.alloc (.cells #[.string ⟨#[99, 97, 108, 108]⟩, .string ⟨tl.toArray⟩] 9)).swap) (reads_new _ _ rfl (by omega)) rfl (by simp [Value.oneCell']) b1m b2m ?_); intro a7 c7 w7 h7; go_frame))
    obtain ⟨g7, o7, hc7, rfl⟩ : ∃ g o, 4 ≤ c7 ∧ a7 = some ⟨g, o, none⟩ := (by rcases h7.row_form with ⟨hx, _⟩ | ⟨g', o', cap, hx, hcap, _⟩; cases hx; cases hx; exact ⟨_, _, hcap, rfl⟩)
    have hj := pjoin2 g7 o7 4 c7 [Lib.decDigits n, Lib.decDigits sq, wCall, tl] rfl hc7 hjl (by omega) h7 (by omega)
    go_wp2_with (go_at_call 39; refine hj.mono ?_; rintro y w8 ⟨rfl, h8⟩)
    go_ret2
    exact ⟨by rw [Hv.out]; rfl, h8.drop.drop⟩
  · rw [if_neg hm] at hT
    have hv : evT n sq true k r c v has e er found rr rv ver = ([], 2) := by rw [evT, if_pos hoks.out, if_pos rfl, if_neg hm]
    have Hv := Lib.hid hv
    clear hv hm
    go_wp2_with (go_at_call 10; refine hT.mono ?_; rintro y w5 ⟨rfl, h5⟩)
    go_ret2
    exact ⟨by rw [Hv.out]; rfl, h5.drop.drop⟩
end
end Go.Proofs.YtcjindifdghpgaaGreatDoor

namespace Go.Proofs.YtcjindifdghpgaaGreatDoor
set_option linter.all false
open Go.RowKit
section
variable {B w : World} {L : List HP}
set_option maxHeartbeats 4000000 in
set_option maxRecDepth 100000 in
theorem pev_ans (hE : Env B) (hF : EnvF B) (cl : Int) (sq : Nat) (k : Int) (r c v : ByteArray) (has : Bool) (e : ByteArray) (er : Int) (found : Bool) (rr rv : ByteArray) (ver : Nat) (hok : evOk cl sq = true) (hS : Sat B L w) :
    Calls Tryz.prog 14 #[.agg (evC cl sq false k r c v has e er found rr rv ver)] w fun y w' => y = evV (evT cl sq false k r c v has e er found rr rv ver) ∧ Sat B L w' := by
  have hA := hS.alloc' (.cells (evC cl sq false k r c v has e er found rr rv ver) 53) (n := w.heap.size) rfl
  have hcs : 0 ≤ cl ∧ cl < 4 ∧ 1 ≤ sq ∧ sq ≤ 1099511627776 := by
    simp [evOk] at hok; omega
  obtain ⟨hc0, hc1, hc2, hc3⟩ := hcs
  obtain ⟨n, hn⟩ : ∃ n : Nat, cl = n := ⟨cl.toNat, by omega⟩
  subst hn
  have hd1 := dec_len n (by omega)
  have hd2 := dec_len sq (by omega)
  obtain ⟨d1, he1⟩ : ∃ d : ByteArray, (⟨(Lib.decDigits n).toArray⟩ : ByteArray) = d := ⟨_, rfl⟩
  obtain ⟨d2, he2⟩ : ∃ d : ByteArray, (⟨(Lib.decDigits sq).toArray⟩ : ByteArray) = d := ⟨_, rfl⟩
  have hp1 := fun (M : List HP) (w' : World) (h' : Sat B M w') => pitoa hE h' n (by omega)
  have hp2 := fun (M : List HP) (w' : World) (h' : Sat B M w') => pevnum hE h' sq (by omega)
  rw [he1] at hp1
  rw [he2] at hp2
  have hd := Lib.hid (And.intro he1 he2)
  have h6 : ¬ (sq : Int) < 1 := by omega
  have h7 : ¬ (1099511627776 : Int) < sq := by omega
  have hlens := Lib.hid (And.intro hd1 hd2)
  have hoks := Lib.hid hok
  clear he1 he2 hd1 hd2 hok hc2 hc3
  go_enter Tryz.func14, Tryz.ntmps14
  go_wp2_with fail
  obtain ⟨b1, hb1⟩ : ∃ b1, w.heap.size = b1 := ⟨_, rfl⟩
  rw [hb1] at hA ⊢
  clear hb1 hS
  generalize w.alloc (.cells (evC n sq false k r c v has e er found rr rv ver) 53) = w1 at hA ⊢
  have hK : ∀ w', Sat B (pt b1 (.cells (evC n sq false k r c v has e er found rr rv ver) 53) :: L) w' → (fun w' => w'.cell? ⟨b1, 0, none⟩ = some (.int .i64 n) ∧ w'.cell? ⟨b1, 1, none⟩ = some (.int .u64 sq) ∧ Sat B (pt b1 (.cells (evC n sq false k r c v has e er found rr rv ver) 53) :: L) w') w' := fun w' h' => ⟨h'.pt_cell 0, h'.pt_cell 1, h'⟩
  have h0 := hK _ hA.drew
  go_region_held3 (fun w' => w'.cell? ⟨b1, 0, none⟩ = some (.int .i64 n) ∧ w'.cell? ⟨b1, 1, none⟩ = some (.int .u64 sq) ∧ Sat B (pt b1 (.cells (evC n sq false k r c v has e er found rr rv ver) 53) :: L) w')
    (first | exact h0 | exact hK _ ‹_› | exact hK _ (Sat.drop (Sat.alloc ((‹_ ∧ _ ∧ Sat B _ _›).2.2) _)))
    (first
      | (go_at_call 23; refine (hp1 _ _ ((‹_ ∧ _ ∧ Sat B _ _›).2.2)).mono ?_; rintro y w2 ⟨rfl, h2⟩)
      | (go_at_call 44; refine (hp2 _ _ ((‹_ ∧ _ ∧ Sat B _ _›).2.2)).mono ?_; rintro y w3 ⟨rfl, h3⟩))
  obtain ⟨rfl, rfl⟩ := hd.out
  have hA2 := h3.alloc' (.cells #[.string ⟨(Lib.decDigits n).toArray⟩, .string ⟨(Lib.decDigits sq).toArray⟩] 9) (n := w3.heap.size) rfl
  have hrow : Sat B (row 9 1 (.slice (some ⟨w3.heap.size, 0, none⟩) 2 2) 2 (strL [Lib.decDigits n, Lib.decDigits sq]) :: _) _ := hA2.pt_row 2 2 0 (strL [Lib.decDigits n, Lib.decDigits sq]) rfl (strL_one _) (Nat.le_refl _) (by unfold maxLen; omega) (by simp) (by simp [strL])
  have p9 := hrow.swap.pt_cell
  have x2 := p9 2; have x3 := p9 9; have x4 := p9 10; have x5 := p9 11; have x6 := p9 12; have x7 := p9 13
  simp only [List.getElem?_toArray, List.getElem?_cons_zero, List.getElem?_cons_succ] at x2 x3 x4 x5 x6 x7
  generalize w3.alloc (.cells #[.string ⟨(Lib.decDigits n).toArray⟩, .string ⟨(Lib.decDigits sq).toArray⟩] 9) = w4 at hrow x2 x3 x4 x5 x6 x7 ⊢
  generalize w3.heap.size = g3 at hrow ⊢
  have hA3 := hrow.alloc' (.cells (resC er found rr rv ver) 51) (n := w4.heap.size) rfl
  have hE2 := penc er found rr rv ver hA3
  have hb8 : ∃ b, w4.heap.size = b := ⟨_, rfl⟩
  have b1m : 2 + 6 ≤ maxLen := by unfold maxLen; omega
  have b2m : (2 + 6) * 16 ≤ 140737488355328 := by omega
  clear p9 hA2 hp1 hp2 h0 hK hA h2 hd h3
  by_cases hm : mayRes er rr rv ver = true
  · rw [if_pos hm] at hE2
    have hv : evT n sq false k r c v has e er found rr rv ver = (Lib.join (ansW n sq er found rr.data.toList rv.data.toList ver) [32], 0) := by rw [evT, if_pos hoks.out, if_neg (by decide), if_pos hm]
    simp only [mayRes, Bool.and_eq_true, decide_eq_true_eq] at hm
    obtain ⟨⟨⟨⟨m1, m2⟩, m3⟩, m4⟩, m5⟩ := hm
    obtain ⟨en, hen⟩ : ∃ m : Nat, er = m := ⟨er.toNat, by omega⟩
    subst hen
    have hd3 := dec_len en (by omega)
    have hd5 := dec_len ver (by omega)
    have hwr := wordL_len rr.data.toList
    have hwv := wordL_len rv.data.toList
    rw [slenB] at hwr hwv
    have hp3 := fun (M : List HP) (w' : World) (h' : Sat B M w') => pitoa hE h' en (by omega)
    have hp4 := fun (M : List HP) (w' : World) (h' : Sat B M w') => pword rr (by omega) h'
    have hp5 := fun (M : List HP) (w' : World) (h' : Sat B M w') => pword rv (by omega) h'
    have hp6 := fun (M : List HP) (w' : World) (h' : Sat B M w') => pevnum hE h' ver (by omega)
    cases found
    · have hjl : (Lib.join [Lib.decDigits n, Lib.decDigits sq, wAnswer, Lib.decDigits en, [110, 111, 110, 101], wordL rr.data.toList, wordL rv.data.toList, Lib.decDigits ver] [32]).length ≤ 1000000 := by
        refine Nat.le_trans (join_len _ _) ?_
        have := hlens.out.1; have := hlens.out.2
        simp; omega
      have Hv := Lib.hid (show evT n sq false k r c v has e en false rr rv ver = (Lib.join [Lib.decDigits n, Lib.decDigits sq, wAnswer, Lib.decDigits en, [110, 111, 110, 101], wordL rr.data.toList, wordL rv.data.toList, Lib.decDigits ver] [32], 0) by rw [hv]; simp [ansW, wFound])
      clear hv hd3 hd5 hwr hwv
      go_wp2_with (go_at_call 46; refine hE2.mono ?_; rintro y w6 ⟨⟨tt, rfl⟩, h6⟩; have p9 := h6.pt_cell; have i0 := p9 0; have i1 := p9 1; have i2 := p9 2; have i3 := p9 3; have i4 := p9 4; simp only [List.getElem?_toArray, List.getElem?_cons_zero, List.getElem?_cons_succ] at i0 i1 i2 i3 i4; clear p9)
      obtain ⟨b8, hb8⟩ := hb8
      rw [hb8] at h6 i0 i1 i2 i3 i4 ⊢
      have hR := h6.swap
      have hK : ∀ (M : List HP) (w' : World), Sat B (pt b8 (.cells (resC en false rr rv ver) 51) :: M) w' → (fun w' => w'.cell? ⟨b8, 0, none⟩ = some (.int .i64 en) ∧ w'.cell? ⟨b8, 1, none⟩ = some (.bool false) ∧ w'.cell? ⟨b8, 2, none⟩ = some (.string rr) ∧ w'.cell? ⟨b8, 3, none⟩ = some (.string rv) ∧ w'.cell? ⟨b8, 4, none⟩ = some (.int .u64 ver)) w' := fun M w' h' => ⟨h'.pt_cell 0, h'.pt_cell 1, h'.pt_cell 2, h'.pt_cell 3, h'.pt_cell 4⟩
      have h0 := hK _ _ h6.drew
      go_region_held3 (fun w' => w'.cell? ⟨b8, 0, none⟩ = some (.int .i64 en) ∧ w'.cell? ⟨b8, 1, none⟩ = some (.bool false) ∧ w'.cell? ⟨b8, 2, none⟩ = some (.string rr) ∧ w'.cell? ⟨b8, 3, none⟩ = some (.string rv) ∧ w'.cell? ⟨b8, 4, none⟩ = some (.int .u64 ver))
        (first | exact h0 | exact hK _ _ h8.swap | exact hK _ _ h9.swap | exact hK _ _ h10.swap | exact hK _ _ h11.swap | exact hK _ _ (Sat.alloc h11 _).p2 | exact hK _ _ h7.p2 | exact hK _ _ h12.swap)
        (first
        | (refine step_append_row rfl string_elem (.tmp 65) (.tmp 80) rfl _ _ 2 6 _ [.string ⟨#[97, 110, 115, 119, 101, 114]⟩, .string ⟨(Lib.decDigits en).toArray⟩, .string ⟨#[110, 111, 110, 101]⟩, .string ⟨(wordL rr.data.toList).toArray⟩, .string ⟨(wordL rv.data.toList).toArray⟩, .string ⟨(Lib.decDigits ver).toArray⟩] rfl rfl ((h11.alloc (.cells #[.string ⟨#[97, 110, 115, 119, 101, 114]⟩, .string ⟨(Lib.decDigits en).toArray⟩, .string ⟨#[110, 111, 110, 101]⟩, .string ⟨(wordL rr.data.toList).toArray⟩, .string ⟨(wordL rv.data.toList).toArray⟩, .string ⟨(Lib.decDigits ver).toArray⟩] 9)).swap) (reads_new _ _ rfl (by omega)) rfl (by simp [Value.oneCell']) b1m b2m ?_; intro a7 c7 w7 h7; obtain ⟨g7, o7, hc7, rfl⟩ : ∃ g o, 8 ≤ c7 ∧ a7 = some ⟨g, o, none⟩ := (by rcases h7.row_form with ⟨hx, _⟩ | ⟨g', o', cap, hx, hcap, _⟩; cases hx; cases hx; exact ⟨_, _, hcap, rfl⟩); have hj := pjoin2 g7 o7 8 c7 [Lib.decDigits n, Lib.decDigits sq, wAnswer, Lib.decDigits en, [110, 111, 110, 101], wordL rr.data.toList, wordL rv.data.toList, Lib.decDigits ver] rfl hc7 hjl (by omega) h7 (by omega))
        | (go_at_call 23; refine (hp3 _ _ hR.drew).mono ?_; rintro y w8 ⟨rfl, h8⟩)
        | (go_at_call_of 38 rr; refine (hp4 _ _ h8).mono ?_; rintro y w9 ⟨rfl, h9⟩)
        | (go_at_call_of 38 rv; refine (hp5 _ _ h9).mono ?_; rintro y w10 ⟨rfl, h10⟩)
        | (go_at_call 44; refine (hp6 _ _ h10).mono ?_; rintro y w11 ⟨rfl, h11⟩)
        | (go_at_call 39; refine hj.mono ?_; rintro y w12 ⟨rfl, h12⟩))
      all_goals go_wp2_with fail
      all_goals go_ret2
      all_goals exact ⟨by rw [Hv.out]; rfl, h12.drop.drop.drop⟩

    · have hjl : (Lib.join [Lib.decDigits n, Lib.decDigits sq, wAnswer, Lib.decDigits en, [102, 111, 117, 110, 100], wordL rr.data.toList, wordL rv.data.toList, Lib.decDigits ver] [32]).length ≤ 1000000 := by
        refine Nat.le_trans (join_len _ _) ?_
        have := hlens.out.1; have := hlens.out.2
        simp; omega
      have Hv := Lib.hid (show evT n sq false k r c v has e en true rr rv ver = (Lib.join [Lib.decDigits n, Lib.decDigits sq, wAnswer, Lib.decDigits en, [102, 111, 117, 110, 100], wordL rr.data.toList, wordL rv.data.toList, Lib.decDigits ver] [32], 0) by rw [hv]; simp [ansW, wFound])
      clear hv hd3 hd5 hwr hwv
      go_wp2_with (go_at_call 46; refine hE2.mono ?_; rintro y w6 ⟨⟨tt, rfl⟩, h6⟩; have p9 := h6.pt_cell; have i0 := p9 0; have i1 := p9 1; have i2 := p9 2; have i3 := p9 3; have i4 := p9 4; simp only [List.getElem?_toArray, List.getElem?_cons_zero, List.getElem?_cons_succ] at i0 i1 i2 i3 i4; clear p9)
      obtain ⟨b8, hb8⟩ := hb8
      rw [hb8] at h6 i0 i1 i2 i3 i4 ⊢
      have hR := h6.swap
      have hK : ∀ (M : List HP) (w' : World), Sat B (pt b8 (.cells (resC en true rr rv ver) 51) :: M) w' → (fun w' => w'.cell? ⟨b8, 0, none⟩ = some (.int .i64 en) ∧ w'.cell? ⟨b8, 1, none⟩ = some (.bool true) ∧ w'.cell? ⟨b8, 2, none⟩ = some (.string rr) ∧ w'.cell? ⟨b8, 3, none⟩ = some (.string rv) ∧ w'.cell? ⟨b8, 4, none⟩ = some (.int .u64 ver)) w' := fun M w' h' => ⟨h'.pt_cell 0, h'.pt_cell 1, h'.pt_cell 2, h'.pt_cell 3, h'.pt_cell 4⟩
      have h0 := hK _ _ h6.drew
      go_region_held3 (fun w' => w'.cell? ⟨b8, 0, none⟩ = some (.int .i64 en) ∧ w'.cell? ⟨b8, 1, none⟩ = some (.bool true) ∧ w'.cell? ⟨b8, 2, none⟩ = some (.string rr) ∧ w'.cell? ⟨b8, 3, none⟩ = some (.string rv) ∧ w'.cell? ⟨b8, 4, none⟩ = some (.int .u64 ver))
        (first | exact h0 | exact hK _ _ h8.swap | exact hK _ _ h9.swap | exact hK _ _ h10.swap | exact hK _ _ h11.swap | exact hK _ _ (Sat.alloc h11 _).p2 | exact hK _ _ h7.p2 | exact hK _ _ h12.swap)
        (first
        | (refine step_append_row rfl string_elem (.tmp 65) (.tmp 80) rfl _ _ 2 6 _ [.string ⟨#[97, 110, 115, 119, 101, 114]⟩, .string ⟨(Lib.decDigits en).toArray⟩, .string ⟨#[102, 111, 117, 110, 100]⟩, .string ⟨(wordL rr.data.toList).toArray⟩, .string ⟨(wordL rv.data.toList).toArray⟩, .string ⟨(Lib.decDigits ver).toArray⟩] rfl rfl ((h11.alloc (.cells #[.string ⟨#[97, 110, 115, 119, 101, 114]⟩, .string ⟨(Lib.decDigits en).toArray⟩, .string ⟨#[102, 111, 117, 110, 100]⟩, .string ⟨(wordL rr.data.toList).toArray⟩, .string ⟨(wordL rv.data.toList).toArray⟩, .string ⟨(Lib.decDigits ver).toArray⟩] 9)).swap) (reads_new _ _ rfl (by omega)) rfl (by simp [Value.oneCell']) b1m b2m ?_; intro a7 c7 w7 h7; obtain ⟨g7, o7, hc7, rfl⟩ : ∃ g o, 8 ≤ c7 ∧ a7 = some ⟨g, o, none⟩ := (by rcases h7.row_form with ⟨hx, _⟩ | ⟨g', o', cap, hx, hcap, _⟩; cases hx; cases hx; exact ⟨_, _, hcap, rfl⟩); have hj := pjoin2 g7 o7 8 c7 [Lib.decDigits n, Lib.decDigits sq, wAnswer, Lib.decDigits en, [102, 111, 117, 110, 100], wordL rr.data.toList, wordL rv.data.toList, Lib.decDigits ver] rfl hc7 hjl (by omega) h7 (by omega))
        | (go_at_call 23; refine (hp3 _ _ hR.drew).mono ?_; rintro y w8 ⟨rfl, h8⟩)
        | (go_at_call_of 38 rr; refine (hp4 _ _ h8).mono ?_; rintro y w9 ⟨rfl, h9⟩)
        | (go_at_call_of 38 rv; refine (hp5 _ _ h9).mono ?_; rintro y w10 ⟨rfl, h10⟩)
        | (go_at_call 44; refine (hp6 _ _ h10).mono ?_; rintro y w11 ⟨rfl, h11⟩)
        | (go_at_call 39; refine hj.mono ?_; rintro y w12 ⟨rfl, h12⟩))
      all_goals go_wp2_with fail
      all_goals go_ret2
      all_goals exact ⟨by rw [Hv.out]; rfl, h12.drop.drop.drop⟩

  · rw [if_neg hm] at hE2
    have hv : evT n sq false k r c v has e er found rr rv ver = ([], 2) := by rw [evT, if_pos hoks.out, if_neg (by decide), if_neg hm]
    have Hv := Lib.hid hv
    clear hv hm
    go_wp2_with (go_at_call 46; refine hE2.mono ?_; rintro y w6 ⟨⟨tt, rfl⟩, h6⟩)
    go_ret2
    exact ⟨by rw [Hv.out]; rfl, h6.drop.drop.drop⟩
theorem pevent (hE : Env B) (hF : EnvF B) (cl : Int) (sq : Nat) (call : Bool) (k : Int) (r c v : ByteArray) (has : Bool) (e : ByteArray) (er : Int) (found : Bool) (rr rv : ByteArray) (ver : Nat) (hS : Sat B L w) :
    Calls Tryz.prog 14 #[.agg (evC cl sq call k r c v has e er found rr rv ver)] w fun y w' => y = evV (evT cl sq call k r c v has e er found rr rv ver) ∧ Sat B L w' := by
  cases hok : evOk cl sq
  · exact pev_bad cl sq call k r c v has e er found rr rv ver hok hS
  · cases call
    · exact pev_ans hE hF cl sq k r c v has e er found rr rv ver hok hS
    · exact pev_call hE hF cl sq k r c v has e er found rr rv ver hok hS
end
end Go.Proofs.YtcjindifdghpgaaGreatDoor

namespace Go.Proofs.YtcjindifdghpgaaGreatDoor
set_option linter.all false
open Go.RowKit
section
variable {B w : World} {L : List HP}
theorem rdig (h : Sat B L w) (u : Nat) (hu : u < 18446744073709551616) : Calls Tryz.prog 47 #[.int .u64 u] w fun e w' => e = .returned (.string ⟨(Lib.decDigits u).toArray⟩) ∧ Sat B L w' := by
  refine (rdigits u hu w).mono ?_
  rintro y w' ⟨rfl, hb⟩
  exact ⟨rfl, h.of_below hb⟩
set_option maxHeartbeats 1000000 in
set_option maxRecDepth 100000 in
theorem rev_bad (cl : Int) (sq : Nat) (call : Bool) (k : Int) (r c v : ByteArray) (has : Bool) (e : ByteArray) (er : Int) (found : Bool) (rr rv : ByteArray) (ver : Nat) (hok : evOk cl sq = false) (hS : Sat B L w) :
    Calls Tryz.prog 15 #[.agg (evC cl sq call k r c v has e er found rr rv ver)] w fun y w' => y = evV (evT cl sq call k r c v has e er found rr rv ver) ∧ Sat B L w' := by
  have hA := hS.alloc' (.cells (evC cl sq call k r c v has e er found rr rv ver) 53) (n := w.heap.size) rfl
  have hv : evT cl sq call k r c v has e er found rr rv ver = ([], 2) := by rw [evT, if_neg (by rw [hok]; decide)]
  rw [hv]
  have hcs : cl < 0 ∨ (0 ≤ cl ∧ 4 ≤ cl) ∨ (0 ≤ cl ∧ cl < 4 ∧ sq < 1) ∨ (0 ≤ cl ∧ cl < 4 ∧ 1 ≤ sq ∧ 1099511627776 < sq) := by
    simp [evOk] at hok; omega
  clear hv hok
  rcases hcs with h1 | ⟨h1, h2⟩ | ⟨h1, h2, h3⟩ | ⟨h1, h2, h3, h4⟩
  all_goals
    (try have h5 : (sq : Int) < 1 := by omega)
    (try have h6 : ¬ (sq : Int) < 1 := by omega)
    (try have h7 : (1099511627776 : Int) < sq := by omega)
    go_enter Tryz.func15, Tryz.ntmps15
    go_wp2_with fail
    go_ret2
    exact ⟨rfl, hA.drop⟩
set_option maxHeartbeats 4000000 in
set_option maxRecDepth 100000 in
theorem rev_call (cl : Int) (sq : Nat) (k : Int) (r c v : ByteArray) (has : Bool) (e : ByteArray) (er : Int) (found : Bool) (rr rv : ByteArray) (ver : Nat) (hok : evOk cl sq = true) (hS : Sat B L w) :
    Calls Tryz.prog 15 #[.agg (evC cl sq true k r c v has e er found rr rv ver)] w fun y w' => y = evV (evT cl sq true k r c v has e er found rr rv ver) ∧ Sat B L w' := by
  have hA := hS.alloc' (.cells (evC cl sq true k r c v has e er found rr rv ver) 53) (n := w.heap.size) rfl
  have hcs : 0 ≤ cl ∧ cl < 4 ∧ 1 ≤ sq ∧ sq ≤ 1099511627776 := by
    simp [evOk] at hok; omega
  obtain ⟨hc0, hc1, hc2, hc3⟩ := hcs
  obtain ⟨n, hn⟩ : ∃ n : Nat, cl = n := ⟨cl.toNat, by omega⟩
  subst hn
  have hd1 := dec_len n (by omega)
  have hd2 := dec_len sq (by omega)
  obtain ⟨d1, he1⟩ : ∃ d : ByteArray, (⟨(Lib.decDigits n).toArray⟩ : ByteArray) = d := ⟨_, rfl⟩
  obtain ⟨d2, he2⟩ : ∃ d : ByteArray, (⟨(Lib.decDigits sq).toArray⟩ : ByteArray) = d := ⟨_, rfl⟩
  have hz1 : d1.size ≤ 20 := by rw [← he1]; exact hd1
  have hz2 : d2.size ≤ 20 := by rw [← he2]; exact hd2
  have hp1 := fun (M : List HP) (w' : World) (h' : Sat B M w') => rdig h' n (by omega)
  have hp2 := fun (M : List HP) (w' : World) (h' : Sat B M w') => rdig h' sq (by omega)
  rw [he1] at hp1
  rw [he2] at hp2
  have Hd := Lib.hid (And.intro he1 he2)
  have h6 : ¬ (sq : Int) < 1 := by omega
  have h7 : ¬ (1099511627776 : Int) < sq := by omega
  have e1 : IntKind.u64.wrap (n : Int) = n := by rw [IntKind.wrap_u64]; omega
  have y1 : ¬ 9223372036854775807 < d1.size + 1 := by omega
  have y2 : ¬ 9223372036854775807 < d1.size + 1 + d2.size := by omega
  have hoks := Lib.hid hok
  clear he1 he2 hd1 hd2 hok hc2 hc3
  go_enter Tryz.func15, Tryz.ntmps15
  go_wp2_with fail
  obtain ⟨b1, hb1⟩ : ∃ b1, w.heap.size = b1 := ⟨_, rfl⟩
  rw [hb1] at hA ⊢
  clear hb1 hS
  generalize w.alloc (.cells (evC n sq true k r c v has e er found rr rv ver) 53) = w1 at hA ⊢
  have hK : ∀ w', Sat B (pt b1 (.cells (evC n sq true k r c v has e er found rr rv ver) 53) :: L) w' → (fun w' => w'.cell? ⟨b1, 0, none⟩ = some (.int .i64 n) ∧ w'.cell? ⟨b1, 1, none⟩ = some (.int .u64 sq) ∧ Sat B (pt b1 (.cells (evC n sq true k r c v has e er found rr rv ver) 53) :: L) w') w' := fun w' h' => ⟨h'.pt_cell 0, h'.pt_cell 1, h'⟩
  have h0 := hK _ hA.drew
  go_region_held3 (fun w' => w'.cell? ⟨b1, 0, none⟩ = some (.int .i64 n) ∧ w'.cell? ⟨b1, 1, none⟩ = some (.int .u64 sq) ∧ Sat B (pt b1 (.cells (evC n sq true k r c v has e er found rr rv ver) 53) :: L) w')
    (first | exact h0 | exact hK _ ‹_›)
    (first
      | (go_at_call_of 47 (Value.int .u64 n); refine (hp1 _ _ ((‹_ ∧ _ ∧ Sat B _ _›).2.2)).mono ?_; rintro y w2 ⟨rfl, h2⟩)
      | (go_at_call_of 47 (Value.int .u64 sq); refine (hp2 _ _ ((‹_ ∧ _ ∧ Sat B _ _›).2.2)).mono ?_; rintro y w3 ⟨rfl, h3⟩))
  obtain ⟨hd, hhd⟩ : ∃ hd : ByteArray, d1 ++ ⟨#[32]⟩ ++ d2 = hd := ⟨_, rfl⟩
  rw [hhd]
  have hz : hd.size ≤ 41 := by rw [← hhd]; simp only [ByteArray.size_append]; have : (⟨#[32]⟩ : ByteArray).size = 1 := rfl; omega
  have hhl : hd.data.toList = Lib.decDigits n ++ 32 :: Lib.decDigits sq := by
    rw [← hhd]
    obtain ⟨rfl, rfl⟩ := Hd.out
    simp
  have Hh := Lib.hid hhl
  have p9 := h3.pt_cell
  have x2 := p9 2; have x3 := p9 3; have x4 := p9 4; have x5 := p9 5; have x6 := p9 6; have x7 := p9 7; have x8 := p9 8
  simp only [List.getElem?_toArray, List.getElem?_cons_zero, List.getElem?_cons_succ] at x2 x3 x4 x5 x6 x7 x8
  clear p9 hp1 hp2 h0 hK hA h2 hhd hhl y1 y2
  have hT := ropText k r c v has e h3
  by_cases hm : mayOp k r.data.toList c.data.toList v.data.toList has e.data.toList = true
  · rw [if_pos hm] at hT
    have hv : evT n sq true k r c v has e er found rr rv ver = (Lib.join (callW n sq (opLine k r.data.toList c.data.toList v.data.toList has e.data.toList)) [32], 0) := by rw [evT, if_pos hoks.out, if_pos rfl, if_pos hm]
    have hll := line_len hm
    generalize opLine k r.data.toList c.data.toList v.data.toList has e.data.toList = tl at hT hv hll
    obtain ⟨ts, hts⟩ : ∃ ts : ByteArray, (⟨tl.toArray⟩ : ByteArray) = ts := ⟨_, rfl⟩
    have hzt : ts.size ≤ 4000 := by rw [← hts]; exact hll
    rw [hts] at hT
    have Hts := Lib.hid hts
    have Hv := Lib.hid hv
    clear hv hm hll hts
    go_wp2_with (go_at_call 13; refine hT.mono ?_; rintro y w5 ⟨rfl, h5⟩)
    go_ret2
    refine ⟨?_, h5.drop⟩
    have hx : hd ++ (⟨#[32, 99, 97, 108, 108, 32]⟩ : ByteArray) ++ ts = (⟨(Lib.join (callW n sq tl) [32]).toArray⟩ : ByteArray) := by
      refine ba_ext ?_
      rw [ba_cat, ba_cat, Hh.out, ← Hts.out]
      simp [callW, Lib.join_cons, Lib.joinTail]
    rw [Hv.out, evV, ← hx]; rfl
  · rw [if_neg hm] at hT
    have hv : evT n sq true k r c v has e er found rr rv ver = ([], 2) := by rw [evT, if_pos hoks.out, if_pos rfl, if_neg hm]
    have Hv := Lib.hid hv
    clear hv hm
    go_wp2_with (go_at_call 13; refine hT.mono ?_; rintro y w5 ⟨rfl, h5⟩)
    go_ret2
    exact ⟨by rw [Hv.out]; rfl, h5.drop⟩
set_option maxHeartbeats 4000000 in
set_option maxRecDepth 100000 in
theorem rev_ans (cl : Int) (sq : Nat) (k : Int) (r c v : ByteArray) (has : Bool) (e : ByteArray) (er : Int) (found : Bool) (rr rv : ByteArray) (ver : Nat) (hok : evOk cl sq = true) (hS : Sat B L w) :
    Calls Tryz.prog 15 #[.agg (evC cl sq false k r c v has e er found rr rv ver)] w fun y w' => y = evV (evT cl sq false k r c v has e er found rr rv ver) ∧ Sat B L w' := by
  have hA := hS.alloc' (.cells (evC cl sq false k r c v has e er found rr rv ver) 53) (n := w.heap.size) rfl
  have hcs : 0 ≤ cl ∧ cl < 4 ∧ 1 ≤ sq ∧ sq ≤ 1099511627776 := by
    simp [evOk] at hok; omega
  obtain ⟨hc0, hc1, hc2, hc3⟩ := hcs
  obtain ⟨n, hn⟩ : ∃ n : Nat, cl = n := ⟨cl.toNat, by omega⟩
  subst hn
  have hd1 := dec_len n (by omega)
  have hd2 := dec_len sq (by omega)
  obtain ⟨d1, he1⟩ : ∃ d : ByteArray, (⟨(Lib.decDigits n).toArray⟩ : ByteArray) = d := ⟨_, rfl⟩
  obtain ⟨d2, he2⟩ : ∃ d : ByteArray, (⟨(Lib.decDigits sq).toArray⟩ : ByteArray) = d := ⟨_, rfl⟩
  have hz1 : d1.size ≤ 20 := by rw [← he1]; exact hd1
  have hz2 : d2.size ≤ 20 := by rw [← he2]; exact hd2
  have hp1 := fun (M : List HP) (w' : World) (h' : Sat B M w') => rdig h' n (by omega)
  have hp2 := fun (M : List HP) (w' : World) (h' : Sat B M w') => rdig h' sq (by omega)
  rw [he1] at hp1
  rw [he2] at hp2
  have Hd := Lib.hid (And.intro he1 he2)
  have h6 : ¬ (sq : Int) < 1 := by omega
  have h7 : ¬ (1099511627776 : Int) < sq := by omega
  have e1 : IntKind.u64.wrap (n : Int) = n := by rw [IntKind.wrap_u64]; omega
  have y1 : ¬ 9223372036854775807 < d1.size + 1 := by omega
  have y2 : ¬ 9223372036854775807 < d1.size + 1 + d2.size := by omega
  have hoks := Lib.hid hok
  clear he1 he2 hd1 hd2 hok hc2 hc3
  go_enter Tryz.func15, Tryz.ntmps15
  go_wp2_with fail
  obtain ⟨b1, hb1⟩ : ∃ b1, w.heap.size = b1 := ⟨_, rfl⟩
  rw [hb1] at hA ⊢
  clear hb1 hS
  generalize w.alloc (.cells (evC n sq false k r c v has e er found rr rv ver) 53) = w1 at hA ⊢
  have hK : ∀ w', Sat B (pt b1 (.cells (evC n sq false k r c v has e er found rr rv ver) 53) :: L) w' → (fun w' => w'.cell? ⟨b1, 0, none⟩ = some (.int .i64 n) ∧ w'.cell? ⟨b1, 1, none⟩ = some (.int .u64 sq) ∧ Sat B (pt b1 (.cells (evC n sq false k r c v has e er found rr rv ver) 53) :: L) w') w' := fun w' h' => ⟨h'.pt_cell 0, h'.pt_cell 1, h'⟩
  have h0 := hK _ hA.drew
  go_region_held3 (fun w' => w'.cell? ⟨b1, 0, none⟩ = some (.int .i64 n) ∧ w'.cell? ⟨b1, 1, none⟩ = some (.int .u64 sq) ∧ Sat B (pt b1 (.cells (evC n sq false k r c v has e er found rr rv ver) 53) :: L) w')
    (first | exact h0 | exact hK _ ‹_›)
    (first
      | (go_at_call_of 47 (Value.int .u64 n); refine (hp1 _ _ ((‹_ ∧ _ ∧ Sat B _ _›).2.2)).mono ?_; rintro y w2 ⟨rfl, h2⟩)
      | (go_at_call_of 47 (Value.int .u64 sq); refine (hp2 _ _ ((‹_ ∧ _ ∧ Sat B _ _›).2.2)).mono ?_; rintro y w3 ⟨rfl, h3⟩))
  obtain ⟨hd, hhd⟩ : ∃ hd : ByteArray, d1 ++ ⟨#[32]⟩ ++ d2 = hd := ⟨_, rfl⟩
  rw [hhd]
  have hz : hd.size ≤ 41 := by rw [← hhd]; simp only [ByteArray.size_append]; have : (⟨#[32]⟩ : ByteArray).size = 1 := rfl; omega
  have hhl : hd.data.toList = Lib.decDigits n ++ 32 :: Lib.decDigits sq := by
    rw [← hhd]
    obtain ⟨rfl, rfl⟩ := Hd.out
    simp
  have Hh := Lib.hid hhl
  have p9 := h3.pt_cell
  have x2 := p9 2; have x3 := p9 9; have x4 := p9 10; have x5 := p9 11; have x6 := p9 12; have x7 := p9 13
  simp only [List.getElem?_toArray, List.getElem?_cons_zero, List.getElem?_cons_succ] at x2 x3 x4 x5 x6 x7
  clear p9 hp1 hp2 h0 hK hA h2 hhd hhl y1 y2
  have hA3 := h3.alloc' (.cells (resC er found rr rv ver) 51) (n := w3.heap.size) rfl
  have hE2 := renc er found rr rv ver hA3
  by_cases hm : mayRes er rr rv ver = true
  · rw [if_pos hm] at hE2
    have hv : evT n sq false k r c v has e er found rr rv ver = (Lib.join (ansW n sq er found rr.data.toList rv.data.toList ver) [32], 0) := by rw [evT, if_pos hoks.out, if_neg (by decide), if_pos hm]
    simp only [mayRes, Bool.and_eq_true, decide_eq_true_eq] at hm
    obtain ⟨⟨⟨⟨m1, m2⟩, m3⟩, m4⟩, m5⟩ := hm
    obtain ⟨en, hen⟩ : ∃ m : Nat, er = m := ⟨er.toNat, by omega⟩
    subst hen
    have hd3 := dec_len en (by omega)
    have hd5 := dec_len ver (by omega)
    have hwr := wordL_len rr.data.toList
    have hwv := wordL_len rv.data.toList
    rw [slenB] at hwr hwv
    have e2 : IntKind.u64.wrap (en : Int) = en := by rw [IntKind.wrap_u64]; omega
    have hp3 := fun (M : List HP) (w' : World) (h' : Sat B M w') => rdig h' en (by omega)
    have hp4 := fun (M : List HP) (w' : World) (h' : Sat B M w') => rword rr (by omega) h'
    have hp5 := fun (M : List HP) (w' : World) (h' : Sat B M w') => rword rv (by omega) h'
    have hp6 := fun (M : List HP) (w' : World) (h' : Sat B M w') => rdig h' ver (by omega)
    obtain ⟨d3, he3⟩ : ∃ d : ByteArray, (⟨(Lib.decDigits en).toArray⟩ : ByteArray) = d := ⟨_, rfl⟩
    obtain ⟨wr, he4⟩ : ∃ d : ByteArray, (⟨(wordL rr.data.toList).toArray⟩ : ByteArray) = d := ⟨_, rfl⟩
    obtain ⟨wv, he5⟩ : ∃ d : ByteArray, (⟨(wordL rv.data.toList).toArray⟩ : ByteArray) = d := ⟨_, rfl⟩
    obtain ⟨d5, he6⟩ : ∃ d : ByteArray, (⟨(Lib.decDigits ver).toArray⟩ : ByteArray) = d := ⟨_, rfl⟩
    have hz3 : d3.size ≤ 20 := by rw [← he3]; exact hd3
    have hz4 : wr.size ≤ 200000 := by rw [← he4]; show (wordL _).length ≤ _; omega
    have hz5 : wv.size ≤ 200000 := by rw [← he5]; show (wordL _).length ≤ _; omega
    have hz6 : d5.size ≤ 20 := by rw [← he6]; exact hd5
    rw [he3] at hp3
    rw [he4] at hp4
    rw [he5] at hp5
    rw [he6] at hp6
    have Hw := Lib.hid (And.intro he3 (And.intro he4 (And.intro he5 he6)))
    clear he3 he4 he5 he6 hd3 hd5 hwr hwv
    cases found
    · have Hv := Lib.hid hv
      have y1 : ¬ 9223372036854775807 < hd.size + 8 := by omega
      have y2 : ¬ 9223372036854775807 < hd.size + 8 + d3.size := by omega
      have y3 : ¬ 9223372036854775807 < hd.size + 8 + d3.size + 6 := by omega
      have y4 : ¬ 9223372036854775807 < hd.size + 8 + d3.size + 6 + wr.size := by omega
      have y5 : ¬ 9223372036854775807 < hd.size + 8 + d3.size + 6 + wr.size + 1 := by omega
      have y6 : ¬ 9223372036854775807 < hd.size + 8 + d3.size + 6 + wr.size + 1 + wv.size := by omega
      have y7 : ¬ 9223372036854775807 < hd.size + 8 + d3.size + 6 + wr.size + 1 + wv.size + 1 := by omega
      have y8 : ¬ 9223372036854775807 < hd.size + 8 + d3.size + 6 + wr.size + 1 + wv.size + 1 + d5.size := by omega
      clear hv
      go_wp2_with (go_at_call 48; refine hE2.mono ?_; rintro y w6 ⟨⟨tt, rfl⟩, h6⟩; have p9 := h6.pt_cell; have i0 := p9 0; have i1 := p9 1; have i2 := p9 2; have i3 := p9 3; have i4 := p9 4; simp only [List.getElem?_toArray, List.getElem?_cons_zero, List.getElem?_cons_succ] at i0 i1 i2 i3 i4; clear p9)
      obtain ⟨b8, hb8⟩ : ∃ b, w3.heap.size = b := ⟨_, rfl⟩
      rw [hb8] at h6 i0 i1 i2 i3 i4 ⊢
      have hK : ∀ (M : List HP) (w' : World), Sat B (pt b8 (.cells (resC en false rr rv ver) 51) :: M) w' → (fun w' => w'.cell? ⟨b8, 0, none⟩ = some (.int .i64 en) ∧ w'.cell? ⟨b8, 1, none⟩ = some (.bool false) ∧ w'.cell? ⟨b8, 2, none⟩ = some (.string rr) ∧ w'.cell? ⟨b8, 3, none⟩ = some (.string rv) ∧ w'.cell? ⟨b8, 4, none⟩ = some (.int .u64 ver)) w' := fun M w' h' => ⟨h'.pt_cell 0, h'.pt_cell 1, h'.pt_cell 2, h'.pt_cell 3, h'.pt_cell 4⟩
      have h0 := hK _ _ h6.drew
      go_region_held3 (fun w' => w'.cell? ⟨b8, 0, none⟩ = some (.int .i64 en) ∧ w'.cell? ⟨b8, 1, none⟩ = some (.bool false) ∧ w'.cell? ⟨b8, 2, none⟩ = some (.string rr) ∧ w'.cell? ⟨b8, 3, none⟩ = some (.string rv) ∧ w'.cell? ⟨b8, 4, none⟩ = some (.int .u64 ver))
        (first | exact h0 | exact hK _ _ h8 | exact hK _ _ h9 | exact hK _ _ h10 | exact hK _ _ h11)
        (first
          | (go_at_call_of 47 (Value.int .u64 en); refine (hp3 _ _ h6.drew).mono ?_; rintro y w8 ⟨rfl, h8⟩)
          | (go_at_call_of 43 rr; refine (hp4 _ _ h8).mono ?_; rintro y w9 ⟨rfl, h9⟩)
          | (go_at_call_of 43 rv; refine (hp5 _ _ h9).mono ?_; rintro y w10 ⟨rfl, h10⟩)
          | (go_at_call_of 47 (Value.int .u64 ver); refine (hp6 _ _ h10).mono ?_; rintro y w11 ⟨rfl, h11⟩))
      all_goals go_wp2_with fail
      all_goals go_ret2
      refine ⟨?_, h11.drop.drop⟩
      have hx : hd ++ (⟨#[32, 97, 110, 115, 119, 101, 114, 32]⟩ : ByteArray) ++ d3 ++ (⟨#[32, 110, 111, 110, 101, 32]⟩ : ByteArray) ++ wr ++ (⟨#[32]⟩ : ByteArray) ++ wv ++ (⟨#[32]⟩ : ByteArray) ++ d5 = (⟨(Lib.join (ansW n sq en false rr.data.toList rv.data.toList ver) [32]).toArray⟩ : ByteArray) := by
        refine ba_ext ?_
        obtain ⟨rfl, rfl, rfl, rfl⟩ := Hw.out
        simp only [ba_cat, Hh.out]
        simp [ansW, Lib.join_cons, Lib.joinTail, wFound]
      rw [Hv.out, evV, ← hx]; rfl

    · have Hv := Lib.hid hv
      have y1 : ¬ 9223372036854775807 < hd.size + 8 := by omega
      have y2 : ¬ 9223372036854775807 < hd.size + 8 + d3.size := by omega
      have y3 : ¬ 9223372036854775807 < hd.size + 8 + d3.size + 7 := by omega
      have y4 : ¬ 9223372036854775807 < hd.size + 8 + d3.size + 7 + wr.size := by omega
      have y5 : ¬ 9223372036854775807 < hd.size + 8 + d3.size + 7 + wr.size + 1 := by omega
      have y6 : ¬ 9223372036854775807 < hd.size + 8 + d3.size + 7 + wr.size + 1 + wv.size := by omega
      have y7 : ¬ 9223372036854775807 < hd.size + 8 + d3.size + 7 + wr.size + 1 + wv.size + 1 := by omega
      have y8 : ¬ 9223372036854775807 < hd.size + 8 + d3.size + 7 + wr.size + 1 + wv.size + 1 + d5.size := by omega
      clear hv
      go_wp2_with (go_at_call 48; refine hE2.mono ?_; rintro y w6 ⟨⟨tt, rfl⟩, h6⟩; have p9 := h6.pt_cell; have i0 := p9 0; have i1 := p9 1; have i2 := p9 2; have i3 := p9 3; have i4 := p9 4; simp only [List.getElem?_toArray, List.getElem?_cons_zero, List.getElem?_cons_succ] at i0 i1 i2 i3 i4; clear p9)
      obtain ⟨b8, hb8⟩ : ∃ b, w3.heap.size = b := ⟨_, rfl⟩
      rw [hb8] at h6 i0 i1 i2 i3 i4 ⊢
      have hK : ∀ (M : List HP) (w' : World), Sat B (pt b8 (.cells (resC en true rr rv ver) 51) :: M) w' → (fun w' => w'.cell? ⟨b8, 0, none⟩ = some (.int .i64 en) ∧ w'.cell? ⟨b8, 1, none⟩ = some (.bool true) ∧ w'.cell? ⟨b8, 2, none⟩ = some (.string rr) ∧ w'.cell? ⟨b8, 3, none⟩ = some (.string rv) ∧ w'.cell? ⟨b8, 4, none⟩ = some (.int .u64 ver)) w' := fun M w' h' => ⟨h'.pt_cell 0, h'.pt_cell 1, h'.pt_cell 2, h'.pt_cell 3, h'.pt_cell 4⟩
      have h0 := hK _ _ h6.drew
      go_region_held3 (fun w' => w'.cell? ⟨b8, 0, none⟩ = some (.int .i64 en) ∧ w'.cell? ⟨b8, 1, none⟩ = some (.bool true) ∧ w'.cell? ⟨b8, 2, none⟩ = some (.string rr) ∧ w'.cell? ⟨b8, 3, none⟩ = some (.string rv) ∧ w'.cell? ⟨b8, 4, none⟩ = some (.int .u64 ver))
        (first | exact h0 | exact hK _ _ h8 | exact hK _ _ h9 | exact hK _ _ h10 | exact hK _ _ h11)
        (first
          | (go_at_call_of 47 (Value.int .u64 en); refine (hp3 _ _ h6.drew).mono ?_; rintro y w8 ⟨rfl, h8⟩)
          | (go_at_call_of 43 rr; refine (hp4 _ _ h8).mono ?_; rintro y w9 ⟨rfl, h9⟩)
          | (go_at_call_of 43 rv; refine (hp5 _ _ h9).mono ?_; rintro y w10 ⟨rfl, h10⟩)
          | (go_at_call_of 47 (Value.int .u64 ver); refine (hp6 _ _ h10).mono ?_; rintro y w11 ⟨rfl, h11⟩))
      all_goals go_wp2_with fail
      all_goals go_ret2
      refine ⟨?_, h11.drop.drop⟩
      have hx : hd ++ (⟨#[32, 97, 110, 115, 119, 101, 114, 32]⟩ : ByteArray) ++ d3 ++ (⟨#[32, 102, 111, 117, 110, 100, 32]⟩ : ByteArray) ++ wr ++ (⟨#[32]⟩ : ByteArray) ++ wv ++ (⟨#[32]⟩ : ByteArray) ++ d5 = (⟨(Lib.join (ansW n sq en true rr.data.toList rv.data.toList ver) [32]).toArray⟩ : ByteArray) := by
        refine ba_ext ?_
        obtain ⟨rfl, rfl, rfl, rfl⟩ := Hw.out
        simp only [ba_cat, Hh.out]
        simp [ansW, Lib.join_cons, Lib.joinTail, wFound]
      rw [Hv.out, evV, ← hx]; rfl

  · rw [if_neg hm] at hE2
    have hv : evT n sq false k r c v has e er found rr rv ver = ([], 2) := by rw [evT, if_pos hoks.out, if_neg (by decide), if_neg hm]
    have Hv := Lib.hid hv
    clear hv hm
    go_wp2_with (go_at_call 48; refine hE2.mono ?_; rintro y w6 ⟨⟨tt, rfl⟩, h6⟩)
    go_ret2
    exact ⟨by rw [Hv.out]; rfl, h6.drop.drop⟩
theorem revent (cl : Int) (sq : Nat) (call : Bool) (k : Int) (r c v : ByteArray) (has : Bool) (e : ByteArray) (er : Int) (found : Bool) (rr rv : ByteArray) (ver : Nat) (hS : Sat B L w) :
    Calls Tryz.prog 15 #[.agg (evC cl sq call k r c v has e er found rr rv ver)] w fun y w' => y = evV (evT cl sq call k r c v has e er found rr rv ver) ∧ Sat B L w' := by
  cases hok : evOk cl sq
  · exact rev_bad cl sq call k r c v has e er found rr rv ver hok hS
  · cases call
    · exact rev_ans cl sq k r c v has e er found rr rv ver hok hS
    · exact rev_call cl sq k r c v has e er found rr rv ver hok hS
end
end Go.Proofs.YtcjindifdghpgaaGreatDoor
