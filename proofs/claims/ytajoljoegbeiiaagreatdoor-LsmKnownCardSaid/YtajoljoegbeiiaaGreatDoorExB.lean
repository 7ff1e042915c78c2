/-
  The executor: rows laid, slices cut.
-/
import Derived.Test.YtajoljoegbeiiaaGreatDoorExA
namespace Go.Proofs.YtajoljoegbeiiaaGreatDoor
set_option linter.all false
namespace Ex
open Go.RowKit
section
variable {P : Program} {m : Mz} {h : Hp} {nx : Nat} {w : World} {fr : Fm} {a : Act} {sz : Nat} {o : Oper} {r : Rs}
theorem elemT_some {t e : TypeId} (he : elemT P t = some e) : P.underlying t = some (.slice e) := by
  obtain ⟨u, hu, he⟩ := bind_some he
  cases u <;> first | (cases he; exact hu) | cases he
theorem repL_get (z : List AV) : ∀ (n i : Nat), i < n * z.length → (repL z n)[i]? = z[i % z.length]?
  | 0, i, hi => by omega
  | n + 1, i, hi => by
    show (z ++ repL z n)[i]? = _
    by_cases h1 : i < z.length
    · rw [List.getElem?_append_left h1, Nat.mod_eq_of_lt h1]
    · rw [List.getElem?_append_right (by omega), repL_get z n (i - z.length) (by rw [Nat.add_mul, Nat.one_mul] at hi; omega)]
      congr 1
      rw [Nat.mod_eq_sub_mod (a := i) (by omega)]
theorem repL_len (z : List AV) : ∀ n : Nat, (repL z n).length = n * z.length
  | 0 => by simp [repL]
  | n + 1 => by show (z ++ repL z n).length = _; rw [List.length_append, repL_len z n, Nat.add_mul, Nat.one_mul, Nat.add_comm]
/-- So many zero values, as the model lays them. -/
theorem rowZ_ok {el : TypeId} {n z : Nat} {l : List AV} (hz : rowZ P el n z = some l) (m : Mz) (w : World) :
    l.length = n * z ∧ ∃ zero : Array Value, ((if n * z = 0 then pure #[] else do pure (← zeroValue el).cells) : Sem (Array Value)).run P w = .ok zero w ∧ VRL m l ((Array.range (n * z)).map (zero[· % zero.size]!)).toList := by
  unfold rowZ at hz
  by_cases h0 : n * z = 0
  · have hb : Nat.beq (n * z) 0 = true := by rw [beq_eq]; exact decide_eq_true h0
    rw [hb] at hz; cases hz
    refine ⟨by simp [h0], #[], by simp [h0], ?_⟩
    simp [h0]; exact .nil
  · have hb : Nat.beq (n * z) 0 = false := by rw [beq_eq]; exact decide_eq_false h0
    rw [hb] at hz
    obtain ⟨v, hv, hz⟩ := bind_some (show (zeroT P el).bind (rowV n z) = some l from hz)
    obtain ⟨hl, hz⟩ := cond_some hz
    cases hz
    rw [lenL_eq] at hl
    have hl : v.cells.length = z := Nat.eq_of_beq_eq_true hl
    obtain ⟨i, u, hi, hz0, hov, hrun⟩ := run_zero hv
    have hr := (ofV_ok m 10 u v hov).cells
    have hlen := hr.length
    have hus : u.cells.size = z := by rw [← Array.length_toList, ← hlen, hl]
    refine ⟨by rw [repL_len, hl], u.cells, by simp [h0, hrun], ?_⟩
    have hzp : 0 < z := Nat.pos_of_ne_zero fun e => h0 (by rw [e]; simp)
    refine VRL.of_get (by simp [repL_len, hl]) fun (j : Nat) (x : AV) (hj : (repL v.cells n)[j]? = some x) => ?_
    have hjl : j < n * z := by
      have := (List.getElem?_eq_some_iff.1 hj).1
      rw [repL_len, hl] at this; exact this
    rw [repL_get _ _ _ (by rw [hl]; exact hjl), hl] at hj
    obtain ⟨y, hy, hxy⟩ := hr.get _ _ hj
    refine ⟨y, ?_, hxy⟩
    have hmod : j % z < u.cells.size := by rw [hus]; exact Nat.mod_lt _ hzp
    rw [Array.getElem?_toList] at hy
    simp only [Array.toList_map, Array.toList_range, List.getElem?_map, List.getElem?_range hjl, Option.map_some, hus, getElem!_pos u.cells (j % z) hmod]
    rw [Array.getElem?_eq_getElem hmod] at hy
    exact hy
theorem zero_if {β : Type} {n : Nat} {el : TypeId} {zero : Array Value} (hz : ((if n = 0 then pure #[] else do pure (← zeroValue el).cells) : Sem (Array Value)).run P w = .ok zero w) (f : Array Value → Sem β) :
    (if n = 0 then (pure #[] >>= f) else (zeroValue el >>= fun v => pure v.cells >>= f) : Sem β).run P w = (f zero).run P w := by
  by_cases h0 : n = 0
  · simp only [h0, if_true, Sem.run_pure] at hz
    have hzz : zero = #[] := by cases hz; rfl
    subst hzz
    simp [h0]
  · simp only [h0, if_false, Sem.run_bind, Sem.run_pure] at hz
    simp only [h0, if_false, Sem.run_bind, Sem.run_pure]
    cases hq : (zeroValue el).run P w with
    | ok v w1 =>
      rw [hq] at hz
      simp only [Result.andThen_ok] at hz
      cases hz
      simp
    | halt x w1 => rw [hq] at hz; cases hz
theorem run_buildSlice {t el : TypeId} {n z : Nat} {qs : Array (Nat × Value)} {zero out : Array Value} (ht : P.underlying t = some (.slice el)) (hz : sizeT P el = some z) (hle : n * z ≤ 65536)
    (hzr : ((if n * z = 0 then pure #[] else do pure (← zeroValue el).cells) : Sem (Array Value)).run P w = .ok zero w)
    (hf : Instr.fill (fun i => some (i * z, z)) ((Array.range (n * z)).map (zero[· % zero.size]!)) qs.toList = some out) :
    (Instr.buildSlice t n qs).run P w = .ok (.slice (some ⟨w.heap.size, 0, none⟩) n n) (w.alloc (.cells out el)) := by
  have hbig : ¬ (n * z > 2 ^ 24) := by omega
  unfold Instr.buildSlice
  rw [Sem.run_bind, run_under ht w, Result.andThen_ok]
  show Sem.run P (sizeOf el >>= _) w = _
  rw [Sem.run_bind, run_sizeOf hz, Result.andThen_ok]
  simp only [if_neg hbig]
  refine (zero_if hzr _).trans ?_
  simp only [hf]
  simp [newRow]
theorem d_buildSlice (hW : WR P m h nx w) (hF : FR m fr a.tmps sz) {t : TypeId} {n : Nat} {ps : Array (Nat × Operand)} (ho : o.op = .buildSlice t n ps) (hr : oBuildSlice t n ps P fr h nx = some r) : Did P m h w o a r := by
  obtain ⟨el, hel, hr⟩ := bind_some hr
  obtain ⟨l, hl, hr⟩ := bind_some hr
  obtain ⟨z, hz, hr⟩ := bind_some hr
  obtain ⟨hle, hr⟩ := cond_some hr
  obtain ⟨cs, hcs, rfl⟩ := map_some hr
  obtain ⟨zc, hzc, hcs⟩ := bind_some hcs
  have hle : n * z ≤ 65536 := Nat.le_of_ble_eq_true hle
  obtain ⟨hzl, zero, hzrun, hzr⟩ := rowZ_ok hzc m w
  obtain ⟨h1, h2⟩ := evP_ok hW hF hl
  obtain ⟨out, h3, h4⟩ := fill_ok (m := m) (place := rowPl z) (place' := fun i => some (i * z, z)) (fun i p hp => by cases hp; rfl) l (ps.map fun (i, x) => (i, a.eval x)).toList zc _ cs (by simpa using h1) (fun k p hk => by simpa using h2 k p hk) hzr hcs
  have hol : cs.length = n * z := by
    have : ∀ (qs : List Pt) (xs ys : List AV), fillA (rowPl z) qs xs = some ys → ys.length = xs.length := by
      intro qs
      induction qs with
      | nil => intro xs ys hh; cases hh; rfl
      | cons q qs ih =>
        intro xs ys hh
        obtain ⟨c1, hh1, hh2⟩ := bind_some (show ((rowPl z q.i).bind (fill1 xs q.v)).bind (fillA (rowPl z) qs) = some ys from hh)
        obtain ⟨pl, hp, hh1⟩ := bind_some hh1
        obtain ⟨hc, hh1⟩ := cond_some hh1
        cases hh1
        obtain ⟨g1, g2⟩ := Bool.and_eq_true_iff.1 hc
        have g1 : q.v.cells.length = pl.n := Nat.eq_of_beq_eq_true g1
        have g2 : pl.o + pl.n ≤ xs.length := Nat.le_of_ble_eq_true g2
        rw [ih _ _ hh2, putCells_len _ _ _ (by omega)]
    rw [this _ _ _ hcs, hzl]
  have hos : out.size = n * z := by rw [← Array.length_toList, ← h4.length, hol]
  have hnew := newBk_ok hW h4 hol out (fun i x hx => by rw [← Array.getElem?_toList]; exact hx) el true 0 (by omega) (fun _ => ⟨rfl, hos⟩) (0, 0) (fz_none _ _) (fun _ => rfl)
  refine ⟨_, _, _, .inl ?_, hnew.1, VR.slice (z := ⟨w.heap.size, 0, 0⟩) 0 n n true (upd_at m nx _), hnew.2⟩
  simp [execOp, ho, run_buildSlice (elemT_some hel) hz hle hzrun h3]
theorem wrap64_nat (n : Nat) (hn : n ≤ 1073741824) : IntKind.i64.wrap (n : Int) = n := wrap_small .i64 n (by show n < 9223372036854775808; omega)
theorem bytes_ok {el : TypeId} (hb : ((bytesT P el).map fun b => Nat.ble b 65536).getD false = true) : ∃ i, P.info? el = some i ∧ i.bytes ≤ 65536 := by
  obtain ⟨b, h1, h2⟩ := map_some (getD_true hb)
  obtain ⟨i, hi, rfl⟩ := map_some h1
  exact ⟨i, hi, Nat.le_of_ble_eq_true h2⟩
theorem run_makeSlice {t el : TypeId} (ht : P.underlying t = some (.slice el)) {i : TypeInfo} (hi : P.info? el = some i) (hb : i.bytes ≤ 65536) {kl kc : IntKind} {l c : Nat} (hlc : l ≤ c) (hc : c ≤ 1073741824)
    {zero : Array Value} (hz : ((if c * i.size = 0 then pure #[] else do pure (← zeroValue el).cells) : Sem (Array Value)).run P w = .ok zero w) :
    (Instr.makeSlice t (.int kl (.ofNat l)) (.int kc (.ofNat c))).run P w = .ok (.slice (some ⟨w.heap.size, 0, none⟩) l c) (w.alloc (.cells ((Array.range (c * i.size)).map (zero[· % zero.size]!)) el)) := by
  have e1 := wrap64_nat l (by omega)
  have e2 := wrap64_nat c hc
  have hbig : ¬ ((i.bytes : Int) * (c : Int) > 2 ^ 48) := by
    have : i.bytes * c ≤ 65536 * 1073741824 := Nat.mul_le_mul hb hc
    have h2 := Int.ofNat_le.2 this
    rw [Int.natCast_mul] at h2
    omega
  have hbig2 : ¬ ((281474976710656 : Int) < (i.bytes : Int) * (c : Int)) := by have := hbig; omega
  have hcn : ¬ ((c : Int) < 0) := by omega
  have hln : ¬ ((l : Int) < 0) := by omega
  have hlc' : ¬ ((c : Int) < (l : Int)) := by omega
  unfold Instr.makeSlice
  rw [Sem.run_bind, run_under ht w, Result.andThen_ok]
  show Sem.run P (asInt (.int kl (.ofNat l)) >>= _) w = _
  simp only [asInt, asIntOf, pure_bind, bind_assoc, Int.ofNat_eq_natCast, e1, e2]
  rw [Sem.run_bind, show (typeInfo el).run P w = .ok i w by simp [typeInfo, hi], Result.andThen_ok]
  have hc1 : ((decide ((c : Int) < 0) || decide ((i.bytes : Int) * (c : Int) > 2 ^ 48)) || decide ((l : Int) < 0) || decide ((l : Int) > (c : Int))) = false := by
    simp [hbig2, hcn, hln]; omega
  simp only [hc1]
  rw [if_neg (by simp)]
  have hroom : ¬ ((c : Int).toNat * i.bytes > roomBytes) := by
    have hnat : c * i.bytes ≤ 1073741824 * 65536 := Nat.mul_le_mul hc hb
    simp only [Int.toNat_natCast, roomBytes]; omega
  rw [Sem.run_bind]
  unfold askRoom
  rw [if_neg hroom, Sem.run_pure, Result.andThen_ok, Sem.run_bind, run_sizeOf (show sizeT P el = some i.size by simp [sizeT, hi, sizeI]), Result.andThen_ok]
  refine (zero_if (n := c * i.size) hz (fun zero => do
    let a ← newRow el ((Array.range (c * i.size)).map (zero[· % zero.size]!))
    pure (Value.slice (some a) l c))).trans ?_
  simp [newRow]
theorem d_make (hW : WR P m h nx w) (hF : FR m fr a.tmps sz) {t : TypeId} {x y : Operand} (ho : o.op = .makeSlice t x y) (hr : oMake t x y P fr h nx = some r) : Did P m h w o a r := by
  obtain ⟨el, hel, hr⟩ := bind_some hr
  obtain ⟨l, hl, hr⟩ := bind_some hr
  obtain ⟨c, hc, hr⟩ := bind_some hr
  obtain ⟨hok, hr⟩ := cond_some hr
  obtain ⟨z, hz, hr⟩ := bind_some hr
  obtain ⟨v1, h1, hl⟩ := bind_some hl
  obtain ⟨v2, h2, hc⟩ := bind_some hc
  obtain ⟨k1, rfl⟩ := asN_some hl
  obtain ⟨k2, rfl⟩ := asN_some hc
  have e1 := (evA_ok hW hF h1).int_inv
  have e2 := (evA_ok hW hF h2).int_inv
  unfold msOk at hok
  simp only [Bool.and_eq_true] at hok
  obtain ⟨⟨g1, g2⟩, g3⟩ := hok
  have g1 : l ≤ c := Nat.le_of_ble_eq_true g1
  have g2 : c ≤ 1073741824 := Nat.le_of_ble_eq_true g2
  obtain ⟨i, hi, hb⟩ := bytes_ok g3
  obtain ⟨i', hi', hzs⟩ := sizeT_some hz
  rw [hi] at hi'; cases hi'
  unfold msGo at hr
  by_cases hz1 : z = 1
  · subst hz1
    rw [show Nat.beq 1 1 = true from rfl] at hr
    obtain ⟨zv, hzv, hr⟩ := bind_some (show (zeroT P el).bind (mkSl1 el l c h nx) = some r from hr)
    obtain ⟨hone, hr⟩ := cond_some hr
    cases hr
    obtain ⟨i2, u, hi2, hu0, hov, hrun⟩ := run_zero hzv
    have hvu := ofV_ok m 10 u zv hov
    have huc : u.cells = #[u] := by
      cases hvu <;> first | rfl | (cases hone; done)
    have hzr : ((if c * i.size = 0 then pure #[] else do pure (← zeroValue el).cells) : Sem (Array Value)).run P w = .ok (if c = 0 then #[] else #[u]) w := by
      rw [hzs, Nat.mul_one]
      by_cases hc0 : c = 0
      · simp [hc0]
      · simp [hc0, hrun, huc]
    have hms := run_makeSlice (w := w) (elemT_some hel) hi hb (kl := k1) (kc := k2) g1 g2 hzr
    rw [hzs, Nat.mul_one] at hms
    simp only [Int.ofNat_eq_natCast] at hms
    obtain ⟨cs, hcs⟩ : ∃ cs, (Array.range c).map (fun j => (if c = 0 then #[] else #[u])[j % (if c = 0 then #[] else #[u]).size]!) = cs := ⟨_, rfl⟩
    rw [hcs] at hms
    have hsize : cs.size = c := by rw [← hcs]; simp
    have hget : ∀ j, j < c → cs[j]? = some u := fun j hj => by
      have hc0 : ¬ c = 0 := by omega
      rw [← hcs]
      simp [hc0, Array.getElem?_map, Array.getElem?_range, hj, Nat.mod_one]
    have hle := upd_le (⟨w.heap.size, 0, 0⟩ : Cz) (hW.fresh nx (Nat.le_refl _))
    have hal := hW.alloc (.cells cs el) (.cells ⟨.nil, zv, c, el, false, true, false, [], 0, 0⟩) ⟨w.heap.size, 0, 0⟩ rfl ⟨_, cs, (0, 0), upd_at _ _ _, heap_alloc_new w _, by show 0 + c + 0 * _ ≤ cs.size; omega,
      fun j hj => ⟨u, by rw [Nat.zero_add]; exact hget j hj, hvu.mono hle⟩, fun _ => fz_none _ _, fun _ => rfl, fun _ _ => ⟨rfl, hsize⟩, fun _ _ _ => rfl⟩
    refine ⟨_, _, _, .inl ?_, hal.1, VR.slice (z := ⟨w.heap.size, 0, 0⟩) 0 l c true (upd_at m nx _), hal.2⟩
    simp [execOp, ho, e1, e2, hms]
  · rw [show Nat.beq z 1 = false by rw [beq_eq]; exact decide_eq_false hz1] at hr
    obtain ⟨hcz, hr⟩ := cond_some (show (bif Nat.ble c 65536 then (rowZ P el c z).map (mkSlN el l c z h nx) else none) = some r from hr)
    obtain ⟨cs, hcs, rfl⟩ := map_some hr
    obtain ⟨hzl, zero, hzrun, hzr⟩ := rowZ_ok hcs m w
    subst hzs
    have hms := run_makeSlice (w := w) (elemT_some hel) hi hb (kl := k1) (kc := k2) g1 g2 hzrun
    obtain ⟨out, hout⟩ : ∃ out, (Array.range (c * i.size)).map (zero[· % zero.size]!) = out := ⟨_, rfl⟩
    simp only [Int.ofNat_eq_natCast] at hms
    rw [hout] at hms hzr
    have hos : out.size = c * i.size := by rw [← hout]; simp
    have hnew := newBk_ok hW hzr hzl out (fun j x hx => by rw [← Array.getElem?_toList]; exact hx) el true 0 (by omega) (fun _ => ⟨rfl, hos⟩) (0, 0) (fz_none _ _) (fun _ => rfl)
    refine ⟨_, _, _, .inl ?_, hnew.1, VR.slice (z := ⟨w.heap.size, 0, 0⟩) 0 l c true (upd_at m nx _), hnew.2⟩
    simp [execOp, ho, e1, e2, hms]
/-! ### Slices cut -/
theorem VR.slice_inv {b oo n c : Nat} {ex : Bool} {u : Value} (hv : VR m (.slice b oo n c ex) u) :
    ∃ z, m b = some z ∧ (u = .slice (some ⟨z.blk, z.sh + oo, none⟩) n (if ex = true then c else c + z.ext) ∨ (n = 0 ∧ c = 0 ∧ ex = false ∧ ∃ A, u = .slice (some A) 0 0)) := by
  cases hv with
  | slice _ _ _ _ hz => exact ⟨_, hz, .inl rfl⟩
  | sliceZ _ A hz => exact ⟨_, hz, .inr ⟨rfl, rfl, rfl, A, rfl⟩⟩
theorem run_bound {v : AV} {n : Nat} (hn : asN v = some n) {X : Value} (hX : VR m v X) {y : Nat} (hy : n ≤ y) (code : BoundsCode) (w : World) : (Instr.sliceBound X y code).run P w = .ok n w := by
  obtain ⟨k, rfl⟩ := asN_some hn
  rw [hX.int_inv]
  have h1 : (n : Int) ≤ (y : Int) := by omega
  simp [Instr.sliceBound, asIntOf, hy]
/-- An operand that may be missing. -/
def OV (m : Mz) : Option AV → Option Value → Prop
  | none, none => True
  | some v, some u => VR m v u
  | _, _ => False
theorem bounds_ok {lo hi mx : Option AV} {n c : Nat} {d : Bd} (hb : bounds lo hi mx n c = some d) {lo' hi' mx' : Option Value} (h1 : OV m lo lo') (h2 : OV m hi hi') (h3 : OV m mx mx') {C : Nat} (hC : c ≤ C) (isS : Bool) (w : World) :
    d.l ≤ d.h ∧ d.h ≤ d.m ∧ d.m ≤ c ∧ (isSomeA mx = false → d.m = c) ∧ (Instr.sliceBounds isS n C lo' hi' mx').run P w = .ok (d.l, d.h, if isSomeA mx = true then d.m else C) w := by
  -- low
  have low : ∀ (hh M : Nat), bdH lo M hh = some d → d.l ≤ d.h ∧ d.h = hh ∧ d.m = M ∧ hh ≤ M ∧ ∀ code, ((match lo' with | some v => Instr.sliceBound v hh code | none => pure 0) : Sem Nat).run P w = .ok d.l w := by
    intro hh M hd
    obtain ⟨g1, hd⟩ := cond_some hd
    have g1 : hh ≤ M := Nat.le_of_ble_eq_true g1
    cases lo with
    | none =>
      cases lo' with
      | some u => exact h1.elim
      | none => cases hd; exact ⟨Nat.zero_le _, rfl, rfl, g1, fun _ => rfl⟩
    | some v =>
      cases lo' with
      | none => exact h1.elim
      | some u =>
        obtain ⟨l, hl, hd⟩ := bind_some (show (asN v).bind (bdL hh M) = some d from hd)
        obtain ⟨g2, hd⟩ := cond_some hd
        cases hd
        have g2 : l ≤ hh := Nat.le_of_ble_eq_true g2
        exact ⟨g2, rfl, rfl, g1, fun code => run_bound hl h1 g2 code w⟩
  cases mx with
  | none =>
    cases mx' with
    | some u => exact h3.elim
    | none =>
      obtain ⟨_, hb⟩ := cond_some (show bdM lo hi (some n) c c = some d from hb)
      cases hi with
      | none =>
        cases hi' with
        | some u => exact h2.elim
        | none =>
          obtain ⟨l1, l2, l3, l4, l5⟩ := low n c hb
          refine ⟨l1, by omega, by omega, fun _ => l3, ?_⟩
          cases lo' with
          | none => have := l5 .sliceB; simp only [Sem.run_pure] at this; simp [Instr.sliceBounds, isSomeA, ← l2]; injection this
          | some u => have := l5 .sliceB; simp [Instr.sliceBounds, isSomeA, this, l2]
      | some v =>
        cases hi' with
        | none => exact h2.elim
        | some u =>
          obtain ⟨hh, hhv, hb⟩ := bind_some (show (asN v).bind (bdH lo c) = some d from hb)
          obtain ⟨l1, l2, l3, l4, l5⟩ := low hh c hb
          refine ⟨l1, by omega, by omega, fun _ => l3, ?_⟩
          have g := fun code => run_bound (P := P) hhv h2 (y := C) (by omega) code w
          cases lo' with
          | none => have := l5 .sliceB; simp only [Sem.run_pure] at this; simp [Instr.sliceBounds, isSomeA, g, ← l2]; injection this
          | some u => have := l5 .sliceB; simp [Instr.sliceBounds, isSomeA, this, g, l2]
  | some x =>
    cases mx' with
    | none => exact h3.elim
    | some u =>
      obtain ⟨M, hM, hb⟩ := bind_some (show (asN x).bind (bdM lo hi none c) = some d from hb)
      obtain ⟨g1, hb⟩ := cond_some hb
      have g1 : M ≤ c := Nat.le_of_ble_eq_true g1
      have gM := fun code => run_bound (P := P) hM h3 (y := C) (by omega) code w
      cases hi with
      | none => cases hb
      | some v =>
        cases hi' with
        | none => exact h2.elim
        | some u' =>
          obtain ⟨hh, hhv, hb⟩ := bind_some (show (asN v).bind (bdH lo M) = some d from hb)
          obtain ⟨l1, l2, l3, l4, l5⟩ := low hh M hb
          refine ⟨l1, by omega, by omega, (fun hc => by cases hc), ?_⟩
          have g := fun code => run_bound (P := P) hhv h2 (y := M) (by omega) code w
          cases lo' with
          | none => have := l5 .slice3C; simp only [Sem.run_pure] at this; simp [Instr.sliceBounds, isSomeA, gM, g, ← l2, l3]; injection this
          | some u => have := l5 .slice3C; simp [Instr.sliceBounds, isSomeA, gM, this, g, l2, l3]
end
end Ex
end Go.Proofs.YtajoljoegbeiiaaGreatDoor
