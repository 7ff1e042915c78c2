/-
  The executor: the other builtins.
-/
import Derived.Test.YtajoljoegbeiiaaGreatDoorExE
import Derived.MapKept
import Derived.Lib.AppendZerosOnto
namespace Go.Proofs.YtajoljoegbeiiaaGreatDoor
set_option linter.all false
namespace Ex
open Go.RowKit
section
variable {P : Program} {m : Mz} {h : Hp} {nx : Nat} {w : World} {fr : Fm} {a : Act} {sz : Nat} {o : Oper} {r : Rs}
/-- A piece of the model's that does what the executor did. -/
def DidV (P : Program) (m : Mz) (h : Hp) (w : World) (S : Sem Value) (r : Rs) : Prop := ∃ v w' m', S.run P w = .ok v w' ∧ WR P m' r.h r.nx w' ∧ VR m' r.v v ∧ Evo m h w m' r.h w'
theorem didV_pure (hW : WR P m h nx w) {S : Sem Value} {v : AV} {u : Value} (hrun : S.run P w = .ok u w) (hv : VR m v u) : DidV P m h w S ⟨v, h, nx⟩ := ⟨u, w, m, hrun, hW, hv, Evo.refl m h w⟩
theorem int_vr (m : Mz) (n : Nat) : VR m (.int .i64 (.ofNat n)) (goInt n) := .int _ _
theorem lenD_A {x : AV} {n : Nat} (hl : lenD x = some n) : lenA x = some n := by
  cases x <;> first | (cases hl; rfl) | cases hl
theorem lenD_ok {x : AV} {n : Nat} (hl : lenD x = some n) {X : Value} (hv : VR m x X) : ∃ A C, X = .slice A n C := by
  cases hv <;> first | (cases hl; done) | skip
  · cases hl; exact ⟨_, _, rfl⟩
  · cases hl; exact ⟨_, _, rfl⟩
  · cases hl; exact ⟨_, _, rfl⟩
theorem copy_ok (hW : WR P m h nx w) {ts : Array TypeId} {t ty : TypeId} (hts : ts[0]? = some t) {d s : AV} {D S : Value} (hd : VR m d D) (hs : VR m s S) (hr : copyA P t d s h nx = some r) : DidV P m h w (Builtin.copy_ ts ty #[D, S]) r := by
  obtain ⟨e, he, hr⟩ := bind_some hr
  obtain ⟨z, hz, hr⟩ := bind_some hr
  obtain ⟨x, hx, hr⟩ := bind_some hr
  obtain ⟨y, hy, hr⟩ := bind_some hr
  have ht := elemT_some he
  have hlen := lenOf_ok (P := P) hx hs
  obtain ⟨A, C, rfl⟩ := lenD_ok hy hd
  obtain ⟨k, hk⟩ : ∃ k, Nat.min x y = k := ⟨_, rfl⟩
  have hk' : min x y = k := hk
  rw [hk] at hr
  have hzz := fun w => run_sizeOf (P := P) hz w
  rcases cond_none hr with ⟨h0, hr⟩ | ⟨h0, hr⟩
  · have h0 : k = 0 := Nat.eq_of_beq_eq_true h0
    subst h0
    cases hr
    obtain ⟨us, h1, h2, h3, _⟩ := news_ok (P := P) (n := 0) (z := z) hW rfl hx (Nat.zero_le _) hs
    have hu : us = [] := List.eq_nil_of_length_eq_zero (by rw [h1]; simp)
    subst hu
    have h3 := h3 w rfl
    refine didV_pure hW ?_ (int_vr m 0)
    cases A <;> simp [Builtin.copy_, hts, run_underlying ht, hlen, hzz, hk', h3, storeCells]
  · have h0 : k ≠ 0 := fun e => by rw [e] at h0; cases h0
    obtain ⟨news, hn, hr⟩ := bind_some hr
    obtain ⟨us, h1, h2, h3, _⟩ := news_ok (P := P) hW hn hx (by rw [← hk]; exact Nat.min_le_left _ _) hs
    obtain ⟨sl, hsl, hr⟩ := bind_some hr
    obtain ⟨h', hst, rfl⟩ := map_some hr
    obtain ⟨b, oo, n, c, ex, rfl, rfl⟩ := asSl_some hsl
    obtain ⟨zz, w', hzz2, hrun, hW', hE⟩ := storeN_ok hW hst h2
    obtain ⟨z2, hz2, hcase⟩ := hd.slice_inv
    rw [hzz2] at hz2; cases hz2
    rcases hcase with hh | ⟨g1, _⟩
    · injection hh with hA _ _
      subst hA
      have h3 := h3 w rfl
      refine ⟨goInt k, w', m, ?_, hW', int_vr m k, hE⟩
      simp [Builtin.copy_, hts, run_underlying ht, hlen, hzz, hk', h3, hrun]
    · exfalso
      have : y = n := by cases hy; rfl
      have := Nat.min_le_right x y
      have e : x.min y = min x y := rfl
      omega
theorem getObj_run {b : Nat} {es : Array MapEntry} {cl : Nat} (hb : w.heap[b]? = some (.map es cl)) : (getObj b).run P w = .ok (.map es cl) w := by simp [getObj, Sem.run, hb]
theorem getMp_some {b : Nat} {mp : Mp} (hb : getMp h b = some mp) : h.get .dead b = .map mp.es mp.cl := by
  unfold getMp mpO at hb
  cases hx : h.get .dead b with
  | map es cl => rw [hx] at hb; cases hb; rfl
  | _ => rw [hx] at hb; cases hb
theorem ER.length {es : List Ent} {es' : List MapEntry} (he : ER m es es') : es.length = es'.length := by
  induction he with
  | nil => rfl
  | cons _ _ _ ih => simp [ih]
theorem WR.mp (hW : WR P m h nx w) {b : Nat} {mp : Mp} (hb : getMp h b = some mp) : ∃ (z : Cz) (es' : Array MapEntry), m b = some z ∧ w.heap[z.blk]? = some (.map es' mp.cl) ∧ ER m mp.es es'.toList := by
  have := hW.rel b
  rw [getMp_some hb] at this
  exact this
theorem VR.map_inv {b : Nat} {u : Value} (hv : VR m (.mapv b) u) : ∃ z, m b = some z ∧ u = .map (some z.blk) := by cases hv with | mapv hz => exact ⟨_, hz, rfl⟩
theorem setObj_map {b : Nat} {es : Array MapEntry} {cl : Nat} (ob : Obj) (hb : w.heap[b]? = some (.map es cl)) : (setObj b ob).run P w = .ok () { w with heap := w.heap.setIfInBounds b ob } := by simp [setObj, Sem.run, hb]
theorem len_ok (hW : WR P m h nx w) {ts : Array TypeId} {t ty : TypeId} (hts : ts[0]? = some t) {x : AV} {X : Value} (hx : VR m x X) {n : Nat} (hr : lenB P t x h = some n) : (Builtin.len_ ts ty #[X]).run P w = .ok (goInt n) w := by
  obtain ⟨u, hu, hr⟩ := bind_some hr
  cases u with
  | string =>
    have hr : strN x = some n := hr
    cases x with
    | str s =>
      cases hr
      cases hx
      have hsz : (⟨s.toArray⟩ : ByteArray).size = s.length := by simp [ByteArray.size]
      rw [lenL_eq]
      simp [Builtin.len_, hts, run_underlying hu, hsz]
    | rep b k =>
      cases hr
      cases hx
      have hsz : (⟨Array.replicate n b⟩ : ByteArray).size = n := by simp [ByteArray.size]
      simp [Builtin.len_, hts, run_underlying hu, hsz]
    | _ => cases hr
  | array k e => cases hr; simp [Builtin.len_, hts, run_underlying hu]
  | pointer e =>
    obtain ⟨ar, har, rfl⟩ := map_some (show ((P.underlying e).bind arrD).map (·.n) = some n from hr)
    obtain ⟨ut, hut, har⟩ := bind_some har
    have har := arrD_some har
    subst har
    simp [Builtin.len_, hts, run_underlying hu, run_underlying hut]
  | slice e =>
    cases hx <;> first | (cases hr; done) | (cases hr; simp [Builtin.len_, hts, run_underlying hu])
  | map k e =>
    obtain ⟨es, hes, rfl⟩ := map_some (show (mpA h x).map lenL = some n from hr)
    cases x with
    | mapv b =>
      obtain ⟨mp, hmp, rfl⟩ := map_some (show (getMp h b).map (·.es) = some es from hes)
      obtain ⟨z, es', h1, h2, h3⟩ := hW.mp hmp
      obtain ⟨z', hz', rfl⟩ := hx.map_inv
      rw [hz'] at h1; cases h1
      have := h3.length
      simp [Builtin.len_, hts, run_underlying hu, getObj_run h2, lenL_eq, this]
    | nilm => cases hes; cases hx; simp [Builtin.len_, hts, run_underlying hu, lenL]
    | _ => cases hes
  | _ => cases hr
theorem cap_ok (hW : WR P m h nx w) {ts : Array TypeId} {t ty : TypeId} (hts : ts[0]? = some t) {x : AV} {X : Value} (hx : VR m x X) {n : Nat} (hr : capB P t x h = some n) : (Builtin.cap_ ts ty #[X]).run P w = .ok (goInt n) w := by
  obtain ⟨u, hu, hr⟩ := bind_some hr
  cases u with
  | array k e => cases hr; simp [Builtin.cap_, hts, run_underlying hu]
  | slice e =>
    cases x with
    | nils => cases hr; cases hx; simp [Builtin.cap_, hts, run_underlying hu]
    | slice b oo ln c ex =>
      obtain ⟨hc, hr⟩ := cond_some (show (bif ex || ((getBk h b).map (·.fx)).getD false then some c else none) = some n from hr)
      obtain rfl : c = n := Option.some.inj hr
      obtain ⟨z, hz, hcase⟩ := hx.slice_inv
      have main : ∃ A, X = .slice A ln c := by
        rcases hcase with rfl | ⟨g1, g2, g3, A, rfl⟩
        · rcases Bool.or_eq_true_iff.1 hc with hc | hc
          · rw [hc]; exact ⟨_, rfl⟩
          · obtain ⟨k, hk, hfx⟩ := map_some (getD_true hc)
            obtain ⟨z', cs, fz, hB⟩ := hW.bk hk
            have := hB.hm; rw [hz] at this; cases this
            rw [hB.fx hfx]
            exact ⟨_, by split <;> rfl⟩
        · subst g1 g2; exact ⟨_, rfl⟩
      obtain ⟨A, rfl⟩ := main
      simp [Builtin.cap_, hts, run_underlying hu]
    | _ => cases hr
  | _ => cases hr
/-! ### Blocks that are no cells -/
def boxed (o : AO) : Bool := match o with
  | .cells _ => false
  | .dead => false
  | _ => true
def notCells (o : AO) : Bool := match o with | .cells _ => false | _ => true
theorem boxed_live {o : AO} (h : boxed o = true) : o ≠ .dead := fun e => by rw [e] at h; cases h
theorem Apart.ne {o : AO} (ho : boxed o = true) {b x : Nat} {z zx : Cz} {ox : AO} (h : Apart o b x z zx ox) : zx.blk ≠ z.blk := by
  cases o <;> first | (cases ho; done) | exact h
/-- A block that is no row of cells has turned. -/
theorem WR.obj {w' : World} (hW : WR P m h nx w) {b : Nat} {z : Cz} (hb : boxed (h.get .dead b) = true) (hz : m b = some z) (hw2 : ∀ j, j ≠ z.blk → w'.heap[j]? = w.heap[j]?) (hsz : w'.heap.size = w.heap.size)
    (hos : w'.os = w.os) (ht : w'.tape = w.tape) (hp : w'.output = w.output) {ao' : AO} (hao : notCells ao' = true) (hr : OR P m w' b ao') : WR P m (h.set .dead b ao') nx w' ∧ Evo m h w m (h.set .dead b ao') w' := by
  have hapb : ∀ x zx, x ≠ b → m x = some zx → h.get .dead x ≠ .dead → zx.blk ≠ z.blk := fun x zx hx hmx hd => Apart.ne hb (hW.ap b x z zx hx hz hmx hd)
  refine ⟨⟨hW.gl, hW.fresh, fun y => ?_, ?_⟩, Le.refl m, hos, ht, hp, by rw [hsz]; exact Nat.le_refl _, ?_, ?_, ?_⟩
  · rw [Tr.get_set]
    by_cases hy : y = b
    · rw [if_pos hy]; subst hy; exact hr
    · rw [if_neg hy]
      refine (hW.rel y).mono (Le.refl m) fun zy hmy hd => hw2 _ (hapb y zy hy hmy hd)
  · intro y x zy zx hx hmy hmx hlive
    rw [Tr.get_set] at hlive
    rw [Tr.get_set, Tr.get_set]
    by_cases hy : y = b
    · rw [if_pos hy]; subst hy
      rw [if_neg hx] at hlive
      rw [hz] at hmy; cases hmy
      exact Apart.symm_none (hapb x zx hx hmx hlive)
    · rw [if_neg hy]
      by_cases hxb : x = b
      · subst hxb
        rw [hz] at hmx; cases hmx
        by_cases hdy : h.get .dead y = .dead
        · rw [hdy]; trivial
        · have := hapb y zy hy hmy hdy
          exact Apart.symm_none (by omega)
      · rw [if_neg hxb] at hlive ⊢
        exact hW.ap y x zy zx hx hmy hmx hlive
  · intro j hj hn
    refine hw2 j fun e => hn ⟨b, z, hz, e.symm, ?_⟩
    revert hb; cases h.get .dead b <;> intro hb <;> first | trivial | cases hb
  · rintro j hj ⟨y, zy, hmy, hyj, hoy⟩
    rw [Tr.get_set] at hoy
    by_cases hy : y = b
    · subst hy
      refine ⟨y, zy, hmy, hyj, ?_⟩
      revert hb; cases h.get .dead y <;> intro hb <;> first | trivial | cases hb
    · rw [if_neg hy] at hoy; exact ⟨y, zy, hmy, hyj, hoy⟩
  · rintro j hj ⟨y, zy, hmy, hyj, hoy⟩
    rw [Tr.get_set] at hoy
    by_cases hy : y = b
    · subst hy
      exact ⟨y, zy, hmy, hyj, boxed_live hb⟩
    · rw [if_neg hy] at hoy; exact ⟨y, zy, hmy, hyj, hoy⟩
theorem set_other (w : World) (g j : Nat) (ob : Obj) (h : j ≠ g) : ({ w with heap := w.heap.setIfInBounds g ob } : World).heap[j]? = w.heap[j]? := by
  simp [Array.getElem?_setIfInBounds, Ne.symm h]
theorem set_at {w : World} {g : Nat} {old : Obj} (ob : Obj) (h : w.heap[g]? = some old) : ({ w with heap := w.heap.setIfInBounds g ob } : World).heap[g]? = some ob := by
  have hlt := (Array.getElem?_eq_some_iff.1 h).1
  simp [Array.getElem?_setIfInBounds, hlt]
/-- A map has turned. -/
theorem map_turn (hW : WR P m h nx w) {b : Nat} {mp : Mp} (hb : getMp h b = some mp) {es2 : List Ent} {cl2 : Nat} {z : Cz} (hz : m b = some z) {old : Array MapEntry} (ho : w.heap[z.blk]? = some (.map old mp.cl)) {new : Array MapEntry} (he : ER m es2 new.toList) :
    WR P m (setMp h b es2 cl2) nx { w with heap := w.heap.setIfInBounds z.blk (.map new cl2) } ∧ Evo m h w m (setMp h b es2 cl2) { w with heap := w.heap.setIfInBounds z.blk (.map new cl2) } := by
  refine hW.obj (by rw [getMp_some hb]; rfl) hz (fun j hj => set_other w _ j _ hj) (by simp) rfl rfl rfl rfl ⟨z, new, hz, set_at _ ho, he⟩
theorem elemD_some {u : TypeDesc} {e : TypeId} (h : elemD u = some e) : u = .slice e := by
  cases u <;> first | (cases h; rfl) | cases h
theorem rowN_ok {el : TypeId} {n z : Nat} {l : List AV} (hz : rowZ P el n z = some l) (h0 : n * z ≠ 0) (m : Mz) : ∃ zv : Value, (∀ w, (zeroValue el).run P w = .ok zv w) ∧ zv.cells.size = z ∧ VRL m l (Builtin.zeroCells zv.cells n).toList := by
  have hz' := hz
  unfold rowZ at hz'
  have hb : Nat.beq (n * z) 0 = false := by rw [beq_eq]; exact decide_eq_false h0
  rw [hb] at hz'
  obtain ⟨v, hv, hz'⟩ := bind_some (show (zeroT P el).bind (rowV n z) = some l from hz')
  obtain ⟨hl, _⟩ := cond_some hz'
  rw [lenL_eq] at hl
  have hl : v.cells.length = z := Nat.eq_of_beq_eq_true hl
  obtain ⟨i, u, hi, hz0, hov, hrun⟩ := run_zero hv
  have hus : u.cells.size = z := by rw [← Array.length_toList, ← (ofV_ok m 10 u v hov).cells.length, hl]
  refine ⟨u, hrun, hus, ?_⟩
  obtain ⟨w⟩ : Nonempty World := ⟨default⟩
  obtain ⟨_, zero, hzr, hvr⟩ := rowZ_ok hz m w
  simp only [h0, if_false, Sem.run_bind, hrun, Result.andThen_ok, Sem.run_pure] at hzr
  cases hzr
  unfold Builtin.zeroCells
  rw [hus] at hvr ⊢
  exact hvr
theorem asSl_of {v : AV} {s : Sl} (h : asSl v = some s) : v = .slice s.b s.o s.n s.c s.ex := by cases v <;> first | (cases h; rfl) | cases h
theorem asN_of {v : AV} {n : Nat} (h : asN v = some n) : ∃ k, v = .int k n := by
  cases v <;> first | (cases h; done) | skip
  rename_i k z
  cases z with
  | ofNat a =>
    have h : some a = some n := h
    cases h
    exact ⟨k, rfl⟩
  | negSucc a => cases h
theorem zeros_ok (hW : WR P m h nx w) {t u ty : TypeId} {s x : AV} {S X : Value} (hs : VR m s S) (hx : VR m x X) (hu : ((P.underlying u).map intD).getD false = true) (hr : zerosA P t s x h nx = some r) :
    ∃ v w' m', (Builtin.append_ #[t, u] ty #[S, X]).run P w = .ok v w' ∧ WR P m' r.h r.nx w' ∧ VR m' r.v v ∧ Evo m h w m' r.h w' := by
  obtain ⟨⟨b, oo, ln, c, ex⟩, hsl, hr⟩ := bind_some hr
  obtain ⟨n, hn, hr⟩ := bind_some hr
  obtain ⟨e, he, hr⟩ := bind_some hr
  obtain ⟨z, hz, hr⟩ := bind_some hr
  obtain ⟨hc, hr⟩ := cond_some hr
  simp only [Bool.and_eq_true] at hc
  obtain ⟨⟨⟨⟨⟨c1, c2⟩, c3⟩, c4⟩, c5⟩, c6⟩ := hc
  obtain ⟨zs, hzs, hr⟩ := bind_some hr
  obtain ⟨old, hold, rfl⟩ := map_some hr
  obtain rfl := asSl_of hsl
  obtain ⟨k, rfl⟩ := asN_of hn
  have c2 : 0 < n := Nat.le_of_ble_eq_true c2
  have c3 : c < ln + n := Nat.le_of_ble_eq_true c3
  have c4 : ln + n ≤ 1073741824 := Nat.le_of_ble_eq_true c4
  obtain ⟨i, zv, hi, hzi, hz0, hzsz, hzp, hb⟩ := elemOk_ok hz c5
  have ht := elemT_some he
  subst hzi
  obtain ⟨zz, hzz, hcase⟩ := hs.slice_inv
  obtain ⟨os, hol, hvo, hfo, hco⟩ := news_ok (P := P) hW hold (show lenA (.slice b oo ln c ex) = some ln from rfl) (Nat.le_refl _) hs
  obtain ⟨zv', hzr, hz', hvz⟩ := rowN_ok hzs (Nat.mul_ne_zero (by omega) (by omega)) m
  have hzz' : zv' = zv := by
    have h1 := hzr w
    rw [show (zeroValue e).run P w = .ok zv w by simp [zeroValue, typeInfo, hi, hz0]] at h1
    cases h1; rfl
  subst hzz'
  obtain ⟨kn, htn⟩ : ∃ kn, P.underlying u = some (.int kn) := by
    obtain ⟨d, hd, hs⟩ := map_some (getD_true hu)
    cases d <;> first | (cases hs; done) | exact ⟨_, hd⟩
  cases hx
  have c1 : ex = true := c1
  obtain ⟨A, C, hS, hC⟩ : ∃ A C, S = .slice A ln C ∧ C = c := by
    rcases hcase with rfl | ⟨g1, g2, g3, A, rfl⟩
    · exact ⟨_, _, rfl, by rw [if_pos c1]⟩
    · subst g1 g2; exact ⟨_, _, rfl, rfl⟩
  subst hC
  have fit : Builtin.nextslicecap (ln + n) C * i.bytes ≤ 281474976710656 := growslice_fits c3 (by
    have : (ln + n) * i.bytes ≤ 1073741824 * 65536 := Nat.mul_le_mul c4 hb
    omega)
  have h48 : n * i.bytes ≤ 281474976710656 := by
    have : n * i.bytes ≤ 1073741824 * 65536 := Nat.mul_le_mul (by omega) hb
    omega
  have hrun := Lib.run_append_grow_zeros (P := P) w t u ty e i zv' k kn ht htn hi hz0 A ln C os (by rw [← hS]; exact hfo w.drew rfl) n c2 hzp c3 (by omega) h48 fit
  have hall := hvo.append hvz
  have hzl : (Builtin.zeroCells zv'.cells n).toList.length = n * i.size := by
    rw [← hvz.length]
    exact (rowZ_ok hzs m w).1
  have hal : (os ++ (Builtin.zeroCells zv'.cells n).toList).length = (ln + n) * i.size := by rw [List.length_append, Nat.add_mul, hol, hzl]
  obtain ⟨m', g1, g2, g3⟩ := grown_ok hW hall hal hz (zero := zv'.cells) hzsz (grownCap_ge w (ln + n) C e)
  have e1 : (os ++ (Builtin.zeroCells zv'.cells n).toList).toArray = os.toArray ++ Builtin.zeroCells zv'.cells n := by apply Array.ext'; simp
  rw [e1] at g1 g3
  refine ⟨_, _, m', by rw [hS]; exact hrun, ?_, g2, ?_⟩
  · show WR P m' (newCells h nx (cat old zs) _ e false) _ _; rw [cat_eq]; exact g1
  · show Evo _ _ _ m' (newCells h nx (cat old zs) _ e false) _; rw [cat_eq]; exact g3
theorem clear_ok (hW : WR P m h nx w) {ts : Array TypeId} {t ty : TypeId} (hts : ts[0]? = some t) {x : AV} {X : Value} (hx : VR m x X) (hr : (P.underlying t).bind (clrU P x h nx) = some r) : DidV P m h w (Builtin.clear_ ts ty #[X]) r := by
  obtain ⟨u, hu, hr⟩ := bind_some hr
  cases x with
  | nilm =>
    cases hr; cases hx
    exact didV_pure hW (u := .tuple #[]) (by simp [Builtin.clear_, hts, run_underlying hu]) (un_undef m)
  | nils =>
    cases hr; cases hx
    exact didV_pure hW (u := .tuple #[]) (by simp [Builtin.clear_, hts, run_underlying hu]) (un_undef m)
  | mapv b =>
    obtain ⟨mp, hmp, rfl⟩ := map_some (show (getMp h b).map (clrMp h nx b) = some r from hr)
    obtain ⟨z, es', h1, h2, h3⟩ := hW.mp hmp
    cases hx
    rename_i z' hz'
    rw [hz'] at h1; cases h1
    obtain ⟨g1, g2⟩ := map_turn (es2 := []) (cl2 := mp.cl) hW hmp hz' h2 (new := #[]) .nil
    refine ⟨.tuple #[], _, m, ?_, g1, un_undef m, g2⟩
    cases u <;> simp [Builtin.clear_, hts, run_underlying hu, getObj_run h2, setObj_map _ h2]
  | slice b oo n c ex =>
    obtain ⟨z0, hz0, hcase⟩ := hx.slice_inv
    rcases cond_none (show (bif Nat.beq n 0 then some ⟨un, h, nx⟩ else (elemD u).bind fun e => (sizeT P e).bind (clrSl P h nx ⟨b, oo, n, c, ex⟩ e)) = some r from hr) with ⟨h0, hr⟩ | ⟨h0, hr⟩
    · have h0 : n = 0 := Nat.eq_of_beq_eq_true h0
      subst h0
      cases hr
      obtain ⟨A, C, rfl⟩ : ∃ A C, X = .slice A 0 C := by
        rcases hcase with rfl | ⟨g1, g2, g3, A, rfl⟩
        · exact ⟨_, _, rfl⟩
        · exact ⟨_, _, rfl⟩
      exact didV_pure hW (u := .tuple #[]) (by cases A <;> simp [Builtin.clear_, hts, run_underlying hu]) (un_undef m)
    · have h0 : n ≠ 0 := fun e => by rw [e] at h0; cases h0
      obtain ⟨e, he, hr⟩ := bind_some hr
      obtain ⟨z, hz, hr⟩ := bind_some hr
      obtain ⟨hzp, hr⟩ := cond_some hr
      rw [blt_eq] at hzp
      have hzp : 0 < z := of_decide_eq_true hzp
      obtain ⟨l, hl, hr⟩ := bind_some hr
      obtain ⟨h', hst, rfl⟩ := map_some hr
      rcases hcase with rfl | ⟨g1, g2, g3, A, rfl⟩
      · have hnz : n * z ≠ 0 := Nat.mul_ne_zero h0 (by omega)
        obtain ⟨zv, hzrun, hzs, hvr⟩ := rowN_ok hl hnz m
        obtain ⟨zz, w', hzz2, hrun, hW', hE⟩ := storeN_ok hW hst hvr
        rw [hz0] at hzz2; cases hzz2
        refine ⟨.tuple #[], w', m, ?_, hW', un_undef m, hE⟩
        have hue := elemD_some he
        subst hue
        simp [Builtin.clear_, hts, run_underlying hu, hzrun w, hrun]
      · exact absurd g1 h0
  | _ => cases hr
end
end Ex
end Go.Proofs.YtajoljoegbeiiaaGreatDoor
