/-
  The executor: maps.
-/
import Derived.Test.YtajoljoegbeiiaaGreatDoorExG
import Derived.MapKept
import Derived.Laws.StructEq
namespace Go.Proofs.YtajoljoegbeiiaaGreatDoor
set_option linter.all false
namespace Ex
open Go.RowKit
section
variable {P : Program} {m : Mz} {h : Hp} {nx : Nat} {w : World} {fr : Fm} {a : Act} {sz : Nat} {o : Oper} {r : Rs}
theorem mapT_some {t : TypeId} {mt : Mt} (hm : mapT P t = some mt) : P.underlying t = some (.map mt.k mt.e) := by
  obtain ⟨u, hu, hm⟩ := bind_some hm
  cases u <;> first | (cases hm; exact hu) | cases hm
/-- A plain key. -/
structure KeyOk (P : Program) (t : TypeId) (k : AV) (mt : Mt) (u : TypeDesc) : Prop where
  ty : P.underlying t = some (.map mt.k mt.e)
  ku : P.underlying mt.k = some u
  is : keyIs u k = true
theorem mapK_some {t : TypeId} {k : AV} {mt : Mt} (hm : mapK P t k = some mt) : ∃ u, KeyOk P t k mt u := by
  obtain ⟨mt', hm1, hm⟩ := bind_some hm
  obtain ⟨u, hu, hm⟩ := bind_some hm
  obtain ⟨hk, hm⟩ := cond_some hm
  cases hm
  exact ⟨u, mapT_some hm1, hu, hk⟩
theorem KeyOk.check {t : TypeId} {k : AV} {mt : Mt} {u : TypeDesc} (hk : KeyOk P t k mt u) {K : Value} (hv : VR m k K) (b : Bool) (w : World) : (Instr.checkKey b 10000 mt.k K).run P w = .ok () w := by
  have hi := hk.is
  obtain ⟨d, hd⟩ : ∃ d, 10000 = d + 1 := ⟨9999, rfl⟩
  rw [hd]
  unfold keyIs at hi
  cases u <;> first | (cases hi; done) | skip
  all_goals
    cases hv <;> first | (cases hi; done) | simp [Instr.checkKey, run_underlying hk.ku]
theorem sameA_ok {u : TypeDesc} {k k2 : AV} {b : Bool} (hi : keyIs u k = true) (hs : sameA k k2 = some b) {K K2 : Value} (hk : VR m k K) (hk2 : VR m k2 K2) : Instr.sameNow u K K2 = some b ∧ (b = true → Instr.sameBits 10000 K2 K = true) := by
  obtain ⟨d, hd⟩ : ∃ d, 10000 = d + 1 := ⟨9999, rfl⟩
  rw [hd]
  cases k with
  | int kk z =>
    cases k2 with
    | int k' z' =>
      obtain ⟨h1, h2⟩ := cond_some (show (bif sameK kk k' then some (eqZ z z') else none) = some b from hs)
      cases h2
      have h1 : kk = k' := of_decide_eq_true h1
      subst h1
      cases hk; cases hk2
      cases u <;> first | (cases hi; done) | skip
      refine ⟨by simp [Instr.sameNow, eqZ_eq], fun h => ?_⟩
      rw [eqZ_eq] at h
      have : z = z' := by simpa using h
      subst this
      simp [Instr.sameBits]
    | _ => cases hs
  | str s =>
    cases k2 with
    | str s' =>
      cases hs
      cases hk; cases hk2
      cases u <;> first | (cases hi; done) | skip
      have e : ((⟨s.toArray⟩ : ByteArray) == ⟨s'.toArray⟩) = eqS s s' := by
        rw [eqS_eq, beq_toListBytes, toList_str, toList_str]
      refine ⟨by simp [Instr.sameNow, e], fun h => ?_⟩
      rw [eqS_eq] at h
      have : s = s' := by simpa using h
      subst this
      simp [Instr.sameBits, beq_toListBytes]
    | _ => cases hs
  | bool c =>
    cases k2 with
    | bool c' =>
      cases hs
      cases hk; cases hk2
      cases u <;> first | (cases hi; done) | skip
      refine ⟨by simp [Instr.sameNow], fun h => ?_⟩
      have : c = c' := by simpa using h
      subst this
      simp [Instr.sameBits]
    | _ => cases hs
  | _ => cases hs
theorem findA_ok {u : TypeDesc} {k : AV} (hi : keyIs u k = true) {K : Value} (hk : VR m k K) : ∀ {es : List Ent} {es' : List MapEntry} (i : Nat) {res : Option Fd}, ER m es es' → findA k es i = some res →
    (res = none ∧ Instr.findNow u K es' i = some none) ∨ ∃ f e e', res = some f ∧ i ≤ f.i ∧ es[f.i - i]? = some e ∧ es'[f.i - i]? = some e' ∧ e.2.1 = f.v ∧ VR m e.1 e'.key ∧ VR m f.v e'.val ∧ e'.born = e.2.2 ∧ Instr.findNow u K es' i = some (some (f.i, e'.val)) ∧ Instr.sameBits 10000 e'.key K = true
  | [], _, i, res, .nil, hf => by cases hf; exact .inl ⟨rfl, rfl⟩
  | _ :: es, _ :: es', i, res, .cons (k := k2) (v := v2) (n := n2) (k' := K2) (v' := V2) h1 h2 h3, hf => by
    obtain ⟨b, hb, hf⟩ := bind_some (show (sameA k k2).bind (fdStep (k2, v2, n2) i (findA k es (i + 1))) = some res from hf)
    obtain ⟨g1, g2⟩ := sameA_ok hi hb hk h1
    cases b with
    | true =>
      cases hf
      right
      exact ⟨⟨i, v2⟩, (k2, v2, n2), { key := K2, val := V2, born := n2 }, rfl, Nat.le_refl _, by simp, by simp, rfl, h1, h2, rfl, by simp [Instr.findNow, g1], g2 rfl⟩
    | false =>
      have hf : findA k es (i + 1) = some res := hf
      rcases findA_ok hi hk (i + 1) h3 hf with ⟨rfl, g3⟩ | ⟨f, e, e', rfl, q1, q2, q3, q4, q5, q6, q7, q8, q9⟩
      · left; exact ⟨rfl, by simp [Instr.findNow, g1, g3]⟩
      · right
        refine ⟨f, e, e', rfl, by omega, ?_, ?_, q4, q5, q6, q7, by simp [Instr.findNow, g1, q8], q9⟩
        · rw [show f.i - i = (f.i - (i + 1)) + 1 by omega, List.getElem?_cons_succ]; exact q2
        · rw [show f.i - i = (f.i - (i + 1)) + 1 by omega, List.getElem?_cons_succ]; exact q3
theorem find_run {t : TypeId} {k : AV} {mt : Mt} {u : TypeDesc} (hk : KeyOk P t k mt u) {K : Value} {es' : List MapEntry} {x : Option (Nat × Value)} (hf : Instr.findNow u K es' 0 = some x) (w : World) : (Instr.findKey mt.k K es').run P w = .ok x w := by
  simp [Instr.findKey, run_underlying hk.ku, hf]
/-! ### Looking up -/
/-- A map's entries. -/
def MapIs (w : World) (X : Value) (es' : Array MapEntry) : Prop := (∃ b cl, X = .map (some b) ∧ w.heap[b]? = some (.map es' cl)) ∨ (X = .map none ∧ es' = #[])
theorem mpA_ok (hW : WR P m h nx w) {x : AV} {X : Value} (hx : VR m x X) {es : List Ent} (he : mpA h x = some es) : ∃ es' : Array MapEntry, ER m es es'.toList ∧ MapIs w X es' := by
  cases x with
  | mapv b =>
    obtain ⟨mp, hmp, rfl⟩ := map_some (show (getMp h b).map (·.es) = some es from he)
    obtain ⟨z, es', h1, h2, h3⟩ := hW.mp hmp
    obtain ⟨z', hz', rfl⟩ := hx.map_inv
    rw [hz'] at h1; cases h1
    exact ⟨es', h3, .inl ⟨_, _, rfl, h2⟩⟩
  | nilm => cases he; cases hx; exact ⟨#[], .nil, .inr ⟨rfl, rfl⟩⟩
  | _ => cases he
theorem lookup_hit {t kt e : TypeId} (ht : P.underlying t = some (.map kt e)) {X K v : Value} {es' : Array MapEntry} (hX : MapIs w X es') (hck : ∀ b, (Instr.checkKey b 10000 kt K).run P w = .ok () w) {i : Nat}
    (hf : (Instr.findKey kt K es'.toList).run P w = .ok (some (i, v)) w) (ok : Bool) : (Instr.lookup t X K ok).run P w = .ok (if ok then .tuple #[v, .bool true] else v) w := by
  rcases hX with ⟨b, cl, rfl, hb⟩ | ⟨rfl, rfl⟩
  · simp [Instr.lookup, run_underlying ht, getObj_run hb, hck, hf]
  · simp at hf
    simp [Instr.lookup, run_underlying ht, hck, hf]
theorem lookup_miss {t kt e : TypeId} (ht : P.underlying t = some (.map kt e)) {X K v : Value} {es' : Array MapEntry} (hX : MapIs w X es') (hck : ∀ b, (Instr.checkKey b 10000 kt K).run P w = .ok () w)
    (hf : (Instr.findKey kt K es'.toList).run P w = .ok none w) (hz : (zeroValue e).run P w = .ok v w) (ok : Bool) : (Instr.lookup t X K ok).run P w = .ok (if ok then .tuple #[v, .bool false] else v) w := by
  rcases hX with ⟨b, cl, rfl, hb⟩ | ⟨rfl, rfl⟩
  · simp [Instr.lookup, run_underlying ht, getObj_run hb, hck, hf, hz]
  · simp at hf
    simp [Instr.lookup, run_underlying ht, hck, hf, hz]
theorem lookup_ok (hW : WR P m h nx w) {t : TypeId} {x k : AV} {ok : Bool} {X K : Value} (hx : VR m x X) (hk : VR m k K) {v : AV} (hr : lookupA P t x k ok h = some v) : ∃ u, (Instr.lookup t X K ok).run P w = .ok u w ∧ VR m v u := by
  obtain ⟨mt, hm, hr⟩ := bind_some hr
  obtain ⟨es, hes, hr⟩ := bind_some hr
  obtain ⟨res, hres, hr⟩ := bind_some hr
  obtain ⟨u, hku⟩ := mapK_some hm
  obtain ⟨es', hE, hX⟩ := mpA_ok hW hx hes
  have hck := fun b => hku.check hk b w
  rcases findA_ok hku.is hk 0 hE hres with ⟨rfl, g⟩ | ⟨f, e, e', rfl, q1, q2, q3, q4, q5, q6, q7, q8, q9⟩
  · obtain ⟨z, hz, rfl⟩ := map_some (show (zeroT P mt.e).map (fun z => lkOut ok z false) = some v from hr)
    obtain ⟨i, zv, hi, hz0, hov, hzr⟩ := run_zero hz
    have hvz := ofV_ok m 10 zv z hov
    refine ⟨_, lookup_miss hku.ty hX hck (find_run hku g w) (hzr w) ok, ?_⟩
    cases ok
    · exact hvz
    · exact .tup (.cons hvz (.cons (.bool _) .nil))
  · cases hr
    refine ⟨_, lookup_hit hku.ty hX hck (find_run hku q8 w) ok, ?_⟩
    cases ok
    · exact q6
    · exact .tup (.cons q6 (.cons (.bool _) .nil))
theorem d_lookup (hW : WR P m h nx w) (hF : FR m fr a.tmps sz) {t : TypeId} {x y : Operand} {ok : Bool} (ho : o.op = .lookup t x y ok) (hr : oLookup t x y ok P fr h nx = some r) : Did P m h w o a r := by
  obtain ⟨v1, h1, hr⟩ := bind_some hr
  obtain ⟨v2, h2, hr⟩ := bind_some hr
  obtain ⟨v, hv, rfl⟩ := pv_some hr
  obtain ⟨u, hu, hvu⟩ := lookup_ok hW (evA_ok hW hF h1) (evA_ok hW hF h2) hv
  exact did_val hW (u := u) (by simp [execOp, ho, hu]) hvu
/-! ### Entries turned -/
theorem ER.cons' {e : Ent} {e' : MapEntry} {es : List Ent} {es' : List MapEntry} (hk : VR m e.1 e'.key) (hv : VR m e.2.1 e'.val) (hb : e'.born = e.2.2) (h : ER m es es') : ER m (e :: es) (e' :: es') := by
  obtain ⟨k, v, n⟩ := e
  obtain ⟨k', v', n'⟩ := e'
  have hb : n' = n := hb
  subst hb
  exact .cons hk hv h
/-- One entry turned. -/
theorem ER.modify {f : Ent → Ent} {g : MapEntry → MapEntry} (hfg : ∀ e e', VR m e.1 e'.key → VR m e.2.1 e'.val → e'.born = e.2.2 → VR m (f e).1 (g e').key ∧ VR m (f e).2.1 (g e').val ∧ (g e').born = (f e).2.2) :
    ∀ {es : List Ent} {es' : List MapEntry} (i : Nat), ER m es es' → ER m (modA f es i) (es'.modify i g)
  | [], _, i, .nil => by cases i <;> exact .nil
  | _ :: es, _ :: es', 0, .cons (k := k2) (v := v2) (n := n2) (k' := K2) (v' := V2) h1 h2 h3 => by
    obtain ⟨g1, g2, g3⟩ := hfg (k2, v2, n2) { key := K2, val := V2, born := n2 } h1 h2 rfl
    rw [List.modify_zero_cons]
    exact ER.cons' g1 g2 g3 h3
  | _ :: es, _ :: es', i + 1, .cons h1 h2 h3 => by
    rw [List.modify_succ_cons]
    exact .cons h1 h2 (ER.modify hfg i h3)
theorem ER.push {es : List Ent} {es' : List MapEntry} (h : ER m es es') {k v : AV} {K V : Value} (hk : VR m k K) (hv : VR m v V) (n : Nat) : ER m (es ++ [(k, v, n)]) (es' ++ [{ key := K, val := V, born := n }]) := by
  induction h with
  | nil => exact .cons hk hv .nil
  | cons h1 h2 _ ih => exact .cons h1 h2 ih
theorem ER.erase : ∀ {es : List Ent} {es' : List MapEntry} (i : Nat), ER m es es' → ER m (es.eraseIdx i) (es'.eraseIdx i)
  | [], _, i, .nil => by simpa using ER.nil
  | _ :: es, _ :: es', 0, .cons h1 h2 h3 => by simpa using h3
  | _ :: es, _ :: es', i + 1, .cons h1 h2 h3 => by
    rw [List.eraseIdx_cons_succ, List.eraseIdx_cons_succ]
    exact .cons h1 h2 (h3.erase i)
theorem stays {K K2 : Value} (hs : Instr.sameBits 10000 K2 K = true) (w : World) : (Instr.keyThatStays K2 K).run P w = .ok K w := by simp [Instr.keyThatStays, hs]
theorem asM_some {v : AV} {b : Nat} (hb : asM v = some b) : v = .mapv b := by cases v <;> first | (cases hb; rfl) | cases hb
theorem update_ok (hW : WR P m h nx w) {t : TypeId} {x k v : AV} {X K V : Value} (hx : VR m x X) (hk : VR m k K) (hv : VR m v V) {h' : Hp} (hr : updateA P t x k v h = some h') : ∃ w', (Instr.mapUpdate t X K V).run P w = .ok () w' ∧ WR P m h' nx w' ∧ Evo m h w m h' w' := by
  obtain ⟨mt, hm, hr⟩ := bind_some hr
  obtain ⟨b, hb, hr⟩ := bind_some hr
  obtain ⟨mp, hmp, hr⟩ := bind_some hr
  obtain ⟨res, hres, rfl⟩ := map_some hr
  obtain ⟨u, hku⟩ := mapK_some hm
  rw [asM_some hb] at hx
  obtain ⟨z, hz, rfl⟩ := hx.map_inv
  obtain ⟨z', es', h1, h2, hE⟩ := hW.mp hmp
  rw [hz] at h1; cases h1
  have hck := hku.check hk false w
  have hty := hku.ty
  rcases findA_ok hku.is hk 0 hE hres with ⟨rfl, g⟩ | ⟨f, e, e', rfl, q1, q2, q3, q4, q5, q6, q7, q8, q9⟩
  · have hfr := find_run hku g w
    obtain ⟨g1, g2⟩ := map_turn (es2 := mp.es ++ [(k, v, mp.cl)]) (cl2 := mp.cl + 1) hW hmp hz h2 (new := es'.push { key := K, val := V, born := mp.cl }) (by rw [Array.toList_push]; exact hE.push hk hv _)
    refine ⟨_, ?_, g1, g2⟩
    simp [Instr.mapUpdate, run_underlying hty, getObj_run h2, hck, hfr, setObj_map _ h2]
  · have hfr := find_run hku q8 w
    have hst := fun w => stays (P := P) q9 w
    have hkey : ((es'[f.i]?).map (·.key)).getD K = e'.key := by
      rw [Nat.sub_zero] at q3
      rw [← Array.getElem?_toList, q3]; rfl
    obtain ⟨g1, g2⟩ := map_turn (es2 := modA (fun e => (k, v, e.2.2)) mp.es f.i) (cl2 := mp.cl) hW hmp hz h2 (new := es'.modify f.i fun e => { e with key := K, val := V }) (by rw [Array.toList_modify]; exact ER.modify (f := fun e => (k, v, e.2.2)) (g := fun e => { e with key := K, val := V }) (fun e e' _ _ h3 => ⟨hk, hv, h3⟩) _ hE)
    refine ⟨_, ?_, g1, g2⟩
    simp [Instr.mapUpdate, run_underlying hty, getObj_run h2, hck, hfr, hkey, hst, setObj_map _ h2]
theorem d_update (hW : WR P m h nx w) (hF : FR m fr a.tmps sz) {t : TypeId} {x y z : Operand} (ho : o.op = .mapUpdate t x y z ∨ o.op = .insert t x y z) (hr : oUpdate t x y z P fr h nx = some r) : Did P m h w o a r := by
  obtain ⟨v1, h1, hr⟩ := bind_some hr
  obtain ⟨v2, h2, hr⟩ := bind_some hr
  obtain ⟨v3, h3, hr⟩ := bind_some hr
  obtain ⟨h', hh, rfl⟩ := map_some hr
  obtain ⟨w', g1, g2, g3⟩ := update_ok hW (evA_ok hW hF h1) (evA_ok hW hF h2) (evA_ok hW hF h3) hh
  refine ⟨undef, w', m, .inr ⟨?_, rfl⟩, g2, un_undef m, g3⟩
  rcases ho with ho | ho <;> simp [execOp, ho, g1]
theorem delete_ok (hW : WR P m h nx w) {ts : Array TypeId} {t ty : TypeId} (hts : ts[0]? = some t) {x k : AV} {X K : Value} (hx : VR m x X) (hk : VR m k K) {h' : Hp} (hr : deleteA P t x k h = some h') : DidV P m h w (Builtin.delete_ ts ty #[X, K]) ⟨un, h', nx⟩ := by
  obtain ⟨mt, hm, hr⟩ := bind_some hr
  obtain ⟨u, hku⟩ := mapK_some hm
  have hck := fun b => hku.check hk b w
  have hty := hku.ty
  cases x with
  | nilm =>
    cases hr; cases hx
    exact didV_pure hW (u := .tuple #[]) (by simp [Builtin.delete_, hts, run_underlying hty, hck]) (un_undef m)
  | mapv b =>
    obtain ⟨mp, hmp, hr⟩ := bind_some (show ((getMp h b).bind fun mp => (findA k mp.es 0).map (dlFd h b mp)) = some h' from hr)
    obtain ⟨res, hres, rfl⟩ := map_some hr
    obtain ⟨z, hz, rfl⟩ := hx.map_inv
    obtain ⟨z', es', h1, h2, hE⟩ := hW.mp hmp
    rw [hz] at h1; cases h1
    rcases findA_ok hku.is hk 0 hE hres with ⟨rfl, g⟩ | ⟨f, e, e', rfl, q1, q2, q3, q4, q5, q6, q7, q8, q9⟩
    · have hfr := find_run hku g w
      obtain ⟨g1, g2⟩ := map_turn (es2 := mp.es) (cl2 := mp.cl) hW hmp hz h2 (new := es') hE
      refine ⟨.tuple #[], _, m, ?_, g1, un_undef m, g2⟩
      simp [Builtin.delete_, hts, run_underlying hty, getObj_run h2, hck, hfr, setObj_map _ h2]
    · have hfr := find_run hku q8 w
      obtain ⟨g1, g2⟩ := map_turn (es2 := mp.es.eraseIdx f.i) (cl2 := mp.cl) hW hmp hz h2 (new := es'.eraseIdxIfInBounds f.i) (by rw [Array.toList_eraseIdxIfInBounds]; exact hE.erase _)
      refine ⟨.tuple #[], _, m, ?_, g1, un_undef m, g2⟩
      simp [Builtin.delete_, hts, run_underlying hty, getObj_run h2, hck, hfr, setObj_map _ h2]
  | _ => cases hr
theorem mkMap_ok (hW : WR P m h nx w) : ∃ m', WR P m' (mkMap h nx).h (mkMap h nx).nx (w.alloc (.map #[] 0)) ∧ VR m' (mkMap h nx).v (.map (some w.heap.size)) ∧ Evo m h w m' (mkMap h nx).h (w.alloc (.map #[] 0)) := by
  obtain ⟨h1, h2⟩ := hW.alloc (.map #[] 0) (.map [] 0) ⟨w.heap.size, 0, 0⟩ rfl ⟨⟨w.heap.size, 0, 0⟩, #[], upd_at _ _ _, heap_alloc_new w _, .nil⟩
  exact ⟨_, h1, .mapv (upd_at m nx _), h2⟩
theorem d_map (hW : WR P m h nx w) (hF : FR m fr a.tmps sz) {t : TypeId} {q : Option Operand} (ho : o.op = .makeMap t q) (hr : oMap t q P fr h nx = some r) : Did P m h w o a r := by
  obtain ⟨m', g1, g2, g3⟩ := mkMap_ok (P := P) hW
  cases q with
  | none =>
    cases hr
    exact ⟨_, _, m', .inl (by simp [execOp, ho, Instr.makeMap]), g1, g2, g3⟩
  | some q =>
    obtain ⟨mt, hm, hr⟩ := bind_some (show ((mapT P t).bind fun _ => ((evA fr q).bind asI).map fun _ => mkMap h nx) = some r from hr)
    obtain ⟨z, hz, rfl⟩ := map_some hr
    obtain ⟨v, hv, hz⟩ := bind_some hz
    obtain ⟨k, rfl⟩ := asI_some hz
    have e := (evA_ok hW hF hv).int_inv
    exact ⟨_, _, m', .inl (by simp [execOp, ho, Instr.makeMap, e, asInt, asIntOf, run_underlying (mapT_some hm)]), g1, g2, g3⟩
end
end Ex
end Go.Proofs.YtajoljoegbeiiaaGreatDoor
