/-
  The executor: assertions, the builtins at an operation; every operation that is no call.
-/
import Derived.Test.YtajoljoegbeiiaaGreatDoorExH
namespace Go.Proofs.YtajoljoegbeiiaaGreatDoor
set_option linter.all false
namespace Ex
open Go.RowKit
section
variable {P : Program} {m : Mz} {h : Hp} {nx : Nat} {w : World} {fr : Fm} {a : Act} {sz : Nat} {o : Oper} {r : Rs}
/-! ### Assertions -/
theorem asFail_ok {t : TypeId} {ok : Bool} {v : AV} (hv : asFail P t ok = some v) (m : Mz) : ok = true ∧ ∃ zv, (∀ w, (zeroValue t).run P w = .ok zv w) ∧ VR m v (.tuple #[zv, .bool false]) := by
  obtain ⟨hok, hv⟩ := cond_some hv
  obtain ⟨z, hz, rfl⟩ := map_some hv
  obtain ⟨i, zv, hi, hz0, hov, hzr⟩ := run_zero hz
  exact ⟨hok, zv, hzr, .tup (.cons (ofV_ok m 10 zv z hov) (.cons (.bool _) .nil))⟩
theorem asHold_ok {v : AV} {u : Value} (hv : VR m v u) (ok : Bool) : VR m (asHold v ok) (if ok = true then .tuple #[u, .bool true] else u) := by
  cases ok
  · exact hv
  · exact .tup (.cons hv (.cons (.bool _) .nil))
theorem ifD_some {u : TypeDesc} {ms : Array (String × TypeId)} (hu : ifD u = some ms) : u = .interface ms := by cases u <;> first | (cases hu; rfl) | cases hu
theorem assert_ok {t aT : TypeId} {x : AV} {ok : Bool} {v : AV} {X : Value} (hx : VR m x X) (hr : assertA P x aT ok = some v) (w : World) : ∃ u, (Instr.typeAssert X t aT ok).run P w = .ok u w ∧ VR m v u := by
  obtain ⟨u, hu, hr⟩ := bind_some hr
  unfold assertU at hr
  cases hi : ifD u with
  | some ms =>
    rw [hi] at hr
    have hi := ifD_some hi
    subst hi
    cases x with
    | nili =>
      obtain ⟨rfl, zv, hz, hv⟩ := asFail_ok (show asFail P aT ok = some v from hr) m
      cases hx
      exact ⟨_, by simp [Instr.typeAssert, run_underlying hu, hz], hv⟩
    | iface d y =>
      obtain ⟨i, hinfo, hr⟩ := bind_some (show (P.info? d).bind (asWant P (.iface d y) aT ok ms) = some v from hr)
      cases hx with
      | iface _ hy =>
        unfold asWant at hr
        cases hm : Instr.missingMethod ms i.methods with
        | none =>
          rw [hm] at hr
          cases hr
          refine ⟨_, ?_, asHold_ok (.iface d hy) ok⟩
          simp [Instr.typeAssert, run_underlying hu, typeInfo, hinfo, hm]
        | some s =>
          rw [hm] at hr
          obtain ⟨rfl, zv, hz, hv⟩ := asFail_ok (show asFail P aT ok = some v from hr) m
          exact ⟨_, by simp [Instr.typeAssert, run_underlying hu, typeInfo, hinfo, hm, hz], hv⟩
    | _ => cases hr
  | none =>
    rw [hi] at hr
    cases x with
    | nili =>
      obtain ⟨rfl, zv, hz, hv⟩ := asFail_ok (show asFail P aT ok = some v from hr) m
      cases hx
      refine ⟨_, ?_, hv⟩
      cases u <;> first | (cases hi; done) | simp [Instr.typeAssert, run_underlying hu, hz]
    | iface d y =>
      cases hx with
      | iface _ hy =>
        rcases cond_none (show (bif Nat.beq d aT then some (asHold y ok) else asFail P aT ok) = some v from hr) with ⟨h0, hq⟩ | ⟨h0, hq⟩
        · have h0 : d = aT := Nat.eq_of_beq_eq_true h0
          subst h0
          have hve : asHold y ok = v := Option.some.inj hq
          rw [← hve]
          refine ⟨_, ?_, asHold_ok hy ok⟩
          cases u <;> first | (cases hi; done) | simp [Instr.typeAssert, run_underlying hu]
        · have h0 : ¬ d = aT := fun e => by subst e; rw [show Nat.beq d d = true by rw [beq_eq]; simp] at h0; cases h0
          obtain ⟨rfl, zv, hz, hv⟩ := asFail_ok (show asFail P aT ok = some v from hq) m
          refine ⟨_, ?_, hv⟩
          cases u <;> first | (cases hi; done) | simp [Instr.typeAssert, run_underlying hu, h0, hz]
    | _ => cases hr
theorem d_assert (hW : WR P m h nx w) (hF : FR m fr a.tmps sz) {x : Operand} {t aT : TypeId} {ok : Bool} (ho : o.op = .typeAssert x t aT ok) (hr : oAssert x t aT ok P fr h nx = some r) : Did P m h w o a r := by
  obtain ⟨v, hv, rfl⟩ := pv_some hr
  obtain ⟨y, hy, hv⟩ := bind_some hv
  obtain ⟨u, hu, hvu⟩ := assert_ok (t := t) (evA_ok hW hF hy) hv w
  exact did_val hW (u := u) (by simp [execOp, ho, hu]) hvu
/-! ### max, min -/
theorem geq_run (x y : List UInt8) (w : World) : (Op.stringOp .geq ⟨x.toArray⟩ ⟨y.toArray⟩).run P w = .ok (.bool (!ltS x y)) w := by
  obtain ⟨u, hu, hv⟩ := binS_ok (P := P) (op := .geq) (x := x) (y := y) (v := .bool (!ltS x y)) rfl (fun _ => none) 0 w
  rw [hv.bool_inv] at hu
  exact hu
theorem leq_run (x y : List UInt8) (w : World) : (Op.stringOp .leq ⟨x.toArray⟩ ⟨y.toArray⟩).run P w = .ok (.bool (!ltS y x)) w := by
  obtain ⟨u, hu, hv⟩ := binS_ok (P := P) (op := .leq) (x := x) (y := y) (v := .bool (!ltS y x)) rfl (fun _ => none) 0 w
  rw [hv.bool_inv] at hu
  exact hu
theorem max2_ok {x y v : AV} (hr : max2 x y = some v) {X Y : Value} (hx : VR m x X) (hy : VR m y Y) (w : World) : ∃ u, (Builtin.max2 X Y).run P w = .ok u w ∧ VR m v u := by
  cases x with
  | int k z =>
    cases y with
    | int k' z' =>
      cases hr; cases hx; cases hy
      refine ⟨_, rfl, ?_⟩
      rw [ltZ_eq]
      by_cases hlt : z < z'
      · rw [if_pos hlt, show decide (z < z') = true from decide_eq_true hlt]; exact .int _ _
      · rw [if_neg hlt, show decide (z < z') = false from decide_eq_false hlt]; exact .int _ _
    | _ => cases hr
  | str s =>
    cases y with
    | str s' =>
      cases hr; cases hx; cases hy
      refine ⟨.string (if (!ltS s s') = true then ⟨s.toArray⟩ else ⟨s'.toArray⟩), ?_, ?_⟩
      · simp [Builtin.max2, geq_run, asBool]
      · cases ltS s s' <;> exact .str _
    | _ => cases hr
  | _ => cases hr
theorem min2_ok {x y v : AV} (hr : min2 x y = some v) {X Y : Value} (hx : VR m x X) (hy : VR m y Y) (w : World) : ∃ u, (Builtin.min2 X Y).run P w = .ok u w ∧ VR m v u := by
  cases x with
  | int k z =>
    cases y with
    | int k' z' =>
      cases hr; cases hx; cases hy
      refine ⟨_, rfl, ?_⟩
      rw [ltZ_eq]
      by_cases hlt : z' < z
      · rw [if_pos hlt, show decide (z' < z) = true from decide_eq_true hlt]; exact .int _ _
      · rw [if_neg hlt, show decide (z' < z) = false from decide_eq_false hlt]; exact .int _ _
    | _ => cases hr
  | str s =>
    cases y with
    | str s' =>
      cases hr; cases hx; cases hy
      refine ⟨.string (if (!ltS s' s) = true then ⟨s.toArray⟩ else ⟨s'.toArray⟩), ?_, ?_⟩
      · simp [Builtin.min2, leq_run, asBool]
      · cases ltS s' s <;> exact .str _
    | _ => cases hr
  | _ => cases hr
theorem fold_ok {f : AV → AV → Option AV} {g : Value → Value → Sem Value} (hfg : ∀ {x y v : AV}, f x y = some v → ∀ {X Y : Value}, VR m x X → VR m y Y → ∀ w, ∃ u, (g X Y).run P w = .ok u w ∧ VR m v u) :
    ∀ {l : List AV} {us : List Value} {x v : AV} {X : Value}, VRL m l us → VR m x X → foldA f l x = some v → ∀ w : World, ∃ u, (us.foldlM g X).run P w = .ok u w ∧ VR m v u
  | [], _, x, v, X, .nil, hx, hf, w => by cases hf; exact ⟨X, by simp, hx⟩
  | y :: l, _, x, v, X, .cons (u := Y) hy hl, hx, hf, w => by
    obtain ⟨v1, h1, hf⟩ := bind_some (show (f x y).bind (foldA f l) = some v from hf)
    obtain ⟨u1, h2, h3⟩ := hfg h1 hx hy w
    obtain ⟨u, h4, h5⟩ := fold_ok hfg hl h3 hf w
    exact ⟨u, by simp [List.foldlM_cons, h2, h4], h5⟩
theorem data_ok (hW : WR P m h nx w) {ts : Array TypeId} {ty : TypeId} {x v : AV} {X : Value} (hx : VR m x X) (hr : dataA x = some v) : ∃ u, (Builtin.unsafeSliceData_ ts ty #[X]).run P w = .ok u w ∧ VR m v u := by
  cases x with
  | nils => cases hr; cases hx; exact ⟨_, rfl, .nilp⟩
  | slice b oo n c ex =>
    obtain ⟨hc, hr⟩ := cond_some (show (bif Nat.blt 0 c then some (AV.ptr b oo) else none) = some v from hr)
    cases hr
    rw [blt_eq] at hc
    have hc : 0 < c := of_decide_eq_true hc
    obtain ⟨z, hz, hcase⟩ := hx.slice_inv
    rcases hcase with rfl | ⟨_, h0, _⟩
    · have hne : (if ex = true then c else c + z.ext) ≠ 0 := by split <;> omega
      obtain ⟨C, hC⟩ : ∃ C, (if ex = true then c else c + z.ext) = C := ⟨_, rfl⟩
      rw [hC] at hne ⊢
      have hdef : Builtin.unsafeSliceData_ ts ty #[.slice (some ⟨z.blk, z.sh + oo, none⟩) n C] =
          (do
            if C ≠ 0 then pure (.pointer (some ⟨z.blk, z.sh + oo, none⟩))
            else if (← viewAt z.blk).isSome then pure (.pointer (some ⟨z.blk, z.sh + oo, none⟩))
            else pure (.pointer (some ⟨← newObj (.view ⟨z.blk, z.sh + oo, none⟩ (← elemOf ty)), 0, none⟩))) := rfl
      exact ⟨_, by rw [hdef, if_pos hne]; rfl, .ptr _ hz⟩
    · omega
  | _ => cases hr
/-! ### A builtin at an operation -/
theorem did_of {S : Sem Value} (hS : DidV P m h w S r) (he : (execOp a.eval o).run P w = (S.run P w).andThen fun u w' => .ok (.value u) w') : Did P m h w o a r := by
  obtain ⟨v, w', m', h1, h2, h3, h4⟩ := hS
  exact ⟨v, w', m', .inl (by rw [he, h1]; rfl), h2, h3, h4⟩
theorem vrl1 {x : AV} {us : Array Value} (hv : VRL m [x] us.toList) : ∃ X, us = #[X] ∧ VR m x X := by
  obtain ⟨l⟩ := us
  cases hv with
  | cons h1 h2 => cases h2; exact ⟨_, rfl, h1⟩
theorem vrl2 {x y : AV} {us : Array Value} (hv : VRL m [x, y] us.toList) : ∃ X Y, us = #[X, Y] ∧ VR m x X ∧ VR m y Y := by
  obtain ⟨l⟩ := us
  cases hv with
  | cons h1 h2 => cases h2 with
    | cons h2 h3 => cases h3; exact ⟨_, _, rfl, h1, h2⟩
theorem head_get {ts : Array TypeId} {t : TypeId} {l : List TypeId} (h : ts.toList = t :: l) : ts[0]? = some t := by
  rw [← Array.getElem?_toList, h]; rfl
theorem bi2_some {f : Program → TypeId → AV → AV → Hp → Nat → Option Rs} {ts : List TypeId} {vs : List AV} (hr : bi2 f P ts vs h nx = some r) : ∃ t l x y, ts = t :: l ∧ vs = [x, y] ∧ f P t x y h nx = some r := by
  unfold bi2 at hr
  split at hr
  · split at hr
    · exact ⟨_, _, _, _, rfl, rfl, hr⟩
    · cases hr
  · cases hr
theorem bi1_some {f : Program → TypeId → AV → Hp → Option Nat} {ts : List TypeId} {vs : List AV} (hr : bi1 f P ts vs h nx = some r) : ∃ t l x n, ts = t :: l ∧ vs = [x] ∧ f P t x h = some n ∧ r = intRs h nx n := by
  unfold bi1 at hr
  split at hr
  · split at hr
    · obtain ⟨n, hn, rfl⟩ := map_some hr
      exact ⟨_, _, _, _, rfl, rfl, hn, rfl⟩
    · cases hr
  · cases hr
theorem d_bi (hW : WR P m h nx w) (hF : FR m fr a.tmps sz) {b : Builtin} {args : Array Operand} {ts : Array TypeId} (ho : o.op = .call { callee := .builtin b, args := args, argTypes := ts }) (hr : oBuiltin b args ts P fr h nx = some r) : Did P m h w o a r := by
  obtain ⟨vs, hvs, hr⟩ := bind_some hr
  have hv := evL_ok hW hF hvs
  rw [← Array.toList_map] at hv
  obtain ⟨us, hus⟩ : ∃ us, args.map a.eval = us := ⟨_, rfl⟩
  rw [hus] at hv
  obtain ⟨cc, hrun⟩ : ∃ cc, (execOp a.eval o).run P w = (builtin b ts o.type cc us).run P w := ⟨args.map fun | .const _ => true | _ => false, by
    simp [execOp, ho, resolve, invoke, hus]; rfl⟩
  cases b with
  | append =>
    have hr : biApp P ts.toList vs h nx = some r := hr
    unfold biApp at hr
    split at hr
    · rename_i t u hts
      have hts' : ts = #[t, u] := by apply Array.ext'; rw [hts]
      rcases cond_none hr with ⟨hu, hr⟩ | ⟨_, hr⟩
      · obtain ⟨t', l, x, y, hl, rfl, hq⟩ := bi2_some hr
        cases hl
        obtain ⟨X, Y, rfl, hx, hy⟩ := vrl2 hv
        subst hts'
        exact did_of (append_ok (ty := o.type) hW hx hy hu hq) (by rw [hrun]; simp [builtin])
      · obtain ⟨hu, hr⟩ := cond_some hr
        obtain ⟨t', l, x, y, hl, rfl, hq⟩ := bi2_some hr
        cases hl
        obtain ⟨X, Y, rfl, hx, hy⟩ := vrl2 hv
        subst hts'
        exact did_of (zeros_ok (ty := o.type) hW hx hy hu hq) (by rw [hrun]; simp [builtin])
    · cases hr
  | copy =>
    have hr : bi2 copyA P ts.toList vs h nx = some r := hr
    obtain ⟨t, l, x, y, hl, rfl, hq⟩ := bi2_some hr
    obtain ⟨X, Y, rfl, hx, hy⟩ := vrl2 hv
    exact did_of (copy_ok (ty := o.type) hW (head_get hl) hx hy hq) (by rw [hrun]; simp [builtin])
  | len =>
    have hr : bi1 lenB P ts.toList vs h nx = some r := hr
    obtain ⟨t, l, x, n, hl, rfl, hq, rfl⟩ := bi1_some hr
    obtain ⟨X, rfl, hx⟩ := vrl1 hv
    exact did_of (didV_pure hW (len_ok (ty := o.type) hW (head_get hl) hx hq) (int_vr m n)) (by rw [hrun]; simp [builtin])
  | cap =>
    have hr : bi1 capB P ts.toList vs h nx = some r := hr
    obtain ⟨t, l, x, n, hl, rfl, hq, rfl⟩ := bi1_some hr
    obtain ⟨X, rfl, hx⟩ := vrl1 hv
    exact did_of (didV_pure hW (cap_ok (ty := o.type) hW (head_get hl) hx hq) (int_vr m n)) (by rw [hrun]; simp [builtin])
  | delete =>
    have hr : bi2 (fun P t m k h nx => (deleteA P t m k h).map (ph nx)) P ts.toList vs h nx = some r := hr
    obtain ⟨t, l, x, y, hl, rfl, hq⟩ := bi2_some hr
    obtain ⟨h', hq2, rfl⟩ := map_some hq
    obtain ⟨X, Y, rfl, hx, hy⟩ := vrl2 hv
    exact did_of (delete_ok (ty := o.type) hW (head_get hl) hx hy hq2) (by rw [hrun]; simp [builtin])
  | clear =>
    have hr : biClear P ts.toList vs h nx = some r := hr
    unfold biClear at hr
    split at hr
    · rename_i t l hts
      split at hr
      · obtain ⟨X, rfl, hx⟩ := vrl1 hv
        exact did_of (clear_ok (ty := o.type) hW (head_get hts) hx hr) (by rw [hrun]; simp [builtin])
      · cases hr
    · cases hr
  | unsafeSliceData =>
    have hr : biData P ts.toList vs h nx = some r := hr
    unfold biData at hr
    split at hr
    · obtain ⟨v, hv', rfl⟩ := pv_some hr
      obtain ⟨X, rfl, hx⟩ := vrl1 hv
      obtain ⟨u, hu, hvu⟩ := data_ok (ts := ts) (ty := o.type) hW hx hv'
      exact did_of (didV_pure hW hu hvu) (by rw [hrun]; simp [builtin])
    · cases hr
  | unsafeString =>
    have hr : bi2 ustrA P ts.toList vs h nx = some r := hr
    obtain ⟨t, l, x, y, hl, rfl, hq⟩ := bi2_some hr
    obtain ⟨X, Y, rfl, hx, hy⟩ := vrl2 hv
    exact did_of (ustr_ok (ty := o.type) hW (head_get hl) hx hy hq) (by rw [hrun]; simp [builtin])
  | max =>
    have hr : biFold max2 P ts.toList vs h nx = some r := hr
    unfold biFold at hr
    split at hr
    · obtain ⟨v, hv', rfl⟩ := pv_some hr
      obtain ⟨ul⟩ := us
      cases hv with
      | cons hx hl =>
        obtain ⟨u, hu, hvu⟩ := fold_ok (P := P) (f := max2) (g := Builtin.max2) (fun h1 _ _ h2 h3 w => max2_ok h1 h2 h3 w) hl hx hv' w
        exact did_of (didV_pure hW (S := Builtin.max_ ts o.type _) (show (Builtin.max_ ts o.type ⟨_ :: _⟩).run P w = _ from hu) hvu) (by rw [hrun]; simp [builtin])
    · cases hr
  | min =>
    have hr : biFold min2 P ts.toList vs h nx = some r := hr
    unfold biFold at hr
    split at hr
    · obtain ⟨v, hv', rfl⟩ := pv_some hr
      obtain ⟨ul⟩ := us
      cases hv with
      | cons hx hl =>
        obtain ⟨u, hu, hvu⟩ := fold_ok (P := P) (f := min2) (g := Builtin.min2) (fun h1 _ _ h2 h3 w => min2_ok h1 h2 h3 w) hl hx hv' w
        exact did_of (didV_pure hW (S := Builtin.min_ ts o.type _) (show (Builtin.min_ ts o.type ⟨_ :: _⟩).run P w = _ from hu) hvu) (by rw [hrun]; simp [builtin])
    · cases hr
  | _ => cases hr
/-- Every operation that the executor does by itself. -/
theorem opA_ok (hW : WR P m h nx w) (hF : FR m fr a.tmps sz) (hr : opA o.op P fr h nx = some r) : Did P m h w o a r := by
  cases ho : o.op with
  | move x => rw [ho] at hr; exact d_move hW hF (.inl ho) hr
  | assign x => rw [ho] at hr; exact d_move hW hF (.inr ho) hr
  | pick c x y => rw [ho] at hr; exact d_pick hW hF ho hr
  | alloc t => rw [ho] at hr; exact d_alloc (fr := fr) hW ho hr
  | box t x => rw [ho] at hr; exact d_box hW hF ho hr
  | build t ps => rw [ho] at hr; exact d_build hW hF ho hr
  | buildSlice t n ps => rw [ho] at hr; exact d_buildSlice hW hF ho hr
  | load t x => rw [ho] at hr; exact d_load hW hF ho hr
  | store t x y => rw [ho] at hr; exact d_store hW hF ho hr
  | nilCheck x => rw [ho] at hr; exact d_nil hW hF ho hr
  | binOp op t x y t' => rw [ho] at hr; exact d_bin hW hF ho hr
  | unOp op t x => rw [ho] at hr; exact d_un hW hF ho hr
  | convert s d x => rw [ho] at hr; exact d_conv hW hF ho hr
  | makeInterface t x => rw [ho] at hr; exact d_ifc hW hF ho hr
  | makeFunc f x y => rw [ho] at hr; exact d_func hW hF ho hr
  | makeMap t q => rw [ho] at hr; exact d_map hW hF ho hr
  | makeSlice t x y => rw [ho] at hr; exact d_make hW hF ho hr
  | slice t x lo hi mx => rw [ho] at hr; exact d_slice hW hF ho hr
  | fieldAddr t x f => rw [ho] at hr; exact d_fieldAddr hW hF ho hr
  | field t x f => rw [ho] at hr; exact d_field hW hF ho hr
  | indexAddr t x y => rw [ho] at hr; exact d_indexAddr hW hF ho hr
  | index t x y => rw [ho] at hr; exact d_index hW hF ho hr
  | lookup t x y ok => rw [ho] at hr; exact d_lookup hW hF ho hr
  | mapUpdate t x y z => rw [ho] at hr; exact d_update hW hF (.inl ho) hr
  | insert t x y z => rw [ho] at hr; exact d_update hW hF (.inr ho) hr
  | typeAssert x t aT ok => rw [ho] at hr; exact d_assert hW hF ho hr
  | extract x i => rw [ho] at hr; exact d_extract hW hF ho hr
  | call c =>
    rw [ho] at hr
    obtain ⟨callee, args, ts⟩ := c
    cases callee with
    | builtin b => exact d_bi hW hF ho hr
    | _ => cases hr
  | _ => rw [ho] at hr; cases hr
end
end Ex
end Go.Proofs.YtajoljoegbeiiaaGreatDoor
