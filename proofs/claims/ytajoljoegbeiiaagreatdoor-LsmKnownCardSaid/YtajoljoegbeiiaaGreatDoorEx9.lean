/-
  The executor: operations that leave the world alone, loads, stores, new variables.
-/
import Derived.Test.YtajoljoegbeiiaaGreatDoorEx8
namespace Go.Proofs.YtajoljoegbeiiaaGreatDoor
set_option linter.all false
namespace Ex
open Go.RowKit
/-- An operation does in the model what the executor says. -/
def Did (P : Program) (m : Mz) (h : Hp) (w : World) (o : Oper) (a : Act) (r : Rs) : Prop :=
  ∃ u w' m', ((execOp a.eval o).run P w = .ok (.value u) w' ∨ ((execOp a.eval o).run P w = .ok .skip w' ∧ u = undef)) ∧ WR P m' r.h r.nx w' ∧ VR m' r.v u ∧ Evo m h w m' r.h w'
section
variable {P : Program} {m : Mz} {h : Hp} {nx : Nat} {w : World} {fr : Fm} {a : Act} {sz : Nat} {o : Oper} {r : Rs}
theorem did_val (hW : WR P m h nx w) {v : AV} {u : Value} (hrun : (execOp a.eval o).run P w = .ok (.value u) w) (hv : VR m v u) : Did P m h w o a ⟨v, h, nx⟩ :=
  ⟨u, w, m, .inl hrun, hW, hv, Evo.refl m h w⟩
theorem pv_some {x : Option AV} (hr : x.map (pv h nx) = some r) : ∃ v, x = some v ∧ r = ⟨v, h, nx⟩ := by
  obtain ⟨v, hv, rfl⟩ := map_some hr; exact ⟨v, hv, rfl⟩
theorem asP_some {v : AV} {p : At} (hp : asP v = some p) : v = .ptr p.b p.o := by cases v <;> first | (cases hp; rfl) | cases hp
theorem asN_some {v : AV} {n : Nat} (hp : asN v = some n) : ∃ k, v = .int k (.ofNat n) := by
  cases v with
  | int k z => cases z with
    | ofNat z => cases hp; exact ⟨k, rfl⟩
    | negSucc z => cases hp
  | _ => cases hp
theorem asI_some {v : AV} {n : Int} (hp : asI v = some n) : ∃ k, v = .int k n := by cases v <;> first | (cases hp; exact ⟨_, rfl⟩) | cases hp
theorem asB_some {v : AV} {b : Bool} (hp : asB v = some b) : v = .bool b := by cases v <;> first | (cases hp; rfl) | cases hp
theorem asS_some {v : AV} {b : List UInt8} (hp : asS v = some b) : v = .str b := by cases v <;> first | (cases hp; rfl) | cases hp
theorem asAgg_some {v : AV} {b : List AV} (hp : asAgg v = some b) : v = .agg b := by cases v <;> first | (cases hp; rfl) | cases hp
theorem asTup_some {v : AV} {b : List AV} (hp : asTup v = some b) : v = .tup b := by cases v <;> first | (cases hp; rfl) | cases hp
theorem asSl_some {v : AV} {s : Sl} (hp : asSl v = some s) : ∃ b o n c ex, v = .slice b o n c ex ∧ s = ⟨b, o, n, c, ex⟩ := by cases v <;> first | (cases hp; exact ⟨_, _, _, _, _, rfl, rfl⟩) | cases hp
theorem VR.int_inv {k : IntKind} {z : Int} {u : Value} (hv : VR m (.int k z) u) : u = .int k z := by cases hv; rfl
theorem VR.bool_inv {b : Bool} {u : Value} (hv : VR m (.bool b) u) : u = .bool b := by cases hv; rfl
theorem VR.str_inv {b : List UInt8} {u : Value} (hv : VR m (.str b) u) : u = .string ⟨b.toArray⟩ := by cases hv; rfl
theorem VR.ptr_inv {b o : Nat} {u : Value} (hv : VR m (.ptr b o) u) : ∃ z, m b = some z ∧ u = .pointer (some ⟨z.blk, z.sh + o, none⟩) := by cases hv with | ptr _ hz => exact ⟨_, hz, rfl⟩
theorem VR.agg_inv {l : List AV} {u : Value} (hv : VR m (.agg l) u) : ∃ us, u = .agg us ∧ VRL m l us.toList := by cases hv with | agg hl => exact ⟨_, rfl, hl⟩
theorem VR.tup_inv {l : List AV} {u : Value} (hv : VR m (.tup l) u) : ∃ us, u = .tuple us ∧ VRL m l us.toList := by cases hv with | tup hl => exact ⟨_, rfl, hl⟩

theorem d_move (hW : WR P m h nx w) (hF : FR m fr a.tmps sz) {x : Operand} (ho : o.op = .move x ∨ o.op = .assign x) (hr : oMove x P fr h nx = some r) : Did P m h w o a r := by
  obtain ⟨v, hv, rfl⟩ := pv_some hr
  refine did_val hW (u := a.eval x) ?_ (evA_ok hW hF hv)
  rcases ho with ho | ho <;> simp [execOp, ho]
theorem d_pick (hW : WR P m h nx w) (hF : FR m fr a.tmps sz) {c x y : Operand} (ho : o.op = .pick c x y) (hr : oPick c x y P fr h nx = some r) : Did P m h w o a r := by
  obtain ⟨t, ht, hr⟩ := bind_some hr
  obtain ⟨tv, ht1, ht2⟩ := bind_some ht
  obtain ⟨v, hv, rfl⟩ := pv_some hr
  have hc := evA_ok hW hF ht1
  rw [asB_some ht2] at hc
  have hc := hc.bool_inv
  cases t with
  | true => exact did_val hW (u := a.eval x) (by simp [execOp, ho, hc, asBool]) (evA_ok hW hF hv)
  | false => exact did_val hW (u := a.eval y) (by simp [execOp, ho, hc, asBool]) (evA_ok hW hF hv)
set_option maxHeartbeats 2000000 in
theorem d_bin (hW : WR P m h nx w) (hF : FR m fr a.tmps sz) {op : BinOp} {t t' : TypeId} {x y : Operand} (ho : o.op = .binOp op t x y t') (hr : oBin op t x y t' P fr h nx = some r) : Did P m h w o a r := by
  obtain ⟨v1, h1, hr⟩ := bind_some hr
  obtain ⟨v2, h2, hr⟩ := bind_some hr
  obtain ⟨v, hv, rfl⟩ := pv_some hr
  have e1 := evA_ok hW hF h1
  have e2 := evA_ok hW hF h2
  obtain ⟨X, hX⟩ : ∃ X, a.eval x = X := ⟨_, rfl⟩
  obtain ⟨Y, hY⟩ : ∃ Y, a.eval y = Y := ⟨_, rfl⟩
  rw [hX] at e1; rw [hY] at e2
  -- what equality gives
  have heq : ∀ A B : AV, binEq P op t x y h A B = some v → VR m A X → VR m B Y → (∀ b, eqT P h 10 t A B = some b → (eqGuard op t x y X Y).run P w = .ok () w) → (∀ C D : IntKind × Int, ¬ (X = .int C.1 C.2 ∧ Y = .int D.1 D.2)) → (∀ C D : ByteArray, ¬ (X = .string C ∧ Y = .string D)) →
      ∃ u, ((execOp a.eval o).run P w = .ok (.value u) w) ∧ VR m v u := by
    intro A B hb hA hB hg hni hns
    obtain ⟨_, hb⟩ := cond_some hb
    have key : ∀ b, eqT P h 10 t A B = some b → (Go.Op.equal t X Y).run P w = .ok b w := fun b hb => eqT_eq hW hb hA hB
    cases op <;> first | (cases hb; done) | skip
    · obtain ⟨b, hbb, rfl⟩ := map_some (show (eqT P h 10 t A B).map AV.bool = some v from hb)
      refine ⟨.bool b, ?_, .bool b⟩
      have h3 : (Go.binOp .eql t X Y).run P w = .ok (.bool b) w := by
        have : Go.binOp .eql t X Y = (do pure (.bool (← Go.Op.equal t X Y)) : Sem Value) := by
          cases hA <;> cases hB <;> first | rfl | (exfalso; exact hni (_, _) (_, _) ⟨rfl, rfl⟩) | (exfalso; exact hns _ _ ⟨rfl, rfl⟩)
        rw [this]; simp [key b hbb]
      simp [execOp, ho, hX, hY, hg b hbb, h3]
    · obtain ⟨b, hbb, rfl⟩ := map_some (show (eqT P h 10 t A B).map (fun b => AV.bool (!b)) = some v from hb)
      refine ⟨.bool (!b), ?_, .bool _⟩
      have h3 : (Go.binOp .neq t X Y).run P w = .ok (.bool (!b)) w := by
        have : Go.binOp .neq t X Y = (do pure (.bool (!(← Go.Op.equal t X Y))) : Sem Value) := by
          cases hA <;> cases hB <;> first | rfl | (exfalso; exact hni (_, _) (_, _) ⟨rfl, rfl⟩) | (exfalso; exact hns _ _ ⟨rfl, rfl⟩)
        rw [this]; simp [key b hbb]
      simp [execOp, ho, hX, hY, hg b hbb, h3]
  have hguard : ∀ {A B : AV}, binEq P op t x y h A B = some v → VR m A X → VR m B Y → ∀ b, eqT P h 10 t A B = some b → (eqGuard op t x y X Y).run P w = .ok () w := by
    intro A B hb hA hB b hbb
    obtain ⟨hg, _⟩ := cond_some hb
    cases hA with
    | nili =>
      cases hB with
      | nili =>
        have hg : (constO x || constO y) = true := hg
        cases x <;> cases y <;> first | (cases hg; done) | (cases op <;> simp [eqGuard])
      | _ => cases op <;> simp [eqGuard]
    | agg hl =>
      cases hB with
      | agg hl' =>
        have hg : (!P.eqGuardType P.depth t) = true := hg
        have hg : P.eqGuardType P.depth t = false := by simpa using hg
        exact run_eqGuard_agg w op t x y _ _ hg
      | _ => cases op <;> simp [eqGuard]
    | _ => cases hB <;> cases op <;> simp [eqGuard]
  have fin : ∀ u, (execOp a.eval o).run P w = .ok (.value u) w ∧ VR m v u → Did P m h w o a ⟨v, h, nx⟩ := fun u hu => did_val hW hu.1 hu.2
  cases v1 with
  | int k z =>
    have e1' := e1.int_inv
    subst e1'
    cases v2 with
    | int k' z' =>
      have e2' := e2.int_inv
      subst e2'
      obtain ⟨u, hu, hvu⟩ := binInts_ok (P := P) hv m t w
      refine fin u ⟨?_, hvu⟩
      have hg : (eqGuard op t x y (.int k z) (.int k' z')).run P w = .ok () w := by cases op <;> simp [eqGuard]
      simp [execOp, ho, hX, hY, hg, hu]
    | _ => cases hv
  | str s =>
    have e1' := e1.str_inv
    subst e1'
    cases v2 with
    | str s' =>
      have e2' := e2.str_inv
      subst e2'
      obtain ⟨u, hu, hvu⟩ := binS_ok (P := P) hv m t w
      refine fin u ⟨?_, hvu⟩
      have hg : (eqGuard op t x y (.string ⟨s.toArray⟩) (.string ⟨s'.toArray⟩)).run P w = .ok () w := by cases op <;> simp [eqGuard]
      simp [execOp, ho, hX, hY, hg, hu]
    | _ => cases hv
  | rep _ _ => cases hv
  | _ =>
    obtain ⟨u, hu⟩ := heq _ v2 hv e1 e2 (hguard hv e1 e2) (by rintro _ _ ⟨rfl, _⟩; cases e1) (by rintro _ _ ⟨rfl, _⟩; cases e1)
    exact fin u hu
theorem d_un (hW : WR P m h nx w) (hF : FR m fr a.tmps sz) {op : UnOp} {t : TypeId} {x : Operand} (ho : o.op = .unOp op t x) (hr : oUn op t x P fr h nx = some r) : Did P m h w o a r := by
  obtain ⟨v, hv, rfl⟩ := pv_some hr
  obtain ⟨v1, h1, hv⟩ := bind_some hv
  have e1 := evA_ok hW hF h1
  cases op with
  | neg => cases v1 <;> first | (cases hv; done) | skip
           cases hv
           rename_i k z
           exact did_val hW (u := .int k (k.wrap (0 - z))) (by simp [execOp, ho, e1.int_inv, Op.unary, Op.intArith]) (by unfold negI; rw [wrapZ_eq]; exact .int k _)
  | xor => cases v1 <;> first | (cases hv; done) | skip
           cases hv
           rename_i k z
           exact did_val hW (by simp [execOp, ho, e1.int_inv, Op.unary, Op.intBits]) (.int k _)
  | not => cases v1 <;> first | (cases hv; done) | skip
           cases hv
           rename_i b
           exact did_val hW (u := .bool (!b)) (by simp [execOp, ho, e1.bool_inv, Op.unary]) (.bool _)
  | plus => cases hv
theorem d_ifc (hW : WR P m h nx w) (hF : FR m fr a.tmps sz) {t : TypeId} {x : Operand} (ho : o.op = .makeInterface t x) (hr : oIfc t x P fr h nx = some r) : Did P m h w o a r := by
  obtain ⟨hc, hr⟩ := cond_some hr
  obtain ⟨v, hv, rfl⟩ := map_some hr
  have h1 := getD_true hc
  obtain ⟨u, hu, hn⟩ := map_some h1
  refine did_val hW (u := .iface t (a.eval x)) ?_ (.iface t (evA_ok hW hF hv))
  cases u <;> first | (cases hn; done) | simp [execOp, ho, Instr.makeInterface, run_underlying hu]
theorem d_func (hW : WR P m h nx w) (hF : FR m fr a.tmps sz) {f : Fn} {x y : Array Operand} (ho : o.op = .makeFunc f x y) (hr : oFunc f x y P fr h nx = some r) : Did P m h w o a r := by
  obtain ⟨l, hl, hr⟩ := bind_some hr
  obtain ⟨l', hl', rfl⟩ := map_some hr
  refine did_val hW (u := .func f (x.map a.eval) (y.map a.eval)) (by simp [execOp, ho, Instr.makeFunc]) (.fn f ?_ ?_)
  · simpa using evL_ok hW hF hl
  · simpa using evL_ok hW hF hl'
theorem d_load (hW : WR P m h nx w) (hF : FR m fr a.tmps sz) {t : TypeId} {x : Operand} (ho : o.op = .load t x) (hr : oLoad t x P fr h nx = some r) : Did P m h w o a r := by
  obtain ⟨p, hp, hr⟩ := bind_some hr
  obtain ⟨v, hv, rfl⟩ := pv_some hr
  obtain ⟨v1, h1, hp⟩ := bind_some hp
  have e1 := evA_ok hW hF h1
  rw [asP_some hp] at e1
  obtain ⟨z, hz, e1⟩ := e1.ptr_inv
  obtain ⟨z', u, hz', hrun, hvu⟩ := loadV_ok hW hv
  rw [hz] at hz'; cases hz'
  exact did_val hW (u := u) (by simp [execOp, ho, Instr.loadAt, e1, Instr.sureAddr, hrun]) hvu
theorem d_store (hW : WR P m h nx w) (hF : FR m fr a.tmps sz) {t : TypeId} {x y : Operand} (ho : o.op = .store t x y) (hr : oStore t x y P fr h nx = some r) : Did P m h w o a r := by
  obtain ⟨p, hp, hr⟩ := bind_some hr
  obtain ⟨v, hv, hr⟩ := bind_some hr
  obtain ⟨h', hs, rfl⟩ := map_some hr
  obtain ⟨v1, h1, hp⟩ := bind_some hp
  have e1 := evA_ok hW hF h1
  rw [asP_some hp] at e1
  obtain ⟨z, hz, e1⟩ := e1.ptr_inv
  obtain ⟨z', w', hz', hrun, hW', hE⟩ := storeV_ok hW hs (evA_ok hW hF hv)
  rw [hz] at hz'; cases hz'
  refine ⟨undef, w', m, .inr ⟨?_, rfl⟩, hW', un_undef m, hE⟩
  simp [execOp, ho, Instr.storeAt, e1, Instr.sureAddr, hrun]
theorem d_nil (hW : WR P m h nx w) (hF : FR m fr a.tmps sz) {x : Operand} (ho : o.op = .nilCheck x) (hr : oNil x P fr h nx = some r) : Did P m h w o a r := by
  obtain ⟨v, hv, hr⟩ := bind_some hr
  obtain ⟨ht, hr⟩ := cond_some hr
  cases hr
  have e1 := evA_ok hW hF hv
  obtain ⟨X, hX⟩ : ∃ X, a.eval x = X := ⟨_, rfl⟩
  rw [hX] at e1
  refine did_val hW (u := X) ?_ e1
  cases e1 with
  | fn f ha hc => cases f with
    | func i => simp [execOp, ho, hX]
    | _ => cases ht
  | ptr _ _ => simp [execOp, ho, hX]
  | slice _ _ _ _ _ => simp [execOp, ho, hX]
  | sliceZ _ _ _ => simp [execOp, ho, hX]
  | nils => simp [execOp, ho, hX]
  | iface _ _ => simp [execOp, ho, hX]
  | _ => cases ht
theorem fieldT_some {t : TypeId} {i : Nat} {f : Field} (hf : fieldT P t i = some f) : ∃ fs, P.underlying t = some (.struct fs) ∧ fs[i]? = some f := by
  obtain ⟨fs, h1, h2⟩ := bind_some hf
  obtain ⟨u, hu, h1⟩ := bind_some h1
  cases u <;> first | (cases h1; done) | skip
  cases h1
  exact ⟨_, hu, by rw [← Array.getElem?_toList]; exact h2⟩
theorem d_fieldAddr (hW : WR P m h nx w) (hF : FR m fr a.tmps sz) {t : TypeId} {x : Operand} {i : Nat} (ho : o.op = .fieldAddr t x i) (hr : oFieldAddr t x i P fr h nx = some r) : Did P m h w o a r := by
  obtain ⟨p, hp, hr⟩ := bind_some hr
  obtain ⟨v, hv, rfl⟩ := pv_some hr
  obtain ⟨f, hf, hv⟩ := bind_some hv
  obtain ⟨n, hn, hv⟩ := bind_some hv
  obtain ⟨hn0, hv⟩ := cond_some hv
  cases hv
  rw [blt_eq] at hn0
  have hn0 : 0 < n := of_decide_eq_true hn0
  obtain ⟨fs, hu, hf⟩ := fieldT_some hf
  obtain ⟨v1, h1, hp⟩ := bind_some hp
  have e1 := evA_ok hW hF h1
  rw [asP_some hp] at e1
  obtain ⟨z, hz, e1⟩ := e1.ptr_inv
  refine did_val hW (u := .pointer (some ⟨z.blk, z.sh + (p.o + f.offset), none⟩)) ?_ (.ptr _ hz)
  simp [execOp, ho, Instr.fieldAt, run_underlying hu, hf, e1, Instr.sureAddr, fieldPlace, run_sizeOf hn, show n ≠ 0 by omega, addr_add, Nat.add_assoc]
theorem d_field (hW : WR P m h nx w) (hF : FR m fr a.tmps sz) {t : TypeId} {x : Operand} {i : Nat} (ho : o.op = .field t x i) (hr : oField t x i P fr h nx = some r) : Did P m h w o a r := by
  obtain ⟨cs, hp, hr⟩ := bind_some hr
  obtain ⟨v, hv, rfl⟩ := pv_some hr
  obtain ⟨f, hf, hv⟩ := bind_some hv
  obtain ⟨fs, hu, hf⟩ := fieldT_some hf
  obtain ⟨v1, h1, hp⟩ := bind_some hp
  have e1 := evA_ok hW hF h1
  rw [asAgg_some hp] at e1
  obtain ⟨us, e1, hl⟩ := e1.agg_inv
  obtain ⟨u, hrun, hvu⟩ := partA_ok hv hl w
  exact did_val hW (u := u) (by simp [execOp, ho, Instr.field, run_underlying hu, hf, e1, Go.asAgg, hrun]) hvu
theorem d_extract (hW : WR P m h nx w) (hF : FR m fr a.tmps sz) {x : Operand} {i : Nat} (ho : o.op = .extract x i) (hr : oExtract x i P fr h nx = some r) : Did P m h w o a r := by
  obtain ⟨v, hv, rfl⟩ := pv_some hr
  obtain ⟨l, hl, hv⟩ := bind_some hv
  obtain ⟨v1, h1, hl⟩ := bind_some hl
  have e1 := evA_ok hW hF h1
  rw [asTup_some hl] at e1
  obtain ⟨us, e1, hl⟩ := e1.tup_inv
  obtain ⟨u, hu, hvu⟩ := hl.get i v hv
  have hu' : us[i]? = some u := by rw [← Array.getElem?_toList]; exact hu
  exact did_val hW (u := u) (by simp [execOp, ho, Instr.extract, e1, hu']) hvu
theorem arrD_some {u : TypeDesc} {x : Arr} (hx : arrD u = some x) : u = .array x.n x.e := by cases u <;> first | (cases hx; rfl) | cases hx
theorem d_index (hW : WR P m h nx w) (hF : FR m fr a.tmps sz) {t : TypeId} {x y : Operand} (ho : o.op = .index t x y) (hr : oIndex t x y P fr h nx = some r) : Did P m h w o a r := by
  obtain ⟨v1, h1, hr⟩ := bind_some hr
  obtain ⟨v2, h2, hr⟩ := bind_some hr
  obtain ⟨v, hv, rfl⟩ := pv_some hr
  obtain ⟨u, hu, hv⟩ := bind_some hv
  obtain ⟨j, hj, hv⟩ := bind_some hv
  obtain ⟨k, hk⟩ := asN_some hj
  have e1 := evA_ok hW hF h1
  have e2 := evA_ok hW hF h2
  rw [hk] at e2
  have e2 := e2.int_inv
  cases u with
  | string =>
    obtain ⟨s, hs, hv⟩ := bind_some (show ((asS v1).bind fun s => (s[j]?).map byteA) = some v from hv)
    obtain ⟨b, hb, rfl⟩ := map_some hv
    rw [asS_some hs] at e1
    have e1 := e1.str_inv
    have hsz : j < s.length := (List.getElem?_eq_some_iff.1 hb).1
    have hb2 : (⟨s.toArray⟩ : ByteArray)[j]? = some b := by
      have : (⟨s.toArray⟩ : ByteArray)[j]? = s.toArray[j]? := rfl
      rw [this]; simpa using hb
    refine did_val hW (u := .int .u8 b.toNat) ?_ (.int .u8 _)
    simp [execOp, ho, Instr.index, e1, e2, asIntOf, run_underlying hu, hb2]
  | array n e =>
    obtain ⟨hjn, hv⟩ := cond_some (show (bif Nat.blt j n then (asAgg v1).bind fun cs => (sizeT P e).bind fun z => partA P e cs (j * z) else none) = some v from hv)
    obtain ⟨cs, hcs, hv⟩ := bind_some hv
    obtain ⟨z, hz, hv⟩ := bind_some hv
    rw [blt_eq] at hjn
    have hjn : j < n := of_decide_eq_true hjn
    rw [asAgg_some hcs] at e1
    obtain ⟨us, e1, hl⟩ := e1.agg_inv
    obtain ⟨u, hrun, hvu⟩ := partA_ok hv hl w
    have hi : (0 : Int) ≤ (j : Int) ∧ (j : Int) < (n : Int) := by omega
    refine did_val hW (u := u) ?_ hvu
    simp [execOp, ho, Instr.index, e1, e2, asIntOf, run_underlying hu, hjn, run_sizeOf hz, hrun]
  | _ => cases hv
theorem d_indexAddr (hW : WR P m h nx w) (hF : FR m fr a.tmps sz) {t : TypeId} {x y : Operand} (ho : o.op = .indexAddr t x y) (hr : oIndexAddr t x y P fr h nx = some r) : Did P m h w o a r := by
  obtain ⟨v1, h1, hr⟩ := bind_some hr
  obtain ⟨v2, h2, hr⟩ := bind_some hr
  obtain ⟨v, hv, rfl⟩ := pv_some hr
  obtain ⟨u, hu, hv⟩ := bind_some hv
  obtain ⟨j, hj, hv⟩ := bind_some hv
  obtain ⟨k, hk⟩ := asN_some hj
  have e1 := evA_ok hW hF h1
  have e2 := evA_ok hW hF h2
  rw [hk] at e2
  have e2 := e2.int_inv
  cases u with
  | slice e =>
    obtain ⟨s, hs, hv⟩ := bind_some (show ((asSl v1).bind fun s => (sizeT P e).bind (ixAt s.b s.o j s.n)) = some v from hv)
    obtain ⟨z, hz, hv⟩ := bind_some hv
    obtain ⟨hjn, hv⟩ := cond_some hv
    cases hv
    rw [blt_eq] at hjn
    have hjn : j < s.n := of_decide_eq_true hjn
    obtain ⟨b, oo, n, c, ex, rfl, rfl⟩ := asSl_some hs
    obtain ⟨X, hX⟩ : ∃ X, a.eval x = X := ⟨_, rfl⟩
    rw [hX] at e1
    cases e1 with
    | @slice _ zz _ _ _ _ hm =>
      refine did_val hW (u := .pointer (some ⟨zz.blk, zz.sh + (oo + j * z), none⟩)) ?_ (.ptr _ hm)
      simp [execOp, ho, Instr.indexAt, hX, e2, asIntOf, run_underlying hu, run_sizeOf hz, addr_add, Nat.add_assoc]
      intro hh; exfalso; exact absurd hjn (by simpa using hh)
    | sliceZ _ _ _ => exact absurd hjn (by simp)
  | array n e =>
    obtain ⟨p, hp, hv⟩ := bind_some (show ((asP v1).bind fun p => (sizeT P e).bind (ixAt p.b p.o j n)) = some v from hv)
    obtain ⟨z, hz, hv⟩ := bind_some hv
    obtain ⟨hjn, hv⟩ := cond_some hv
    cases hv
    rw [blt_eq] at hjn
    have hjn : j < n := of_decide_eq_true hjn
    rw [asP_some hp] at e1
    obtain ⟨zz, hm, e1⟩ := e1.ptr_inv
    refine did_val hW (u := .pointer (some ⟨zz.blk, zz.sh + (p.o + j * z), none⟩)) ?_ (.ptr _ hm)
    simp [execOp, ho, Instr.indexAt, e1, e2, asIntOf, Instr.sureAddr, run_underlying hu, run_sizeOf hz, addr_add, Nat.add_assoc, hjn]
  | _ => cases hv
end
end Ex
end Go.Proofs.YtajoljoegbeiiaaGreatDoor
