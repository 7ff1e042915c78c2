/-
  The executor: parts of aggregates, equality. The executor: operations that leave the world alone, loads, stores, new variables. The executor: new variables, literals, slices cut. The executor: rows laid, slices cut.
-/
import Derived.Test.YtdngjkjoahgelaaGreatDoorExXB
namespace Go.Proofs.YtdngjkjoahgelaaGreatDoor
set_option linter.all false
namespace Ex
open Go.RowKit
section
variable {P : Program} {m : Mz} {h : Hp} {nx : Nat} {w : World}
theorem partA_ok {t : TypeId} {cs : List AV} {o : Nat} {v : AV} (hp : partA P t cs o = some v) {us : Array Value} (hv : VRL m cs us.toList) (w : World) : ∃ u, (part t us o).run P w = .ok u w ∧ VR m v u := by
  obtain ⟨g, hg, hp⟩ := bind_some hp
  cases g with
  | true =>
    have hp1 : ((sizeT P t).map fun n => AV.agg ((cs.drop o).take n)) = some v := hp
    obtain ⟨n, hn, rfl⟩ := map_some hp1
    refine ⟨.agg (us.extract o (o + n)), by simp [part, run_isAgg hg, run_sizeOf hn], .agg ?_⟩
    have e : (us.extract o (o + n)).toList = (us.toList.drop o).take n := by
      rw [Array.toList_extract]
      simp [List.extract]
    rw [e]
    exact (hv.drop o).take n
  | false =>
    have hp1 : cs[o]? = some v := hp
    obtain ⟨u, hu, hvu⟩ := hv.get o v hp1
    have hu' : us[o]? = some u := by rw [← Array.getElem?_toList]; exact hu
    exact ⟨u, by simp [part, run_isAgg hg, hu'], hvu⟩
theorem getD_true {x : Option Bool} (hx : x.getD false = true) : x = some true := by
  cases x with
  | none => cases hx
  | some b => cases b with
    | false => cases hx
    | true => rfl
theorem wholeAt_some {o : Nat} {b : Nat} (hx : ((getBk h b).map (wholeAt o)).getD false = true) : ∃ k, getBk h b = some k ∧ k.ro = false ∧ k.st = false ∧ k.fx = true ∧ k.fz = 0 ∧ o < k.n := by
  have h1 := getD_true hx
  obtain ⟨k, hk, h2⟩ := map_some h1
  unfold wholeAt at h2
  simp only [Bool.and_eq_true, Bool.not_eq_true'] at h2
  obtain ⟨⟨⟨⟨h3, h4⟩, h5⟩, h6⟩, h7⟩ := h2
  rw [beq_eq] at h6; rw [blt_eq] at h7
  exact ⟨k, hk, h3, h4, h5, by simpa using h6, by simpa using h7⟩
theorem samePt_ok (hW : WR P m h nx w) {a o b u : Nat} {r : Bool} (hs : samePt h ⟨a, o⟩ ⟨b, u⟩ = some r) {za zb : Cz} (ha : m a = some za) (hb : m b = some zb) :
    (sameAddr ⟨za.blk, za.sh + o, none⟩ ⟨zb.blk, zb.sh + u, none⟩).run P w = .ok r w := by
  unfold samePt at hs
  by_cases hab : a = b
  · subst hab
    rw [ha] at hb; cases hb
    rw [show Nat.beq a a = true from Nat.beq_refl a] at hs
    have hs1 : some (Nat.beq o u) = some r := hs
    rw [beq_eq] at hs1
    cases hs1
    by_cases hou : o = u
    · subst hou; simp [sameAddr]
    · simp [sameAddr, hou]
  · have hn : Nat.beq a b = false := by rw [beq_eq]; exact decide_eq_false hab
    have hs1 : (bif ((getBk h a).map (wholeAt o)).getD false && ((getBk h b).map (wholeAt u)).getD false then some false else none) = some r := by
      have := hs
      simp only [hn, cond_false] at this
      exact this
    obtain ⟨hc, hr⟩ := cond_some hs1
    cases hr
    obtain ⟨hca, hcb⟩ := Bool.and_eq_true_iff.1 hc
    obtain ⟨ka, hka, a1, a2, a3, a4, a5⟩ := wholeAt_some hca
    obtain ⟨kb, hkb, b1, b2, b3, b4, b5⟩ := wholeAt_some hcb
    obtain ⟨za', csa, fza, hA⟩ := hW.bk hka
    obtain ⟨zb', csb, fzb, hB⟩ := hW.bk hkb
    have := hA.hm; rw [ha] at this; cases this
    have := hB.hm; rw [hb] at this; cases this
    have hne : zb.blk ≠ za.blk := fun e => by
      have h3 := hW.ap a b za zb (Ne.symm hab) ha hb (by rw [getBk_some hkb]; simp)
      rw [getBk_some hka, getBk_some hkb] at h3
      obtain ⟨kx, hkx, _, _, hfx, _⟩ := h3 a1 a2 e
      cases hkx; rw [b3] at hfx; cases hfx
    have pa := hA.hp; rw [hA.bare a3 a1 a4] at pa
    have pb := hB.hp; rw [hB.bare b3 b1 b4] at pb
    exact run_sameAddr_other w (a := ⟨za.blk, za.sh + o, none⟩) (b := ⟨zb.blk, zb.sh + u, none⟩) (fun e => hne (congrArg Addr.block e).symm) pa pb
def EqOk (P : Program) (m : Mz) (w : World) (d : Nat) (eq : Eq2) : Prop := ∀ t x y b, eq t x y = some b → ∀ D, d ≤ D → ∀ X Y, VR m x X → VR m y Y → (Op.equalIn D t X Y).run P w = .ok b w
theorem eqPart_ok {d : Nat} {eq : Eq2} (heq : EqOk P m w d eq) {t : TypeId} {xs ys : List AV} {o : Nat} {r : Bool} {us vs : Array Value} (hx : VRL m xs us.toList) (hy : VRL m ys vs.toList)
    (he : eqPart eq t (partA P t xs o) (partA P t ys o) = some r) : ∃ u v, (part t us o).run P w = .ok u w ∧ (part t vs o).run P w = .ok v w ∧ ∀ D, d ≤ D → (Op.equalIn D t u v).run P w = .ok r w := by
  unfold eqPart at he
  cases h1 : partA P t xs o with
  | none => rw [h1] at he; cases he
  | some x =>
    cases h2 : partA P t ys o with
    | none => rw [h1, h2] at he; cases he
    | some y =>
      rw [h1, h2] at he
      obtain ⟨u, hu, hxu⟩ := partA_ok h1 hx w
      obtain ⟨v, hv, hyv⟩ := partA_ok h2 hy w
      exact ⟨u, v, hu, hv, fun D hD => heq t x y r he D hD u v hxu hyv⟩
theorem andO_some {a b : Option Bool} {r : Bool} (he : andO a b = some r) : (a = some false ∧ r = false) ∨ (a = some true ∧ b = some r) := by
  cases a with
  | none => cases he
  | some a => cases a with
    | false => cases he; exact .inl ⟨rfl, rfl⟩
    | true => exact .inr ⟨rfl, he⟩
theorem eqFs_ok {d : Nat} {eq : Eq2} (heq : EqOk P m w d eq) {xs ys : List AV} {us vs : Array Value} (hx : VRL m xs us.toList) (hy : VRL m ys vs.toList) : ∀ (fs : List Field) (r : Bool), eqFs P eq xs ys fs = some r →
    ∀ D, d ≤ D → (Op.eqFields D us vs fs).run P w = .ok r w
  | [], r, he, D, _ => by cases he; simp [Op.eqFields]
  | f :: fs, r, he, D, hD => by
    rw [eqFs] at he
    by_cases hn : f.name = "_"
    · have hb : (f.name == "_") = true := by simpa using hn
      rw [hb] at he
      simp only [Op.eqFields, hn, ne_eq, not_true_eq_false, if_false]
      exact eqFs_ok heq hx hy fs r he D hD
    · have hb : (f.name == "_") = false := by simpa using hn
      rw [hb] at he
      have he1 : andO (eqPart eq f.type (partA P f.type xs f.offset) (partA P f.type ys f.offset)) (eqFs P eq xs ys fs) = some r := he
      simp only [Op.eqFields, ne_eq, hn, not_false_eq_true, if_true, Sem.run_bind]
      rcases andO_some he1 with ⟨h1, rfl⟩ | ⟨h1, h2⟩
      · obtain ⟨u, v, p1, p2, p3⟩ := eqPart_ok heq hx hy h1
        simp [p1, p2, p3 D hD]
      · obtain ⟨u, v, p1, p2, p3⟩ := eqPart_ok heq hx hy h1
        simp [p1, p2, p3 D hD, eqFs_ok heq hx hy fs r h2 D hD]
theorem eqEs_ok {d : Nat} {eq : Eq2} (heq : EqOk P m w d eq) {e : TypeId} {n : Nat} (hn : P.cellsOf e = n) {xs ys : List AV} {us vs : Array Value} (hx : VRL m xs us.toList) (hy : VRL m ys vs.toList) : ∀ (k i : Nat) (r : Bool), eqEs P eq e xs ys n k i = some r →
    ∀ D, d ≤ D → (Op.eqItems D e (P.cellsOf e) us vs (List.range' i k)).run P w = .ok r w
  | 0, i, r, he, D, _ => by cases he; simp [Op.eqItems]
  | k + 1, i, r, he, D, hD => by
    rw [eqEs] at he
    rw [List.range'_succ]
    simp only [Op.eqItems, Sem.run_bind, hn]
    rcases andO_some he with ⟨h1, rfl⟩ | ⟨h1, h2⟩
    · obtain ⟨u, v, p1, p2, p3⟩ := eqPart_ok heq hx hy h1
      simp [p1, p2, p3 D hD]
    · obtain ⟨u, v, p1, p2, p3⟩ := eqPart_ok heq hx hy h1
      have := eqEs_ok heq hn hx hy k (i + 1) r h2 D hD
      rw [hn] at this
      simp [p1, p2, p3 D hD, this]
set_option maxHeartbeats 2000000 in
theorem eqT_ok (hW : WR P m h nx w) : ∀ d : Nat, EqOk P m w d (eqT P h d)
  | 0 => fun t x y b he => by cases he
  | d + 1 => fun t x y b he D hD X Y hX hY => by
    obtain ⟨D, rfl⟩ : ∃ D', D = D' + 1 := ⟨D - 1, by omega⟩
    have hD' : d ≤ D := by omega
    have ih := eqT_ok hW d
    obtain ⟨u, hu, he⟩ := bind_some (show ((P.underlying t).bind fun u => eqU u P h (eqT P h d) t x y) = some b from he)
    cases u with
    | bool =>
      have he : eqBool x y = some b := he
      cases hX <;> cases hY <;> first | (cases he; done) | (cases he; exact run_equalIn_bool w D t _ _ hu)
    | int k =>
      have he : eqInt x y = some b := he
      cases hX <;> cases hY <;> first | (cases he; done) | skip
      obtain ⟨hk, he1⟩ := cond_some he
      have hkk := of_decide_eq_true hk
      subst hkk
      clear he
      cases he1
      rw [eqZ_eq]; exact run_equalIn_int w D t _ _ _ _ hu
    | string =>
      have he : eqStr x y = some b := he
      cases hX <;> cases hY <;> first | (cases he; done) | skip
      cases he
      rw [run_equalIn_string w D t _ _ hu, toList_str, toList_str, eqS_eq]
    | pointer e =>
      have he : eqPtr P h e x y = some b := he
      cases hX with
      | @ptr a za oa ha => cases hY with
        | @ptr b' zb ob hb =>
          obtain ⟨n, hn, he⟩ := bind_some (show (sizeT P e).bind (eqPtrs h a oa b' ob) = some b from he)
          obtain ⟨hn0, he⟩ := cond_some he
          rw [blt_eq] at hn0
          have hn0 : 0 < n := of_decide_eq_true hn0
          have h3 := samePt_ok hW he ha hb
          simp [Op.equalIn, run_underlying hu, run_sizeOf hn, show n ≠ 0 by omega, h3]
        | nilp => cases he; simp [Op.equalIn, run_underlying hu]
        | _ => cases he
      | nilp => cases hY with
        | ptr ob hb => cases he; simp [Op.equalIn, run_underlying hu]
        | nilp => cases he; simp [Op.equalIn, run_underlying hu]
        | _ => cases he
      | _ => cases he
    | interface ms =>
      have he : eqIfc P (eqT P h d) x y = some b := he
      cases hX with
      | @iface tx v X hv => cases hY with
        | @iface ty v' Y hv' =>
          have he : (bif Nat.beq tx ty then (P.info? tx).bind (eqDyn (eqT P h d) tx v v') else some false) = some b := he
          by_cases htt : tx = ty
          · subst htt
            rw [show Nat.beq tx tx = true from Nat.beq_refl tx] at he
            obtain ⟨i, hi, he⟩ := bind_some (show (P.info? tx).bind (eqDyn (eqT P h d) tx v v') = some b from he)
            obtain ⟨hc, he⟩ := cond_some he
            have h3 := ih tx v v' b he D hD' X Y hv hv'
            simp [Op.equalIn, run_underlying hu, typeInfo, hi, hc, h3]
          · rw [show Nat.beq tx ty = false by rw [beq_eq]; exact decide_eq_false htt] at he
            cases he
            simp [Op.equalIn, run_underlying hu, htt]
        | nili => cases he; simp [Op.equalIn, run_underlying hu]
        | _ => cases he
      | nili => cases hY with
        | iface ty hv' => cases he; simp [Op.equalIn, run_underlying hu]
        | nili => cases he; simp [Op.equalIn, run_underlying hu]
        | _ => cases he
      | _ => cases he
    | struct fs =>
      have he : eqSt P (eqT P h d) t fs.toList x y = some b := he
      cases hX with
      | @agg xs us hx => cases hY with
        | @agg ys vs hy =>
          have he : (bif P.stoodInHeld t then none else eqFs P (eqT P h d) xs ys fs.toList) = some b := he
          cases hs : P.stoodInHeld t with
          | true => rw [hs] at he; cases he
          | false =>
            rw [hs] at he
            have hf : P.fieldsOf t = fs := by simp [Program.fieldsOf, hu]
            rw [run_equalIn_struct w D t us vs (by rw [hf]; exact hu) hs, hf]
            exact eqFs_ok ih hx hy fs.toList b he D hD'
        | _ => cases he
      | _ => cases he
    | array n e =>
      have he : eqAr P (eqT P h d) n e x y = some b := he
      cases hX with
      | @agg xs us hx => cases hY with
        | @agg ys vs hy =>
          obtain ⟨z, hz, he⟩ := bind_some (show ((sizeT P e).bind fun z => eqEs P (eqT P h d) e xs ys z n 0) = some b from he)
          obtain ⟨i, hi, _⟩ := sizeT_some hz
          rw [run_equalIn_array w D us vs hu hi, List.range_eq_range']
          exact eqEs_ok ih (cellsOf_eq hz) hx hy n 0 b he D hD'
        | _ => cases he
      | _ => cases he
    | slice e =>
      have he : eqSl x y = some b := he
      cases hX <;> cases hY <;> first | (cases he; done) | (cases he; simp [Op.equalIn, run_underlying hu])
    | map k e =>
      have he : eqMp x y = some b := he
      cases hX <;> cases hY <;> first | (cases he; done) | (cases he; simp [Op.equalIn, run_underlying hu])
    | func a c v =>
      have he : eqFn x y = some b := he
      cases hX <;> cases hY <;> first | (cases he; done) | (cases he; simp [Op.equalIn, run_underlying hu])
    | invalid => cases he
    | float k => cases he
    | complex k => cases he
    | unsafePointer => cases he
    | chan a b => cases he
    | tuple a => cases he
    | named a b => cases he
theorem eqT_eq (hW : WR P m h nx w) {t : TypeId} {x y : AV} {b : Bool} (he : eqT P h 10 t x y = some b) {X Y : Value} (hX : VR m x X) (hY : VR m y Y) : (Op.equal t X Y).run P w = .ok b w :=
  eqT_ok hW 10 t x y b he 10000 (by decide) X Y hX hY
end
end Ex
end Go.Proofs.YtdngjkjoahgelaaGreatDoor

namespace Go.Proofs.YtdngjkjoahgelaaGreatDoor
set_option linter.all false
namespace Ex
open Go.RowKit
def Did (P : Program) (m : Mz) (h : Hp) (w : World) (o : Oper) (a : Act) (r : Rs) : Prop :=
  ∃ u w' m', ((execOp a.eval o).run P w = .ok (.value u) w' ∨ ((execOp a.eval o).run P w = .ok .skip w' ∧ u = undef)) ∧ WR P m' r.h r.nx w' ∧ VR m' r.v u ∧ Evo m h w m' r.h w'
section
variable {P : Program} {m : Mz} {h : Hp} {nx : Nat} {w : World} {fr : Fm} {a : Act} {sz : Nat} {o : Oper} {r : Rs}
theorem did_val (hW : WR P m h nx w) {v : AV} {u : Value} (hrun : (execOp a.eval o).run P w = .ok (.value u) w) (hv : VR m v u) : Did P m h w o a ⟨v, h, nx⟩ :=
  ⟨u, w, m, .inl hrun, hW, hv, Evo.refl m h w⟩
theorem pv_some {x : Option AV} (hr : x.map (pv h nx) = some r) : ∃ v, x = some v ∧ r = ⟨v, h, nx⟩ := by
  obtain ⟨v, hv, rfl⟩ := map_some hr; exact ⟨v, hv, rfl⟩
theorem asP_some {v : AV} {p : At} (hp : asP v = some p) : v = .ptr p.b p.o := by cases v <;> first | (cases hp; rfl) | cases hp
theorem asN_some {v : AV} {n : Nat} (hp : asN v = some n) : ∃ k, v = .int k (.ofNat n) := by
  cases v with
  | int k z => cases z with
    | ofNat z => cases hp; exact ⟨k, rfl⟩
    | negSucc z => cases hp
  | _ => cases hp
theorem asI_some {v : AV} {n : Int} (hp : asI v = some n) : ∃ k, v = .int k n := by cases v <;> first | (cases hp; exact ⟨_, rfl⟩) | cases hp
theorem asB_some {v : AV} {b : Bool} (hp : asB v = some b) : v = .bool b := by cases v <;> first | (cases hp; rfl) | cases hp
theorem asS_some {v : AV} {b : List UInt8} (hp : asS v = some b) : v = .str b := by cases v <;> first | (cases hp; rfl) | cases hp
theorem asAgg_some {v : AV} {b : List AV} (hp : asAgg v = some b) : v = .agg b := by cases v <;> first | (cases hp; rfl) | cases hp
theorem asTup_some {v : AV} {b : List AV} (hp : asTup v = some b) : v = .tup b := by cases v <;> first | (cases hp; rfl) | cases hp
theorem asSl_some {v : AV} {s : Sl} (hp : asSl v = some s) : ∃ b o n c ex, v = .slice b o n c ex ∧ s = ⟨b, o, n, c, ex⟩ := by cases v <;> first | (cases hp; exact ⟨_, _, _, _, _, rfl, rfl⟩) | cases hp
theorem VR.int_inv {k : IntKind} {z : Int} {u : Value} (hv : VR m (.int k z) u) : u = .int k z := by cases hv; rfl
theorem VR.bool_inv {b : Bool} {u : Value} (hv : VR m (.bool b) u) : u = .bool b := by cases hv; rfl
theorem VR.str_inv {b : List UInt8} {u : Value} (hv : VR m (.str b) u) : u = .string ⟨b.toArray⟩ := by cases hv; rfl
theorem VR.ptr_inv {b o : Nat} {u : Value} (hv : VR m (.ptr b o) u) : ∃ z, m b = some z ∧ u = .pointer (some ⟨z.blk, z.sh + o, none⟩) := by cases hv with | ptr _ hz => exact ⟨_, hz, rfl⟩
theorem VR.agg_inv {l : List AV} {u : Value} (hv : VR m (.agg l) u) : ∃ us, u = .agg us ∧ VRL m l us.toList := by cases hv with | agg hl => exact ⟨_, rfl, hl⟩
theorem VR.tup_inv {l : List AV} {u : Value} (hv : VR m (.tup l) u) : ∃ us, u = .tuple us ∧ VRL m l us.toList := by cases hv with | tup hl => exact ⟨_, rfl, hl⟩

theorem d_move (hW : WR P m h nx w) (hF : FR m fr a.tmps sz) {x : Operand} (ho : o.op = .move x ∨ o.op = .assign x) (hr : oMove x P fr h nx = some r) : Did P m h w o a r := by
  obtain ⟨v, hv, rfl⟩ := pv_some hr
  refine did_val hW (u := a.eval x) ?_ (evA_ok hW hF hv)
  rcases ho with ho | ho <;> simp [execOp, ho]
theorem d_pick (hW : WR P m h nx w) (hF : FR m fr a.tmps sz) {c x y : Operand} (ho : o.op = .pick c x y) (hr : oPick c x y P fr h nx = some r) : Did P m h w o a r := by
  obtain ⟨t, ht, hr⟩ := bind_some hr
  obtain ⟨tv, ht1, ht2⟩ := bind_some ht
  obtain ⟨v, hv, rfl⟩ := pv_some hr
  have hc := evA_ok hW hF ht1
  rw [asB_some ht2] at hc
  have hc := hc.bool_inv
  cases t with
  | true => exact did_val hW (u := a.eval x) (by simp [execOp, ho, hc, asBool]) (evA_ok hW hF hv)
  | false => exact did_val hW (u := a.eval y) (by simp [execOp, ho, hc, asBool]) (evA_ok hW hF hv)
set_option maxHeartbeats 2000000 in
theorem d_bin (hW : WR P m h nx w) (hF : FR m fr a.tmps sz) {op : BinOp} {t t' : TypeId} {x y : Operand} (ho : o.op = .binOp op t x y t') (hr : oBin op t x y t' P fr h nx = some r) : Did P m h w o a r := by
  obtain ⟨v1, h1, hr⟩ := bind_some hr
  obtain ⟨v2, h2, hr⟩ := bind_some hr
  obtain ⟨v, hv, rfl⟩ := pv_some hr
  have e1 := evA_ok hW hF h1
  have e2 := evA_ok hW hF h2
  obtain ⟨X, hX⟩ : ∃ X, a.eval x = X := ⟨_, rfl⟩
  obtain ⟨Y, hY⟩ : ∃ Y, a.eval y = Y := ⟨_, rfl⟩
  rw [hX] at e1; rw [hY] at e2
  -- what equality gives
  have heq : ∀ A B : AV, binEq P op t x y h A B = some v → VR m A X → VR m B Y → (∀ b, eqT P h 10 t A B = some b → (eqGuard op t x y X Y).run P w = .ok () w) → (∀ C D : IntKind × Int, ¬ (X = .int C.1 C.2 ∧ Y = .int D.1 D.2)) → (∀ C D : ByteArray, ¬ (X = .string C ∧ Y = .string D)) →
      ∃ u, ((execOp a.eval o).run P w = .ok (.value u) w) ∧ VR m v u := by
    intro A B hb hA hB hg hni hns
    obtain ⟨_, hb⟩ := cond_some hb
    have key : ∀ b, eqT P h 10 t A B = some b → (Go.Op.equal t X Y).run P w = .ok b w := fun b hb => eqT_eq hW hb hA hB
    cases op <;> first | (cases hb; done) | skip
    · obtain ⟨b, hbb, rfl⟩ := map_some (show (eqT P h 10 t A B).map AV.bool = some v from hb)
      refine ⟨.bool b, ?_, .bool b⟩
      have h3 : (Go.binOp .eql t X Y).run P w = .ok (.bool b) w := by
        have : Go.binOp .eql t X Y = (do pure (.bool (← Go.Op.equal t X Y)) : Sem Value) := by
          cases hA <;> cases hB <;> first | rfl | (exfalso; exact hni (_, _) (_, _) ⟨rfl, rfl⟩) | (exfalso; exact hns _ _ ⟨rfl, rfl⟩)
        rw [this]; simp [key b hbb]
      simp [execOp, ho, hX, hY, hg b hbb, h3]
    · obtain ⟨b, hbb, rfl⟩ := map_some (show (eqT P h 10 t A B).map (fun b => AV.bool (!b)) = some v from hb)
      refine ⟨.bool (!b), ?_, .bool _⟩
      have h3 : (Go.binOp .neq t X Y).run P w = .ok (.bool (!b)) w := by
        have : Go.binOp .neq t X Y = (do pure (.bool (!(← Go.Op.equal t X Y))) : Sem Value) := by
          cases hA <;> cases hB <;> first | rfl | (exfalso; exact hni (_, _) (_, _) ⟨rfl, rfl⟩) | (exfalso; exact hns _ _ ⟨rfl, rfl⟩)
        rw [this]; simp [key b hbb]
      simp [execOp, ho, hX, hY, hg b hbb, h3]
  have hguard : ∀ {A B : AV}, binEq P op t x y h A B = some v → VR m A X → VR m B Y → ∀ b, eqT P h 10 t A B = some b → (eqGuard op t x y X Y).run P w = .ok () w := by
    intro A B hb hA hB b hbb
    obtain ⟨hg, _⟩ := cond_some hb
    cases hA with
    | nili =>
      cases hB with
      | nili =>
        have hg : (constO x || constO y) = true := hg
        cases x <;> cases y <;> first | (cases hg; done) | (cases op <;> simp [eqGuard])
      | _ => cases op <;> simp [eqGuard]
    | agg hl =>
      cases hB with
      | agg hl' =>
        have hg : (!P.eqGuardType P.depth t) = true := hg
        have hg : P.eqGuardType P.depth t = false := by simpa using hg
        exact run_eqGuard_agg w op t x y _ _ hg
      | _ => cases op <;> simp [eqGuard]
    | _ => cases hB <;> cases op <;> simp [eqGuard]
  have fin : ∀ u, (execOp a.eval o).run P w = .ok (.value u) w ∧ VR m v u → Did P m h w o a ⟨v, h, nx⟩ := fun u hu => did_val hW hu.1 hu.2
  cases v1 with
  | int k z =>
    have e1' := e1.int_inv
    subst e1'
    cases v2 with
    | int k' z' =>
      have e2' := e2.int_inv
      subst e2'
      obtain ⟨u, hu, hvu⟩ := binInts_ok (P := P) hv m t w
      refine fin u ⟨?_, hvu⟩
      have hg : (eqGuard op t x y (.int k z) (.int k' z')).run P w = .ok () w := by cases op <;> simp [eqGuard]
      simp [execOp, ho, hX, hY, hg, hu]
    | _ => cases hv
  | str s =>
    have e1' := e1.str_inv
    subst e1'
    cases v2 with
    | str s' =>
      have e2' := e2.str_inv
      subst e2'
      obtain ⟨u, hu, hvu⟩ := binS_ok (P := P) hv m t w
      refine fin u ⟨?_, hvu⟩
      have hg : (eqGuard op t x y (.string ⟨s.toArray⟩) (.string ⟨s'.toArray⟩)).run P w = .ok () w := by cases op <;> simp [eqGuard]
      simp [execOp, ho, hX, hY, hg, hu]
    | _ => cases hv
  | rep _ _ => cases hv
  | _ =>
    obtain ⟨u, hu⟩ := heq _ v2 hv e1 e2 (hguard hv e1 e2) (by rintro _ _ ⟨rfl, _⟩; cases e1) (by rintro _ _ ⟨rfl, _⟩; cases e1)
    exact fin u hu
theorem d_un (hW : WR P m h nx w) (hF : FR m fr a.tmps sz) {op : UnOp} {t : TypeId} {x : Operand} (ho : o.op = .unOp op t x) (hr : oUn op t x P fr h nx = some r) : Did P m h w o a r := by
  obtain ⟨v, hv, rfl⟩ := pv_some hr
  obtain ⟨v1, h1, hv⟩ := bind_some hv
  have e1 := evA_ok hW hF h1
  cases op with
  | neg => cases v1 <;> first | (cases hv; done) | skip
           cases hv
           rename_i k z
           exact did_val hW (u := .int k (k.wrap (0 - z))) (by simp [execOp, ho, e1.int_inv, Op.unary, Op.intArith]) (by unfold negI; rw [wrapZ_eq]; exact .int k _)
  | xor => cases v1 <;> first | (cases hv; done) | skip
           cases hv
           rename_i k z
           exact did_val hW (by simp [execOp, ho, e1.int_inv, Op.unary, Op.intBits]) (.int k _)
  | not => cases v1 <;> first | (cases hv; done) | skip
           cases hv
           rename_i b
           exact did_val hW (u := .bool (!b)) (by simp [execOp, ho, e1.bool_inv, Op.unary]) (.bool _)
  | plus => cases hv
theorem d_ifc (hW : WR P m h nx w) (hF : FR m fr a.tmps sz) {t : TypeId} {x : Operand} (ho : o.op = .makeInterface t x) (hr : oIfc t x P fr h nx = some r) : Did P m h w o a r := by
  obtain ⟨hc, hr⟩ := cond_some hr
  obtain ⟨v, hv, rfl⟩ := map_some hr
  have h1 := getD_true hc
  obtain ⟨u, hu, hn⟩ := map_some h1
  refine did_val hW (u := .iface t (a.eval x)) ?_ (.iface t (evA_ok hW hF hv))
  cases u <;> first | (cases hn; done) | simp [execOp, ho, Instr.makeInterface, run_underlying hu]
theorem d_func (hW : WR P m h nx w) (hF : FR m fr a.tmps sz) {f : Fn} {x y : Array Operand} (ho : o.op = .makeFunc f x y) (hr : oFunc f x y P fr h nx = some r) : Did P m h w o a r := by
  obtain ⟨l, hl, hr⟩ := bind_some hr
  obtain ⟨l', hl', rfl⟩ := map_some hr
  refine did_val hW (u := .func f (x.map a.eval) (y.map a.eval)) (by simp [execOp, ho, Instr.makeFunc]) (.fn f ?_ ?_)
  · simpa using evL_ok hW hF hl
  · simpa using evL_ok hW hF hl'
theorem d_load (hW : WR P m h nx w) (hF : FR m fr a.tmps sz) {t : TypeId} {x : Operand} (ho : o.op = .load t x) (hr : oLoad t x P fr h nx = some r) : Did P m h w o a r := by
  obtain ⟨p, hp, hr⟩ := bind_some hr
  obtain ⟨v, hv, rfl⟩ := pv_some hr
  obtain ⟨v1, h1, hp⟩ := bind_some hp
  have e1 := evA_ok hW hF h1
  rw [asP_some hp] at e1
  obtain ⟨z, hz, e1⟩ := e1.ptr_inv
  obtain ⟨z', u, hz', hrun, hvu⟩ := loadV_ok hW hv
  rw [hz] at hz'; cases hz'
  exact did_val hW (u := u) (by simp [execOp, ho, Instr.loadAt, e1, Instr.sureAddr, hrun]) hvu
theorem d_store (hW : WR P m h nx w) (hF : FR m fr a.tmps sz) {t : TypeId} {x y : Operand} (ho : o.op = .store t x y) (hr : oStore t x y P fr h nx = some r) : Did P m h w o a r := by
  obtain ⟨p, hp, hr⟩ := bind_some hr
  obtain ⟨v, hv, hr⟩ := bind_some hr
  obtain ⟨h', hs, rfl⟩ := map_some hr
  obtain ⟨v1, h1, hp⟩ := bind_some hp
  have e1 := evA_ok hW hF h1
  rw [asP_some hp] at e1
  obtain ⟨z, hz, e1⟩ := e1.ptr_inv
  obtain ⟨z', w', hz', hrun, hW', hE⟩ := storeV_ok hW hs (evA_ok hW hF hv)
  rw [hz] at hz'; cases hz'
  refine ⟨undef, w', m, .inr ⟨?_, rfl⟩, hW', un_undef m, hE⟩
  simp [execOp, ho, Instr.storeAt, e1, Instr.sureAddr, hrun]
theorem d_nil (hW : WR P m h nx w) (hF : FR m fr a.tmps sz) {x : Operand} (ho : o.op = .nilCheck x) (hr : oNil x P fr h nx = some r) : Did P m h w o a r := by
  obtain ⟨v, hv, hr⟩ := bind_some hr
  obtain ⟨ht, hr⟩ := cond_some hr
  cases hr
  have e1 := evA_ok hW hF hv
  obtain ⟨X, hX⟩ : ∃ X, a.eval x = X := ⟨_, rfl⟩
  rw [hX] at e1
  refine did_val hW (u := X) ?_ e1
  cases e1 with
  | fn f ha hc => cases f with
    | func i => simp [execOp, ho, hX]
    | _ => cases ht
  | ptr _ _ => simp [execOp, ho, hX]
  | slice _ _ _ _ _ => simp [execOp, ho, hX]
  | sliceZ _ _ _ => simp [execOp, ho, hX]
  | nils => simp [execOp, ho, hX]
  | iface _ _ => simp [execOp, ho, hX]
  | _ => cases ht
theorem fieldT_some {t : TypeId} {i : Nat} {f : Field} (hf : fieldT P t i = some f) : ∃ fs, P.underlying t = some (.struct fs) ∧ fs[i]? = some f := by
  obtain ⟨fs, h1, h2⟩ := bind_some hf
  obtain ⟨u, hu, h1⟩ := bind_some h1
  cases u <;> first | (cases h1; done) | skip
  cases h1
  exact ⟨_, hu, by rw [← Array.getElem?_toList]; exact h2⟩
theorem d_fieldAddr (hW : WR P m h nx w) (hF : FR m fr a.tmps sz) {t : TypeId} {x : Operand} {i : Nat} (ho : o.op = .fieldAddr t x i) (hr : oFieldAddr t x i P fr h nx = some r) : Did P m h w o a r := by
  obtain ⟨p, hp, hr⟩ := bind_some hr
  obtain ⟨v, hv, rfl⟩ := pv_some hr
  obtain ⟨f, hf, hv⟩ := bind_some hv
  obtain ⟨n, hn, hv⟩ := bind_some hv
  obtain ⟨hn0, hv⟩ := cond_some hv
  cases hv
  rw [blt_eq] at hn0
  have hn0 : 0 < n := of_decide_eq_true hn0
  obtain ⟨fs, hu, hf⟩ := fieldT_some hf
  obtain ⟨v1, h1, hp⟩ := bind_some hp
  have e1 := evA_ok hW hF h1
  rw [asP_some hp] at e1
  obtain ⟨z, hz, e1⟩ := e1.ptr_inv
  refine did_val hW (u := .pointer (some ⟨z.blk, z.sh + (p.o + f.offset), none⟩)) ?_ (.ptr _ hz)
  simp [execOp, ho, Instr.fieldAt, run_underlying hu, hf, e1, Instr.sureAddr, fieldPlace, run_sizeOf hn, show n ≠ 0 by omega, addr_add, Nat.add_assoc]
theorem d_field (hW : WR P m h nx w) (hF : FR m fr a.tmps sz) {t : TypeId} {x : Operand} {i : Nat} (ho : o.op = .field t x i) (hr : oField t x i P fr h nx = some r) : Did P m h w o a r := by
  obtain ⟨cs, hp, hr⟩ := bind_some hr
  obtain ⟨v, hv, rfl⟩ := pv_some hr
  obtain ⟨f, hf, hv⟩ := bind_some hv
  obtain ⟨fs, hu, hf⟩ := fieldT_some hf
  obtain ⟨v1, h1, hp⟩ := bind_some hp
  have e1 := evA_ok hW hF h1
  rw [asAgg_some hp] at e1
  obtain ⟨us, e1, hl⟩ := e1.agg_inv
  obtain ⟨u, hrun, hvu⟩ := partA_ok hv hl w
  exact did_val hW (u := u) (by simp [execOp, ho, Instr.field, run_underlying hu, hf, e1, Go.asAgg, hrun]) hvu
theorem d_extract (hW : WR P m h nx w) (hF : FR m fr a.tmps sz) {x : Operand} {i : Nat} (ho : o.op = .extract x i) (hr : oExtract x i P fr h nx = some r) : Did P m h w o a r := by
  obtain ⟨v, hv, rfl⟩ := pv_some hr
  obtain ⟨l, hl, hv⟩ := bind_some hv
  obtain ⟨v1, h1, hl⟩ := bind_some hl
  have e1 := evA_ok hW hF h1
  rw [asTup_some hl] at e1
  obtain ⟨us, e1, hl⟩ := e1.tup_inv
  obtain ⟨u, hu, hvu⟩ := hl.get i v hv
  have hu' : us[i]? = some u := by rw [← Array.getElem?_toList]; exact hu
  exact did_val hW (u := u) (by simp [execOp, ho, Instr.extract, e1, hu']) hvu
theorem arrD_some {u : TypeDesc} {x : Arr} (hx : arrD u = some x) : u = .array x.n x.e := by cases u <;> first | (cases hx; rfl) | cases hx
theorem d_index (hW : WR P m h nx w) (hF : FR m fr a.tmps sz) {t : TypeId} {x y : Operand} (ho : o.op = .index t x y) (hr : oIndex t x y P fr h nx = some r) : Did P m h w o a r := by
  obtain ⟨v1, h1, hr⟩ := bind_some hr
  obtain ⟨v2, h2, hr⟩ := bind_some hr
  obtain ⟨v, hv, rfl⟩ := pv_some hr
  obtain ⟨u, hu, hv⟩ := bind_some hv
  obtain ⟨j, hj, hv⟩ := bind_some hv
  obtain ⟨k, hk⟩ := asN_some hj
  have e1 := evA_ok hW hF h1
  have e2 := evA_ok hW hF h2
  rw [hk] at e2
  have e2 := e2.int_inv
  cases u with
  | string =>
    obtain ⟨s, hs, hv⟩ := bind_some (show ((asS v1).bind fun s => (s[j]?).map byteA) = some v from hv)
    obtain ⟨b, hb, rfl⟩ := map_some hv
    rw [asS_some hs] at e1
    have e1 := e1.str_inv
    have hsz : j < s.length := (List.getElem?_eq_some_iff.1 hb).1
    have hb2 : (⟨s.toArray⟩ : ByteArray)[j]? = some b := by
      have : (⟨s.toArray⟩ : ByteArray)[j]? = s.toArray[j]? := rfl
      rw [this]; simpa using hb
    refine did_val hW (u := .int .u8 b.toNat) ?_ (.int .u8 _)
    simp [execOp, ho, Instr.index, e1, e2, asIntOf, run_underlying hu, hb2]
  | array n e =>
    obtain ⟨hjn, hv⟩ := cond_some (show (bif Nat.blt j n then (asAgg v1).bind fun cs => (sizeT P e).bind fun z => partA P e cs (j * z) else none) = some v from hv)
    obtain ⟨cs, hcs, hv⟩ := bind_some hv
    obtain ⟨z, hz, hv⟩ := bind_some hv
    rw [blt_eq] at hjn
    have hjn : j < n := of_decide_eq_true hjn
    rw [asAgg_some hcs] at e1
    obtain ⟨us, e1, hl⟩ := e1.agg_inv
    obtain ⟨u, hrun, hvu⟩ := partA_ok hv hl w
    have hi : (0 : Int) ≤ (j : Int) ∧ (j : Int) < (n : Int) := by omega
    refine did_val hW (u := u) ?_ hvu
    simp [execOp, ho, Instr.index, e1, e2, asIntOf, run_underlying hu, hjn, run_sizeOf hz, hrun]
  | _ => cases hv
theorem d_indexAddr (hW : WR P m h nx w) (hF : FR m fr a.tmps sz) {t : TypeId} {x y : Operand} (ho : o.op = .indexAddr t x y) (hr : oIndexAddr t x y P fr h nx = some r) : Did P m h w o a r := by
  obtain ⟨v1, h1, hr⟩ := bind_some hr
  obtain ⟨v2, h2, hr⟩ := bind_some hr
  obtain ⟨v, hv, rfl⟩ := pv_some hr
  obtain ⟨u, hu, hv⟩ := bind_some hv
  obtain ⟨j, hj, hv⟩ := bind_some hv
  obtain ⟨k, hk⟩ := asN_some hj
  have e1 := evA_ok hW hF h1
  have e2 := evA_ok hW hF h2
  rw [hk] at e2
  have e2 := e2.int_inv
  cases u with
  | slice e =>
    obtain ⟨s, hs, hv⟩ := bind_some (show ((asSl v1).bind fun s => (sizeT P e).bind (ixAt s.b s.o j s.n)) = some v from hv)
    obtain ⟨z, hz, hv⟩ := bind_some hv
    obtain ⟨hjn, hv⟩ := cond_some hv
    cases hv
    rw [blt_eq] at hjn
    have hjn : j < s.n := of_decide_eq_true hjn
    obtain ⟨b, oo, n, c, ex, rfl, rfl⟩ := asSl_some hs
    obtain ⟨X, hX⟩ : ∃ X, a.eval x = X := ⟨_, rfl⟩
    rw [hX] at e1
    cases e1 with
    | @slice _ zz _ _ _ _ hm =>
      refine did_val hW (u := .pointer (some ⟨zz.blk, zz.sh + (oo + j * z), none⟩)) ?_ (.ptr _ hm)
      simp [execOp, ho, Instr.indexAt, hX, e2, asIntOf, run_underlying hu, run_sizeOf hz, addr_add, Nat.add_assoc]
      intro hh; exfalso; exact absurd hjn (by simpa using hh)
    | sliceZ _ _ _ => exact absurd hjn (by simp)
  | array n e =>
    obtain ⟨p, hp, hv⟩ := bind_some (show ((asP v1).bind fun p => (sizeT P e).bind (ixAt p.b p.o j n)) = some v from hv)
    obtain ⟨z, hz, hv⟩ := bind_some hv
    obtain ⟨hjn, hv⟩ := cond_some hv
    cases hv
    rw [blt_eq] at hjn
    have hjn : j < n := of_decide_eq_true hjn
    rw [asP_some hp] at e1
    obtain ⟨zz, hm, e1⟩ := e1.ptr_inv
    refine did_val hW (u := .pointer (some ⟨zz.blk, zz.sh + (p.o + j * z), none⟩)) ?_ (.ptr _ hm)
    simp [execOp, ho, Instr.indexAt, e1, e2, asIntOf, Instr.sureAddr, run_underlying hu, run_sizeOf hz, addr_add, Nat.add_assoc, hjn]
  | _ => cases hv
end
end Ex
end Go.Proofs.YtdngjkjoahgelaaGreatDoor

namespace Go.Proofs.YtdngjkjoahgelaaGreatDoor
set_option linter.all false
namespace Ex
open Go.RowKit
section
variable {P : Program} {m : Mz} {h : Hp} {nx : Nat} {w : World} {fr : Fm} {a : Act} {sz : Nat} {o : Oper} {r : Rs}
theorem newBk_ok (hW : WR P m h nx w) {l : List AV} {us : List Value} (hv : VRL m l us) {n : Nat} (hn : l.length = n) (cs : Array Value) (hpre : ∀ (i : Nat) (u : Value), us[i]? = some u → cs[i]? = some u) (e : TypeId) (fx : Bool) (ext : Nat)
    (hs : n + ext * P.cellsOf e ≤ cs.size) (hfx : fx = true → ext = 0 ∧ cs.size = n) (fz : Nat × Nat) (hfz : FzOk fz cs.size 0) (hf0 : fx = true → fz = (0, 0)) :
    WR P (upd m nx ⟨w.heap.size, 0, ext⟩) (newCells h nx l n e fx) (nx + 1) (w.alloc (.cells cs e fz)) ∧ Evo m h w (upd m nx ⟨w.heap.size, 0, ext⟩) (newCells h nx l n e fx) (w.alloc (.cells cs e fz)) := by
  have hle := upd_le (⟨w.heap.size, 0, ext⟩ : Cz) (hW.fresh nx (Nat.le_refl _))
  refine hW.alloc (.cells cs e fz) (.cells (newBk l n e fx)) ⟨w.heap.size, 0, ext⟩ rfl ⟨_, cs, fz, upd_at _ _ _, heap_alloc_new w _, ?_, ?_, ?_, ?_, ?_, ?_⟩
  · show 0 + n + ext * P.cellsOf e ≤ cs.size; omega
  · intro i hi
    have hi : i < n := hi
    obtain ⟨v, hv1⟩ : ∃ v, l[i]? = some v := ⟨_, List.getElem?_eq_getElem (by omega)⟩
    obtain ⟨u, hu, hvu⟩ := hv.get i v hv1
    refine ⟨u, by rw [Nat.zero_add]; exact hpre i u hu, ?_⟩
    show VR _ ((treeOf un l 0 .nil).get un i) u
    rw [treeOf_get, if_pos (Nat.zero_le _), Nat.sub_zero, hv1]
    exact hvu.mono hle
  · intro _; exact hfz
  · intro hc; exact (hfx hc).1
  · intro hc _; exact ⟨rfl, (hfx hc).2⟩
  · intro hc _ _; exact hf0 hc
theorem fz_none (size a : Nat) : FzOk (0, 0) size a := fun j _ _ h => by simp at h
theorem mkBox_ok (hW : WR P m h nx w) {v : AV} {u : Value} (hv : VR m v u) (t : TypeId) : ∃ m', WR P m' (mkBox t h nx v).h (mkBox t h nx v).nx (w.alloc (.cells u.cells t)) ∧ VR m' (mkBox t h nx v).v (.pointer (some ⟨w.heap.size, 0, none⟩)) ∧ Evo m h w m' (mkBox t h nx v).h (w.alloc (.cells u.cells t)) := by
  have hl := hv.cells.length
  have h1 := newBk_ok hW hv.cells rfl u.cells (fun i x hx => by rw [← Array.getElem?_toList]; exact hx) t true 0 (by rw [hl, Array.length_toList]; omega) (fun _ => ⟨rfl, by rw [hl, Array.length_toList]⟩) (0, 0) (fz_none _ _) (fun _ => rfl)
  exact ⟨_, h1.1, .ptr 0 (upd_at m nx _), h1.2⟩
theorem d_alloc (hW : WR P m h nx w) {t : TypeId} (ho : o.op = .alloc t) (hr : oAlloc t P fr h nx = some r) : Did P m h w o a r := by
  obtain ⟨v, hv, rfl⟩ := map_some hr
  obtain ⟨i, u, hi, hz, hov, hrun⟩ := run_zero hv
  obtain ⟨m', h1, h2, h3⟩ := mkBox_ok hW (ofV_ok m 10 u v hov) t
  refine ⟨_, _, m', .inl ?_, h1, h2, h3⟩
  simp [execOp, ho, Instr.alloc, hrun, newVar, newRow]
theorem d_box (hW : WR P m h nx w) (hF : FR m fr a.tmps sz) {t : TypeId} {x : Operand} (ho : o.op = .box t x) (hr : oBox t x P fr h nx = some r) : Did P m h w o a r := by
  obtain ⟨v, hv, rfl⟩ := map_some hr
  obtain ⟨m', h1, h2, h3⟩ := mkBox_ok hW (evA_ok hW hF hv) t
  refine ⟨_, _, m', .inl ?_, h1, h2, h3⟩
  simp [execOp, ho, Instr.box, newVar, newRow]
theorem foldl_set (off : Nat) : ∀ (vs : List Value) (j : Nat) (cs : Array Value) (i : Nat), off + j + vs.length ≤ cs.size →
    (((vs.zipIdx j).foldl (fun cs (c, j) => cs.setIfInBounds (off + j) c) cs)[i]? = if i < off + j then cs[i]? else if i < off + j + vs.length then vs[i - (off + j)]? else cs[i]?) ∧
    ((vs.zipIdx j).foldl (fun cs (c, j) => cs.setIfInBounds (off + j) c) cs).size = cs.size
  | [], j, cs, i, _ => by
    simp only [List.zipIdx_nil, List.foldl_nil, List.length_nil, Nat.add_zero, and_true]
    split <;> rfl
  | v :: vs, j, cs, i, hl => by
    rw [List.zipIdx_cons, List.foldl_cons]
    simp only [List.length_cons] at hl
    have ih := foldl_set off vs (j + 1) (cs.setIfInBounds (off + j) v) i (by simp; omega)
    refine ⟨?_, by rw [ih.2]; simp⟩
    rw [ih.1]
    simp only [Array.getElem?_setIfInBounds, List.length_cons]
    by_cases h1 : i < off + j
    · simp only [show i < off + (j + 1) by omega, h1, if_true, show ¬ off + j = i by omega, if_false]
    · by_cases h2 : i = off + j
      · subst h2
        simp only [show off + j < off + (j + 1) by omega, if_true, show ¬ off + j < off + j by omega, if_false, show off + j < off + j + (vs.length + 1) by omega, Nat.sub_self, List.getElem?_cons_zero, show off + j < cs.size by omega]
      · simp only [show ¬ i < off + (j + 1) by omega, h1, if_false, show ¬ off + j = i by omega, show off + (j + 1) + vs.length = off + j + (vs.length + 1) by omega]
        by_cases h3 : i < off + j + (vs.length + 1)
        · simp only [h3, if_true, show i - (off + j) = (i - (off + (j + 1))) + 1 by omega, List.getElem?_cons_succ]
        · simp only [h3, if_false]
theorem putCells_len (cs : List AV) (o : Nat) (l : List AV) (hl : o + l.length ≤ cs.length) : (putCells cs o l).length = cs.length := by
  unfold putCells; simp; omega
theorem fill_ok {place : Nat → Option Pl} {place' : Nat → Option (Nat × Nat)} (hpl : ∀ i p, place i = some p → place' i = some (p.o, p.n)) : ∀ (ps : List Pt) (qs : List (Nat × Value)) (cs : List AV) (us : Array Value) (out : List AV),
    ps.length = qs.length → (∀ (k : Nat) (p : Pt), ps[k]? = some p → ∃ q : Nat × Value, qs[k]? = some q ∧ q.1 = p.i ∧ VR m p.v q.2) → VRL m cs us.toList → fillA place ps cs = some out → ∃ out', Instr.fill place' us qs = some out' ∧ VRL m out out'.toList
  | [], [], cs, us, out, _, _, hv, hf => by cases hf; exact ⟨us, rfl, hv⟩
  | [], _ :: _, _, _, _, hl, _, _, _ => by simp at hl
  | _ :: _, [], _, _, _, hl, _, _, _ => by simp at hl
  | p :: ps, (qi, qv) :: qs, cs, us, out, hl, hq, hv, hf => by
    obtain ⟨cs1, h1, h2⟩ := bind_some (show ((place p.i).bind (fill1 cs p.v)).bind (fillA place ps) = some out from hf)
    obtain ⟨pl, hp, h1⟩ := bind_some h1
    obtain ⟨hc, h1⟩ := cond_some h1
    cases h1
    obtain ⟨hc1, hc2⟩ := Bool.and_eq_true_iff.1 hc
    have hc1 : p.v.cells.length = pl.n := Nat.eq_of_beq_eq_true hc1
    have hc2 : pl.o + pl.n ≤ cs.length := Nat.le_of_ble_eq_true hc2
    obtain ⟨q, hq0, hqi, hqv⟩ := hq 0 p rfl
    simp at hq0; subst hq0
    have hqi : qi = p.i := hqi
    have hqv : VR m p.v qv := hqv
    subst hqi
    have hcl : p.v.cells.length = qv.cells.toList.length := VRL.length hqv.cells
    have hul := hv.length
    have hsize : qv.cells.size = pl.n := by rw [← Array.length_toList, ← hcl, hc1]
    have hus : us.size = cs.length := by rw [← Array.length_toList, hul]
    have hfold := fun i => foldl_set pl.o qv.cells.toList 0 us i (by rw [Array.length_toList, hsize, hus]; omega)
    obtain ⟨us1, hus1⟩ : ∃ us1, (qv.cells.zipIdx.foldl (fun cs (c, j) => cs.setIfInBounds (pl.o + j) c) us) = us1 := ⟨_, rfl⟩
    have hfold' : (qv.cells.toList.zipIdx 0).foldl (fun cs (c, j) => cs.setIfInBounds (pl.o + j) c) us = us1 := by
      rw [← hus1, ← Array.foldl_toList, Array.toList_zipIdx]
    rw [hfold'] at hfold
    have hv1 : VRL m (putCells cs pl.o p.v.cells) us1.toList := by
      refine VRL.of_get ?_ fun i v hi => ?_
      · have e1 := (hfold 0).2
        have e2 := Array.length_toList (xs := us1)
        rw [putCells_len _ _ _ (by omega)]; omega
      · rw [Array.getElem?_toList, (hfold i).1]
        simp only [Nat.add_zero]
        unfold putCells at hi
        by_cases a1 : i < pl.o
        · rw [if_pos a1]
          rw [List.getElem?_append_left (by rw [List.length_take]; omega), List.getElem?_take, if_pos a1] at hi
          obtain ⟨u, hu, hvu⟩ := hv.get i v hi
          exact ⟨u, by rw [← Array.getElem?_toList]; exact hu, hvu⟩
        · rw [if_neg a1]
          rw [List.getElem?_append_right (by rw [List.length_take]; omega), List.length_take, Nat.min_eq_left (by omega)] at hi
          by_cases a2 : i < pl.o + qv.cells.toList.length
          · rw [if_pos a2]
            rw [List.getElem?_append_left (by omega)] at hi
            exact hqv.cells.get _ v hi
          · rw [if_neg a2]
            rw [List.getElem?_append_right (by omega), List.getElem?_drop, show pl.o + p.v.cells.length + (i - pl.o - p.v.cells.length) = i by omega] at hi
            obtain ⟨u, hu, hvu⟩ := hv.get i v hi
            exact ⟨u, by rw [← Array.getElem?_toList]; exact hu, hvu⟩
    obtain ⟨out', h3, h4⟩ := fill_ok hpl ps qs (putCells cs pl.o p.v.cells) us1 out (by simpa using hl) (fun k x hx => by simpa using hq (k + 1) x (by simpa using hx)) hv1 h2
    refine ⟨out', ?_, h4⟩
    have hp' := hpl _ _ hp
    simp only [Instr.fill, hp', hsize, hus]
    rw [if_neg (by simp; omega), hus1]
    exact h3
theorem evP_ok (hW : WR P m h nx w) (hF : FR m fr a.tmps sz) : ∀ {ps : List (Nat × Operand)} {l : List Pt}, evP fr ps = some l → l.length = ps.length ∧ ∀ (k : Nat) (p : Pt), l[k]? = some p → ∃ q : Nat × Value, (ps.map fun (i, x) => (i, a.eval x))[k]? = some q ∧ q.1 = p.i ∧ VR m p.v q.2
  | [], l, he => by cases he; exact ⟨rfl, fun k p hk => by simp at hk⟩
  | (i, x) :: ps, l, he => by
    obtain ⟨y, ys, h1, h2, rfl⟩ := consO_some (show consO (evPt fr (i, x)) (evP fr ps) = some l from he)
    obtain ⟨v, hv, rfl⟩ := map_some h1
    obtain ⟨ih1, ih2⟩ := evP_ok hW hF h2
    refine ⟨by simp [ih1], fun k p hk => ?_⟩
    cases k with
    | zero => simp at hk; subst hk; exact ⟨_, rfl, rfl, evA_ok hW hF hv⟩
    | succ k => simpa using ih2 k p (by simpa using hk)
theorem placesT_ok : ∀ {fs : List Field} {l : List Pl}, placesT P fs = some l → ∀ w : World, ∃ ps : List (Nat × Nat), (fs.mapM fun f => Prod.mk f.offset <$> sizeOf f.type : Sem (List (Nat × Nat))).run P w = .ok ps w ∧ ps = l.map fun p => (p.o, p.n)
  | [], l, hl, w => by cases hl; exact ⟨[], by simp, rfl⟩
  | f :: fs, l, hl, w => by
    obtain ⟨y, ys, h1, h2, rfl⟩ := consO_some (show consO ((sizeT P f.type).map fun n => (⟨f.offset, n⟩ : Pl)) (placesT P fs) = some l from hl)
    obtain ⟨n, hn, rfl⟩ := map_some h1
    obtain ⟨ps, h3, h4⟩ := placesT_ok h2 w
    refine ⟨(f.offset, n) :: ps, ?_, by rw [h4]; rfl⟩
    simp [List.mapM_cons, run_sizeOf hn, h3]
theorem buildA_ok (hW : WR P m h nx w) {t : TypeId} {ps : List Pt} {qs : Array (Nat × Value)} (hl : ps.length = qs.toList.length) (hq : ∀ (k : Nat) (p : Pt), ps[k]? = some p → ∃ q : Nat × Value, qs.toList[k]? = some q ∧ q.1 = p.i ∧ VR m p.v q.2) {v : AV} (hb : buildA P t ps = some v) :
    ∃ u, (Instr.build t qs).run P w = .ok u w ∧ VR m v u := by
  obtain ⟨z, hz, hb⟩ := bind_some hb
  obtain ⟨u, hu, hb⟩ := bind_some hb
  obtain ⟨i, zv, hi, hz0, hov, hrun⟩ := run_zero hz
  have hzr := (ofV_ok m 10 zv z hov).cells
  unfold buildU at hb
  cases hf : fieldsD u with
  | some fs =>
    rw [hf] at hb
    obtain ⟨l, hl1, hb⟩ := bind_some (show (placesT P fs).bind (buildS ps z) = some v from hb)
    obtain ⟨out, ho, rfl⟩ := map_some hb
    cases u <;> first | (cases hf; done) | skip
    rename_i fa
    cases hf
    obtain ⟨pl, hpl, hple⟩ := placesT_ok hl1 w
    obtain ⟨out', h3, h4⟩ := fill_ok (m := m) (place := nthPl l) (place' := fun i => pl[i]?) (fun i p hp => by
      have hp : l[i]? = some p := hp
      show pl[i]? = _
      rw [hple, List.getElem?_map, hp]; rfl) ps qs.toList z.cells zv.cells out hl hq hzr ho
    refine ⟨.agg out', ?_, .agg h4⟩
    have hm : (fa.mapM fun f => Prod.mk f.offset <$> sizeOf f.type : Sem (Array (Nat × Nat))).run P w = .ok pl.toArray w := by
      rw [Array.mapM_eq_mapM_toList]
      simp [hpl]
    simp [Instr.build, hrun, run_underlying hu, hm, h3]
  | none =>
    rw [hf] at hb
    cases ha : arrD u with
    | none => rw [ha] at hb; cases hb
    | some ar =>
      rw [ha] at hb
      obtain ⟨n, hn, hb⟩ := bind_some (show (sizeT P ar.e).bind (buildR ps z) = some v from hb)
      obtain ⟨out, ho, rfl⟩ := map_some hb
      have hu' := arrD_some ha
      subst hu'
      obtain ⟨out', h3, h4⟩ := fill_ok (m := m) (place := rowPl n) (place' := fun i => some (i * n, n)) (fun i p hp => by cases hp; rfl) ps qs.toList z.cells zv.cells out hl hq hzr ho
      refine ⟨.agg out', ?_, .agg h4⟩
      simp [Instr.build, hrun, run_underlying hu, run_sizeOf hn, h3]
theorem d_build (hW : WR P m h nx w) (hF : FR m fr a.tmps sz) {t : TypeId} {ps : Array (Nat × Operand)} (ho : o.op = .build t ps) (hr : oBuild t ps P fr h nx = some r) : Did P m h w o a r := by
  obtain ⟨v, hv, rfl⟩ := pv_some hr
  obtain ⟨l, hl, hv⟩ := bind_some hv
  obtain ⟨h1, h2⟩ := evP_ok hW hF hl
  obtain ⟨u, hu, hvu⟩ := buildA_ok hW (qs := ps.map fun (i, x) => (i, a.eval x)) (by simpa using h1) (fun k p hk => by simpa using h2 k p hk) hv
  exact did_val hW (u := u) (by simp [execOp, ho, hu]) hvu
end
end Ex
end Go.Proofs.YtdngjkjoahgelaaGreatDoor

namespace Go.Proofs.YtdngjkjoahgelaaGreatDoor
set_option linter.all false
namespace Ex
open Go.RowKit
section
variable {P : Program} {m : Mz} {h : Hp} {nx : Nat} {w : World} {fr : Fm} {a : Act} {sz : Nat} {o : Oper} {r : Rs}
theorem elemT_some {t e : TypeId} (he : elemT P t = some e) : P.underlying t = some (.slice e) := by
  obtain ⟨u, hu, he⟩ := bind_some he
  cases u <;> first | (cases he; exact hu) | cases he
theorem repL_get (z : List AV) : ∀ (n i : Nat), i < n * z.length → (repL z n)[i]? = z[i % z.length]?
  | 0, i, hi => by omega
  | n + 1, i, hi => by
    show (z ++ repL z n)[i]? = _
    by_cases h1 : i < z.length
    · rw [List.getElem?_append_left h1, Nat.mod_eq_of_lt h1]
    · rw [List.getElem?_append_right (by omega), repL_get z n (i - z.length) (by rw [Nat.add_mul, Nat.one_mul] at hi; omega)]
      congr 1
      rw [Nat.mod_eq_sub_mod (a := i) (by omega)]
theorem repL_len (z : List AV) : ∀ n : Nat, (repL z n).length = n * z.length
  | 0 => by simp [repL]
  | n + 1 => by show (z ++ repL z n).length = _; rw [List.length_append, repL_len z n, Nat.add_mul, Nat.one_mul, Nat.add_comm]
theorem rowZ_ok {el : TypeId} {n z : Nat} {l : List AV} (hz : rowZ P el n z = some l) (m : Mz) (w : World) :
    l.length = n * z ∧ ∃ zero : Array Value, ((if n * z = 0 then pure #[] else do pure (← zeroValue el).cells) : Sem (Array Value)).run P w = .ok zero w ∧ VRL m l ((Array.range (n * z)).map (zero[· % zero.size]!)).toList := by
  unfold rowZ at hz
  by_cases h0 : n * z = 0
  · have hb : Nat.beq (n * z) 0 = true := by rw [beq_eq]; exact decide_eq_true h0
    rw [hb] at hz; cases hz
    refine ⟨by simp [h0], #[], by simp [h0], ?_⟩
    simp [h0]; exact .nil
  · have hb : Nat.beq (n * z) 0 = false := by rw [beq_eq]; exact decide_eq_false h0
    rw [hb] at hz
    obtain ⟨v, hv, hz⟩ := bind_some (show (zeroT P el).bind (rowV n z) = some l from hz)
    obtain ⟨hl, hz⟩ := cond_some hz
    cases hz
    rw [lenL_eq] at hl
    have hl : v.cells.length = z := Nat.eq_of_beq_eq_true hl
    obtain ⟨i, u, hi, hz0, hov, hrun⟩ := run_zero hv
    have hr := (ofV_ok m 10 u v hov).cells
    have hlen := hr.length
    have hus : u.cells.size = z := by rw [← Array.length_toList, ← hlen, hl]
    refine ⟨by rw [repL_len, hl], u.cells, by simp [h0, hrun], ?_⟩
    have hzp : 0 < z := Nat.pos_of_ne_zero fun e => h0 (by rw [e]; simp)
    refine VRL.of_get (by simp [repL_len, hl]) fun (j : Nat) (x : AV) (hj : (repL v.cells n)[j]? = some x) => ?_
    have hjl : j < n * z := by
      have := (List.getElem?_eq_some_iff.1 hj).1
      rw [repL_len, hl] at this; exact this
    rw [repL_get _ _ _ (by rw [hl]; exact hjl), hl] at hj
    obtain ⟨y, hy, hxy⟩ := hr.get _ _ hj
    refine ⟨y, ?_, hxy⟩
    have hmod : j % z < u.cells.size := by rw [hus]; exact Nat.mod_lt _ hzp
    rw [Array.getElem?_toList] at hy
    simp only [Array.toList_map, Array.toList_range, List.getElem?_map, List.getElem?_range hjl, Option.map_some, hus, getElem!_pos u.cells (j % z) hmod]
    rw [Array.getElem?_eq_getElem hmod] at hy
    exact hy
theorem zero_if {β : Type} {n : Nat} {el : TypeId} {zero : Array Value} (hz : ((if n = 0 then pure #[] else do pure (← zeroValue el).cells) : Sem (Array Value)).run P w = .ok zero w) (f : Array Value → Sem β) :
    (if n = 0 then (pure #[] >>= f) else (zeroValue el >>= fun v => pure v.cells >>= f) : Sem β).run P w = (f zero).run P w := by
  by_cases h0 : n = 0
  · simp only [h0, if_true, Sem.run_pure] at hz
    have hzz : zero = #[] := by cases hz; rfl
    subst hzz
    simp [h0]
  · simp only [h0, if_false, Sem.run_bind, Sem.run_pure] at hz
    simp only [h0, if_false, Sem.run_bind, Sem.run_pure]
    cases hq : (zeroValue el).run P w with
    | ok v w1 =>
      rw [hq] at hz
      simp only [Result.andThen_ok] at hz
      cases hz
      simp
    | halt x w1 => rw [hq] at hz; cases hz
theorem run_buildSlice {t el : TypeId} {n z : Nat} {qs : Array (Nat × Value)} {zero out : Array Value} (ht : P.underlying t = some (.slice el)) (hz : sizeT P el = some z) (hle : n * z ≤ 65536)
    (hzr : ((if n * z = 0 then pure #[] else do pure (← zeroValue el).cells) : Sem (Array Value)).run P w = .ok zero w)
    (hf : Instr.fill (fun i => some (i * z, z)) ((Array.range (n * z)).map (zero[· % zero.size]!)) qs.toList = some out) :
    (Instr.buildSlice t n qs).run P w = .ok (.slice (some ⟨w.heap.size, 0, none⟩) n n) (w.alloc (.cells out el)) := by
  have hbig : ¬ (n * z > 2 ^ 24) := by omega
  unfold Instr.buildSlice
  rw [Sem.run_bind, run_under ht w, Result.andThen_ok]
  show Sem.run P (sizeOf el >>= _) w = _
  rw [Sem.run_bind, run_sizeOf hz, Result.andThen_ok]
  simp only [if_neg hbig]
  refine (zero_if hzr _).trans ?_
  simp only [hf]
  simp [newRow]
theorem d_buildSlice (hW : WR P m h nx w) (hF : FR m fr a.tmps sz) {t : TypeId} {n : Nat} {ps : Array (Nat × Operand)} (ho : o.op = .buildSlice t n ps) (hr : oBuildSlice t n ps P fr h nx = some r) : Did P m h w o a r := by
  obtain ⟨el, hel, hr⟩ := bind_some hr
  obtain ⟨l, hl, hr⟩ := bind_some hr
  obtain ⟨z, hz, hr⟩ := bind_some hr
  obtain ⟨hle, hr⟩ := cond_some hr
  obtain ⟨cs, hcs, rfl⟩ := map_some hr
  obtain ⟨zc, hzc, hcs⟩ := bind_some hcs
  have hle : n * z ≤ 65536 := Nat.le_of_ble_eq_true hle
  obtain ⟨hzl, zero, hzrun, hzr⟩ := rowZ_ok hzc m w
  obtain ⟨h1, h2⟩ := evP_ok hW hF hl
  obtain ⟨out, h3, h4⟩ := fill_ok (m := m) (place := rowPl z) (place' := fun i => some (i * z, z)) (fun i p hp => by cases hp; rfl) l (ps.map fun (i, x) => (i, a.eval x)).toList zc _ cs (by simpa using h1) (fun k p hk => by simpa using h2 k p hk) hzr hcs
  have hol : cs.length = n * z := by
    have : ∀ (qs : List Pt) (xs ys : List AV), fillA (rowPl z) qs xs = some ys → ys.length = xs.length := by
      intro qs
      induction qs with
      | nil => intro xs ys hh; cases hh; rfl
      | cons q qs ih =>
        intro xs ys hh
        obtain ⟨c1, hh1, hh2⟩ := bind_some (show ((rowPl z q.i).bind (fill1 xs q.v)).bind (fillA (rowPl z) qs) = some ys from hh)
        obtain ⟨pl, hp, hh1⟩ := bind_some hh1
        obtain ⟨hc, hh1⟩ := cond_some hh1
        cases hh1
        obtain ⟨g1, g2⟩ := Bool.and_eq_true_iff.1 hc
        have g1 : q.v.cells.length = pl.n := Nat.eq_of_beq_eq_true g1
        have g2 : pl.o + pl.n ≤ xs.length := Nat.le_of_ble_eq_true g2
        rw [ih _ _ hh2, putCells_len _ _ _ (by omega)]
    rw [this _ _ _ hcs, hzl]
  have hos : out.size = n * z := by rw [← Array.length_toList, ← h4.length, hol]
  have hnew := newBk_ok hW h4 hol out (fun i x hx => by rw [← Array.getElem?_toList]; exact hx) el true 0 (by omega) (fun _ => ⟨rfl, hos⟩) (0, 0) (fz_none _ _) (fun _ => rfl)
  refine ⟨_, _, _, .inl ?_, hnew.1, VR.slice (z := ⟨w.heap.size, 0, 0⟩) 0 n n true (upd_at m nx _), hnew.2⟩
  simp [execOp, ho, run_buildSlice (elemT_some hel) hz hle hzrun h3]
theorem wrap64_nat (n : Nat) (hn : n ≤ 1073741824) : IntKind.i64.wrap (n : Int) = n := wrap_small .i64 n (by show n < 9223372036854775808; omega)
theorem bytes_ok {el : TypeId} (hb : ((bytesT P el).map fun b => Nat.ble b 65536).getD false = true) : ∃ i, P.info? el = some i ∧ i.bytes ≤ 65536 := by
  obtain ⟨b, h1, h2⟩ := map_some (getD_true hb)
  obtain ⟨i, hi, rfl⟩ := map_some h1
  exact ⟨i, hi, Nat.le_of_ble_eq_true h2⟩
theorem run_makeSlice {t el : TypeId} (ht : P.underlying t = some (.slice el)) {i : TypeInfo} (hi : P.info? el = some i) (hb : i.bytes ≤ 65536) {kl kc : IntKind} {l c : Nat} (hlc : l ≤ c) (hc : c ≤ 1073741824)
    {zero : Array Value} (hz : ((if c * i.size = 0 then pure #[] else do pure (← zeroValue el).cells) : Sem (Array Value)).run P w = .ok zero w) :
    (Instr.makeSlice t (.int kl (.ofNat l)) (.int kc (.ofNat c))).run P w = .ok (.slice (some ⟨w.heap.size, 0, none⟩) l c) (w.alloc (.cells ((Array.range (c * i.size)).map (zero[· % zero.size]!)) el)) := by
  have e1 := wrap64_nat l (by omega)
  have e2 := wrap64_nat c hc
  have hbig : ¬ ((i.bytes : Int) * (c : Int) > 2 ^ 48) := by
    have : i.bytes * c ≤ 65536 * 1073741824 := Nat.mul_le_mul hb hc
    have h2 := Int.ofNat_le.2 this
    rw [Int.natCast_mul] at h2
    omega
  have hbig2 : ¬ ((281474976710656 : Int) < (i.bytes : Int) * (c : Int)) := by have := hbig; omega
  have hcn : ¬ ((c : Int) < 0) := by omega
  have hln : ¬ ((l : Int) < 0) := by omega
  have hlc' : ¬ ((c : Int) < (l : Int)) := by omega
  unfold Instr.makeSlice
  rw [Sem.run_bind, run_under ht w, Result.andThen_ok]
  show Sem.run P (asInt (.int kl (.ofNat l)) >>= _) w = _
  simp only [asInt, asIntOf, pure_bind, bind_assoc, Int.ofNat_eq_natCast, e1, e2]
  rw [Sem.run_bind, show (typeInfo el).run P w = .ok i w by simp [typeInfo, hi], Result.andThen_ok]
  have hc1 : ((decide ((c : Int) < 0) || decide ((i.bytes : Int) * (c : Int) > 2 ^ 48)) || decide ((l : Int) < 0) || decide ((l : Int) > (c : Int))) = false := by
    simp [hbig2, hcn, hln]; omega
  simp only [hc1]
  rw [if_neg (by simp)]
  have hroom : ¬ ((c : Int).toNat * i.bytes > roomBytes) := by
    have hnat : c * i.bytes ≤ 1073741824 * 65536 := Nat.mul_le_mul hc hb
    simp only [Int.toNat_natCast, roomBytes]; omega
  rw [Sem.run_bind]
  unfold askRoom
  rw [if_neg hroom, Sem.run_pure, Result.andThen_ok, Sem.run_bind, run_sizeOf (show sizeT P el = some i.size by simp [sizeT, hi, sizeI]), Result.andThen_ok]
  refine (zero_if (n := c * i.size) hz (fun zero => do
    let a ← newRow el ((Array.range (c * i.size)).map (zero[· % zero.size]!))
    pure (Value.slice (some a) l c))).trans ?_
  simp [newRow]
theorem d_make (hW : WR P m h nx w) (hF : FR m fr a.tmps sz) {t : TypeId} {x y : Operand} (ho : o.op = .makeSlice t x y) (hr : oMake t x y P fr h nx = some r) : Did P m h w o a r := by
  obtain ⟨el, hel, hr⟩ := bind_some hr
  obtain ⟨l, hl, hr⟩ := bind_some hr
  obtain ⟨c, hc, hr⟩ := bind_some hr
  obtain ⟨hok, hr⟩ := cond_some hr
  obtain ⟨z, hz, hr⟩ := bind_some hr
  obtain ⟨v1, h1, hl⟩ := bind_some hl
  obtain ⟨v2, h2, hc⟩ := bind_some hc
  obtain ⟨k1, rfl⟩ := asN_some hl
  obtain ⟨k2, rfl⟩ := asN_some hc
  have e1 := (evA_ok hW hF h1).int_inv
  have e2 := (evA_ok hW hF h2).int_inv
  unfold msOk at hok
  simp only [Bool.and_eq_true] at hok
  obtain ⟨⟨g1, g2⟩, g3⟩ := hok
  have g1 : l ≤ c := Nat.le_of_ble_eq_true g1
  have g2 : c ≤ 1073741824 := Nat.le_of_ble_eq_true g2
  obtain ⟨i, hi, hb⟩ := bytes_ok g3
  obtain ⟨i', hi', hzs⟩ := sizeT_some hz
  rw [hi] at hi'; cases hi'
  unfold msGo at hr
  by_cases hz1 : z = 1
  · subst hz1
    rw [show Nat.beq 1 1 = true from rfl] at hr
    obtain ⟨zv, hzv, hr⟩ := bind_some (show (zeroT P el).bind (mkSl1 el l c h nx) = some r from hr)
    obtain ⟨hone, hr⟩ := cond_some hr
    cases hr
    obtain ⟨i2, u, hi2, hu0, hov, hrun⟩ := run_zero hzv
    have hvu := ofV_ok m 10 u zv hov
    have huc : u.cells = #[u] := by
      cases hvu <;> first | rfl | (cases hone; done)
    have hzr : ((if c * i.size = 0 then pure #[] else do pure (← zeroValue el).cells) : Sem (Array Value)).run P w = .ok (if c = 0 then #[] else #[u]) w := by
      rw [hzs, Nat.mul_one]
      by_cases hc0 : c = 0
      · simp [hc0]
      · simp [hc0, hrun, huc]
    have hms := run_makeSlice (w := w) (elemT_some hel) hi hb (kl := k1) (kc := k2) g1 g2 hzr
    rw [hzs, Nat.mul_one] at hms
    simp only [Int.ofNat_eq_natCast] at hms
    obtain ⟨cs, hcs⟩ : ∃ cs, (Array.range c).map (fun j => (if c = 0 then #[] else #[u])[j % (if c = 0 then #[] else #[u]).size]!) = cs := ⟨_, rfl⟩
    rw [hcs] at hms
    have hsize : cs.size = c := by rw [← hcs]; simp
    have hget : ∀ j, j < c → cs[j]? = some u := fun j hj => by
      have hc0 : ¬ c = 0 := by omega
      rw [← hcs]
      simp [hc0, Array.getElem?_map, Array.getElem?_range, hj, Nat.mod_one]
    have hle := upd_le (⟨w.heap.size, 0, 0⟩ : Cz) (hW.fresh nx (Nat.le_refl _))
    have hal := hW.alloc (.cells cs el) (.cells ⟨.nil, zv, c, el, false, true, false, [], 0, 0⟩) ⟨w.heap.size, 0, 0⟩ rfl ⟨_, cs, (0, 0), upd_at _ _ _, heap_alloc_new w _, by show 0 + c + 0 * _ ≤ cs.size; omega,
      fun j hj => ⟨u, by rw [Nat.zero_add]; exact hget j hj, hvu.mono hle⟩, fun _ => fz_none _ _, fun _ => rfl, fun _ _ => ⟨rfl, hsize⟩, fun _ _ _ => rfl⟩
    refine ⟨_, _, _, .inl ?_, hal.1, VR.slice (z := ⟨w.heap.size, 0, 0⟩) 0 l c true (upd_at m nx _), hal.2⟩
    simp [execOp, ho, e1, e2, hms]
  · rw [show Nat.beq z 1 = false by rw [beq_eq]; exact decide_eq_false hz1] at hr
    obtain ⟨hcz, hr⟩ := cond_some (show (bif Nat.ble c 65536 then (rowZ P el c z).map (mkSlN el l c z h nx) else none) = some r from hr)
    obtain ⟨cs, hcs, rfl⟩ := map_some hr
    obtain ⟨hzl, zero, hzrun, hzr⟩ := rowZ_ok hcs m w
    subst hzs
    have hms := run_makeSlice (w := w) (elemT_some hel) hi hb (kl := k1) (kc := k2) g1 g2 hzrun
    obtain ⟨out, hout⟩ : ∃ out, (Array.range (c * i.size)).map (zero[· % zero.size]!) = out := ⟨_, rfl⟩
    simp only [Int.ofNat_eq_natCast] at hms
    rw [hout] at hms hzr
    have hos : out.size = c * i.size := by rw [← hout]; simp
    have hnew := newBk_ok hW hzr hzl out (fun j x hx => by rw [← Array.getElem?_toList]; exact hx) el true 0 (by omega) (fun _ => ⟨rfl, hos⟩) (0, 0) (fz_none _ _) (fun _ => rfl)
    refine ⟨_, _, _, .inl ?_, hnew.1, VR.slice (z := ⟨w.heap.size, 0, 0⟩) 0 l c true (upd_at m nx _), hnew.2⟩
    simp [execOp, ho, e1, e2, hms]
theorem VR.slice_inv {b oo n c : Nat} {ex : Bool} {u : Value} (hv : VR m (.slice b oo n c ex) u) :
    ∃ z, m b = some z ∧ (u = .slice (some ⟨z.blk, z.sh + oo, none⟩) n (if ex = true then c else c + z.ext) ∨ (n = 0 ∧ c = 0 ∧ ex = false ∧ ∃ A, u = .slice (some A) 0 0)) := by
  cases hv with
  | slice _ _ _ _ hz => exact ⟨_, hz, .inl rfl⟩
  | sliceZ _ A hz => exact ⟨_, hz, .inr ⟨rfl, rfl, rfl, A, rfl⟩⟩
theorem run_bound {v : AV} {n : Nat} (hn : asN v = some n) {X : Value} (hX : VR m v X) {y : Nat} (hy : n ≤ y) (code : BoundsCode) (w : World) : (Instr.sliceBound X y code).run P w = .ok n w := by
  obtain ⟨k, rfl⟩ := asN_some hn
  rw [hX.int_inv]
  have h1 : (n : Int) ≤ (y : Int) := by omega
  simp [Instr.sliceBound, asIntOf, hy]
def OV (m : Mz) : Option AV → Option Value → Prop
  | none, none => True
  | some v, some u => VR m v u
  | _, _ => False
theorem bounds_ok {lo hi mx : Option AV} {n c : Nat} {d : Bd} (hb : bounds lo hi mx n c = some d) {lo' hi' mx' : Option Value} (h1 : OV m lo lo') (h2 : OV m hi hi') (h3 : OV m mx mx') {C : Nat} (hC : c ≤ C) (isS : Bool) (w : World) :
    d.l ≤ d.h ∧ d.h ≤ d.m ∧ d.m ≤ c ∧ (isSomeA mx = false → d.m = c) ∧ (Instr.sliceBounds isS n C lo' hi' mx').run P w = .ok (d.l, d.h, if isSomeA mx = true then d.m else C) w := by
  -- low
  have low : ∀ (hh M : Nat), bdH lo M hh = some d → d.l ≤ d.h ∧ d.h = hh ∧ d.m = M ∧ hh ≤ M ∧ ∀ code, ((match lo' with | some v => Instr.sliceBound v hh code | none => pure 0) : Sem Nat).run P w = .ok d.l w := by
    intro hh M hd
    obtain ⟨g1, hd⟩ := cond_some hd
    have g1 : hh ≤ M := Nat.le_of_ble_eq_true g1
    cases lo with
    | none =>
      cases lo' with
      | some u => exact h1.elim
      | none => cases hd; exact ⟨Nat.zero_le _, rfl, rfl, g1, fun _ => rfl⟩
    | some v =>
      cases lo' with
      | none => exact h1.elim
      | some u =>
        obtain ⟨l, hl, hd⟩ := bind_some (show (asN v).bind (bdL hh M) = some d from hd)
        obtain ⟨g2, hd⟩ := cond_some hd
        cases hd
        have g2 : l ≤ hh := Nat.le_of_ble_eq_true g2
        exact ⟨g2, rfl, rfl, g1, fun code => run_bound hl h1 g2 code w⟩
  cases mx with
  | none =>
    cases mx' with
    | some u => exact h3.elim
    | none =>
      obtain ⟨_, hb⟩ := cond_some (show bdM lo hi (some n) c c = some d from hb)
      cases hi with
      | none =>
        cases hi' with
        | some u => exact h2.elim
        | none =>
          obtain ⟨l1, l2, l3, l4, l5⟩ := low n c hb
          refine ⟨l1, by omega, by omega, fun _ => l3, ?_⟩
          cases lo' with
          | none => have := l5 .sliceB; simp only [Sem.run_pure] at this; simp [Instr.sliceBounds, isSomeA, ← l2]; injection this
          | some u => have := l5 .sliceB; simp [Instr.sliceBounds, isSomeA, this, l2]
      | some v =>
        cases hi' with
        | none => exact h2.elim
        | some u =>
          obtain ⟨hh, hhv, hb⟩ := bind_some (show (asN v).bind (bdH lo c) = some d from hb)
          obtain ⟨l1, l2, l3, l4, l5⟩ := low hh c hb
          refine ⟨l1, by omega, by omega, fun _ => l3, ?_⟩
          have g := fun code => run_bound (P := P) hhv h2 (y := C) (by omega) code w
          cases lo' with
          | none => have := l5 .sliceB; simp only [Sem.run_pure] at this; simp [Instr.sliceBounds, isSomeA, g, ← l2]; injection this
          | some u => have := l5 .sliceB; simp [Instr.sliceBounds, isSomeA, this, g, l2]
  | some x =>
    cases mx' with
    | none => exact h3.elim
    | some u =>
      obtain ⟨M, hM, hb⟩ := bind_some (show (asN x).bind (bdM lo hi none c) = some d from hb)
      obtain ⟨g1, hb⟩ := cond_some hb
      have g1 : M ≤ c := Nat.le_of_ble_eq_true g1
      have gM := fun code => run_bound (P := P) hM h3 (y := C) (by omega) code w
      cases hi with
      | none => cases hb
      | some v =>
        cases hi' with
        | none => exact h2.elim
        | some u' =>
          obtain ⟨hh, hhv, hb⟩ := bind_some (show (asN v).bind (bdH lo M) = some d from hb)
          obtain ⟨l1, l2, l3, l4, l5⟩ := low hh M hb
          refine ⟨l1, by omega, by omega, (fun hc => by cases hc), ?_⟩
          have g := fun code => run_bound (P := P) hhv h2 (y := M) (by omega) code w
          cases lo' with
          | none => have := l5 .slice3C; simp only [Sem.run_pure] at this; simp [Instr.sliceBounds, isSomeA, gM, g, ← l2, l3]; injection this
          | some u => have := l5 .slice3C; simp [Instr.sliceBounds, isSomeA, gM, this, g, l2, l3]
end
end Ex
end Go.Proofs.YtdngjkjoahgelaaGreatDoor
