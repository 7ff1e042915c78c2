/-
  The executor: parts of aggregates, equality.
-/
import Derived.Test.YtajoljoegbeiiaaGreatDoorEx7
namespace Go.Proofs.YtajoljoegbeiiaaGreatDoor
set_option linter.all false
namespace Ex
open Go.RowKit
section
variable {P : Program} {m : Mz} {h : Hp} {nx : Nat} {w : World}
theorem partA_ok {t : TypeId} {cs : List AV} {o : Nat} {v : AV} (hp : partA P t cs o = some v) {us : Array Value} (hv : VRL m cs us.toList) (w : World) : ∃ u, (part t us o).run P w = .ok u w ∧ VR m v u := by
  obtain ⟨g, hg, hp⟩ := bind_some hp
  cases g with
  | true =>
    have hp1 : ((sizeT P t).map fun n => AV.agg ((cs.drop o).take n)) = some v := hp
    obtain ⟨n, hn, rfl⟩ := map_some hp1
    refine ⟨.agg (us.extract o (o + n)), by simp [part, run_isAgg hg, run_sizeOf hn], .agg ?_⟩
    have e : (us.extract o (o + n)).toList = (us.toList.drop o).take n := by
      rw [Array.toList_extract]
      simp [List.extract]
    rw [e]
    exact (hv.drop o).take n
  | false =>
    have hp1 : cs[o]? = some v := hp
    obtain ⟨u, hu, hvu⟩ := hv.get o v hp1
    have hu' : us[o]? = some u := by rw [← Array.getElem?_toList]; exact hu
    exact ⟨u, by simp [part, run_isAgg hg, hu'], hvu⟩
theorem getD_true {x : Option Bool} (hx : x.getD false = true) : x = some true := by
  cases x with
  | none => cases hx
  | some b => cases b with
    | false => cases hx
    | true => rfl
theorem wholeAt_some {o : Nat} {b : Nat} (hx : ((getBk h b).map (wholeAt o)).getD false = true) : ∃ k, getBk h b = some k ∧ k.ro = false ∧ k.st = false ∧ k.fx = true ∧ k.fz = 0 ∧ o < k.n := by
  have h1 := getD_true hx
  obtain ⟨k, hk, h2⟩ := map_some h1
  unfold wholeAt at h2
  simp only [Bool.and_eq_true, Bool.not_eq_true'] at h2
  obtain ⟨⟨⟨⟨h3, h4⟩, h5⟩, h6⟩, h7⟩ := h2
  rw [beq_eq] at h6; rw [blt_eq] at h7
  exact ⟨k, hk, h3, h4, h5, by simpa using h6, by simpa using h7⟩
theorem samePt_ok (hW : WR P m h nx w) {a o b u : Nat} {r : Bool} (hs : samePt h ⟨a, o⟩ ⟨b, u⟩ = some r) {za zb : Cz} (ha : m a = some za) (hb : m b = some zb) :
    (sameAddr ⟨za.blk, za.sh + o, none⟩ ⟨zb.blk, zb.sh + u, none⟩).run P w = .ok r w := by
  unfold samePt at hs
  by_cases hab : a = b
  · subst hab
    rw [ha] at hb; cases hb
    rw [show Nat.beq a a = true from Nat.beq_refl a] at hs
    have hs1 : some (Nat.beq o u) = some r := hs
    rw [beq_eq] at hs1
    cases hs1
    by_cases hou : o = u
    · subst hou; simp [sameAddr]
    · simp [sameAddr, hou]
  · have hn : Nat.beq a b = false := by rw [beq_eq]; exact decide_eq_false hab
    have hs1 : (bif ((getBk h a).map (wholeAt o)).getD false && ((getBk h b).map (wholeAt u)).getD false then some false else none) = some r := by
      have := hs
      simp only [hn, cond_false] at this
      exact this
    obtain ⟨hc, hr⟩ := cond_some hs1
    cases hr
    obtain ⟨hca, hcb⟩ := Bool.and_eq_true_iff.1 hc
    obtain ⟨ka, hka, a1, a2, a3, a4, a5⟩ := wholeAt_some hca
    obtain ⟨kb, hkb, b1, b2, b3, b4, b5⟩ := wholeAt_some hcb
    obtain ⟨za', csa, fza, hA⟩ := hW.bk hka
    obtain ⟨zb', csb, fzb, hB⟩ := hW.bk hkb
    have := hA.hm; rw [ha] at this; cases this
    have := hB.hm; rw [hb] at this; cases this
    have hne : zb.blk ≠ za.blk := fun e => by
      have h3 := hW.ap a b za zb (Ne.symm hab) ha hb (by rw [getBk_some hkb]; simp)
      rw [getBk_some hka, getBk_some hkb] at h3
      obtain ⟨kx, hkx, _, _, hfx, _⟩ := h3 a1 a2 e
      cases hkx; rw [b3] at hfx; cases hfx
    have pa := hA.hp; rw [hA.bare a3 a1 a4] at pa
    have pb := hB.hp; rw [hB.bare b3 b1 b4] at pb
    exact run_sameAddr_other w (a := ⟨za.blk, za.sh + o, none⟩) (b := ⟨zb.blk, zb.sh + u, none⟩) (fun e => hne (congrArg Addr.block e).symm) pa pb
/-- A test by the type is the model's. -/
def EqOk (P : Program) (m : Mz) (w : World) (d : Nat) (eq : Eq2) : Prop := ∀ t x y b, eq t x y = some b → ∀ D, d ≤ D → ∀ X Y, VR m x X → VR m y Y → (Op.equalIn D t X Y).run P w = .ok b w
theorem eqPart_ok {d : Nat} {eq : Eq2} (heq : EqOk P m w d eq) {t : TypeId} {xs ys : List AV} {o : Nat} {r : Bool} {us vs : Array Value} (hx : VRL m xs us.toList) (hy : VRL m ys vs.toList)
    (he : eqPart eq t (partA P t xs o) (partA P t ys o) = some r) : ∃ u v, (part t us o).run P w = .ok u w ∧ (part t vs o).run P w = .ok v w ∧ ∀ D, d ≤ D → (Op.equalIn D t u v).run P w = .ok r w := by
  unfold eqPart at he
  cases h1 : partA P t xs o with
  | none => rw [h1] at he; cases he
  | some x =>
    cases h2 : partA P t ys o with
    | none => rw [h1, h2] at he; cases he
    | some y =>
      rw [h1, h2] at he
      obtain ⟨u, hu, hxu⟩ := partA_ok h1 hx w
      obtain ⟨v, hv, hyv⟩ := partA_ok h2 hy w
      exact ⟨u, v, hu, hv, fun D hD => heq t x y r he D hD u v hxu hyv⟩
theorem andO_some {a b : Option Bool} {r : Bool} (he : andO a b = some r) : (a = some false ∧ r = false) ∨ (a = some true ∧ b = some r) := by
  cases a with
  | none => cases he
  | some a => cases a with
    | false => cases he; exact .inl ⟨rfl, rfl⟩
    | true => exact .inr ⟨rfl, he⟩
theorem eqFs_ok {d : Nat} {eq : Eq2} (heq : EqOk P m w d eq) {xs ys : List AV} {us vs : Array Value} (hx : VRL m xs us.toList) (hy : VRL m ys vs.toList) : ∀ (fs : List Field) (r : Bool), eqFs P eq xs ys fs = some r →
    ∀ D, d ≤ D → (Op.eqFields D us vs fs).run P w = .ok r w
  | [], r, he, D, _ => by cases he; simp [Op.eqFields]
  | f :: fs, r, he, D, hD => by
    rw [eqFs] at he
    by_cases hn : f.name = "_"
    · have hb : (f.name == "_") = true := by simpa using hn
      rw [hb] at he
      simp only [Op.eqFields, hn, ne_eq, not_true_eq_false, if_false]
      exact eqFs_ok heq hx hy fs r he D hD
    · have hb : (f.name == "_") = false := by simpa using hn
      rw [hb] at he
      have he1 : andO (eqPart eq f.type (partA P f.type xs f.offset) (partA P f.type ys f.offset)) (eqFs P eq xs ys fs) = some r := he
      simp only [Op.eqFields, ne_eq, hn, not_false_eq_true, if_true, Sem.run_bind]
      rcases andO_some he1 with ⟨h1, rfl⟩ | ⟨h1, h2⟩
      · obtain ⟨u, v, p1, p2, p3⟩ := eqPart_ok heq hx hy h1
        simp [p1, p2, p3 D hD]
      · obtain ⟨u, v, p1, p2, p3⟩ := eqPart_ok heq hx hy h1
        simp [p1, p2, p3 D hD, eqFs_ok heq hx hy fs r h2 D hD]
theorem eqEs_ok {d : Nat} {eq : Eq2} (heq : EqOk P m w d eq) {e : TypeId} {n : Nat} (hn : P.cellsOf e = n) {xs ys : List AV} {us vs : Array Value} (hx : VRL m xs us.toList) (hy : VRL m ys vs.toList) : ∀ (k i : Nat) (r : Bool), eqEs P eq e xs ys n k i = some r →
    ∀ D, d ≤ D → (Op.eqItems D e (P.cellsOf e) us vs (List.range' i k)).run P w = .ok r w
  | 0, i, r, he, D, _ => by cases he; simp [Op.eqItems]
  | k + 1, i, r, he, D, hD => by
    rw [eqEs] at he
    rw [List.range'_succ]
    simp only [Op.eqItems, Sem.run_bind, hn]
    rcases andO_some he with ⟨h1, rfl⟩ | ⟨h1, h2⟩
    · obtain ⟨u, v, p1, p2, p3⟩ := eqPart_ok heq hx hy h1
      simp [p1, p2, p3 D hD]
    · obtain ⟨u, v, p1, p2, p3⟩ := eqPart_ok heq hx hy h1
      have := eqEs_ok heq hn hx hy k (i + 1) r h2 D hD
      rw [hn] at this
      simp [p1, p2, p3 D hD, this]
set_option maxHeartbeats 2000000 in
theorem eqT_ok (hW : WR P m h nx w) : ∀ d : Nat, EqOk P m w d (eqT P h d)
  | 0 => fun t x y b he => by cases he
  | d + 1 => fun t x y b he D hD X Y hX hY => by
    obtain ⟨D, rfl⟩ : ∃ D', D = D' + 1 := ⟨D - 1, by omega⟩
    have hD' : d ≤ D := by omega
    have ih := eqT_ok hW d
    obtain ⟨u, hu, he⟩ := bind_some (show ((P.underlying t).bind fun u => eqU u P h (eqT P h d) t x y) = some b from he)
    cases u with
    | bool =>
      have he : eqBool x y = some b := he
      cases hX <;> cases hY <;> first | (cases he; done) | (cases he; exact run_equalIn_bool w D t _ _ hu)
    | int k =>
      have he : eqInt x y = some b := he
      cases hX <;> cases hY <;> first | (cases he; done) | skip
      obtain ⟨hk, he1⟩ := cond_some he
      have hkk := of_decide_eq_true hk
      subst hkk
      clear he
      cases he1
      rw [eqZ_eq]; exact run_equalIn_int w D t _ _ _ _ hu
    | string =>
      have he : eqStr x y = some b := he
      cases hX <;> cases hY <;> first | (cases he; done) | skip
      cases he
      rw [run_equalIn_string w D t _ _ hu, toList_str, toList_str, eqS_eq]
    | pointer e =>
      have he : eqPtr P h e x y = some b := he
      cases hX with
      | @ptr a za oa ha => cases hY with
        | @ptr b' zb ob hb =>
          obtain ⟨n, hn, he⟩ := bind_some (show (sizeT P e).bind (eqPtrs h a oa b' ob) = some b from he)
          obtain ⟨hn0, he⟩ := cond_some he
          rw [blt_eq] at hn0
          have hn0 : 0 < n := of_decide_eq_true hn0
          have h3 := samePt_ok hW he ha hb
          simp [Op.equalIn, run_underlying hu, run_sizeOf hn, show n ≠ 0 by omega, h3]
        | nilp => cases he; simp [Op.equalIn, run_underlying hu]
        | _ => cases he
      | nilp => cases hY with
        | ptr ob hb => cases he; simp [Op.equalIn, run_underlying hu]
        | nilp => cases he; simp [Op.equalIn, run_underlying hu]
        | _ => cases he
      | _ => cases he
    | interface ms =>
      have he : eqIfc P (eqT P h d) x y = some b := he
      cases hX with
      | @iface tx v X hv => cases hY with
        | @iface ty v' Y hv' =>
          have he : (bif Nat.beq tx ty then (P.info? tx).bind (eqDyn (eqT P h d) tx v v') else some false) = some b := he
          by_cases htt : tx = ty
          · subst htt
            rw [show Nat.beq tx tx = true from Nat.beq_refl tx] at he
            obtain ⟨i, hi, he⟩ := bind_some (show (P.info? tx).bind (eqDyn (eqT P h d) tx v v') = some b from he)
            obtain ⟨hc, he⟩ := cond_some he
            have h3 := ih tx v v' b he D hD' X Y hv hv'
            simp [Op.equalIn, run_underlying hu, typeInfo, hi, hc, h3]
          · rw [show Nat.beq tx ty = false by rw [beq_eq]; exact decide_eq_false htt] at he
            cases he
            simp [Op.equalIn, run_underlying hu, htt]
        | nili => cases he; simp [Op.equalIn, run_underlying hu]
        | _ => cases he
      | nili => cases hY with
        | iface ty hv' => cases he; simp [Op.equalIn, run_underlying hu]
        | nili => cases he; simp [Op.equalIn, run_underlying hu]
        | _ => cases he
      | _ => cases he
    | struct fs =>
      have he : eqSt P (eqT P h d) t fs.toList x y = some b := he
      cases hX with
      | @agg xs us hx => cases hY with
        | @agg ys vs hy =>
          have he : (bif P.stoodInHeld t then none else eqFs P (eqT P h d) xs ys fs.toList) = some b := he
          cases hs : P.stoodInHeld t with
          | true => rw [hs] at he; cases he
          | false =>
            rw [hs] at he
            have hf : P.fieldsOf t = fs := by simp [Program.fieldsOf, hu]
            rw [run_equalIn_struct w D t us vs (by rw [hf]; exact hu) hs, hf]
            exact eqFs_ok ih hx hy fs.toList b he D hD'
        | _ => cases he
      | _ => cases he
    | array n e =>
      have he : eqAr P (eqT P h d) n e x y = some b := he
      cases hX with
      | @agg xs us hx => cases hY with
        | @agg ys vs hy =>
          obtain ⟨z, hz, he⟩ := bind_some (show ((sizeT P e).bind fun z => eqEs P (eqT P h d) e xs ys z n 0) = some b from he)
          obtain ⟨i, hi, _⟩ := sizeT_some hz
          rw [run_equalIn_array w D us vs hu hi, List.range_eq_range']
          exact eqEs_ok ih (cellsOf_eq hz) hx hy n 0 b he D hD'
        | _ => cases he
      | _ => cases he
    | slice e =>
      have he : eqSl x y = some b := he
      cases hX <;> cases hY <;> first | (cases he; done) | (cases he; simp [Op.equalIn, run_underlying hu])
    | map k e =>
      have he : eqMp x y = some b := he
      cases hX <;> cases hY <;> first | (cases he; done) | (cases he; simp [Op.equalIn, run_underlying hu])
    | func a c v =>
      have he : eqFn x y = some b := he
      cases hX <;> cases hY <;> first | (cases he; done) | (cases he; simp [Op.equalIn, run_underlying hu])
    | invalid => cases he
    | float k => cases he
    | complex k => cases he
    | unsafePointer => cases he
    | chan a b => cases he
    | tuple a => cases he
    | named a b => cases he
theorem eqT_eq (hW : WR P m h nx w) {t : TypeId} {x y : AV} {b : Bool} (he : eqT P h 10 t x y = some b) {X Y : Value} (hX : VR m x X) (hY : VR m y Y) : (Op.equal t X Y).run P w = .ok b w :=
  eqT_ok hW 10 t x y b he 10000 (by decide) X Y hX hY
end
end Ex
end Go.Proofs.YtajoljoegbeiiaaGreatDoor
