/-
  The executor: slices and strings cut.
-/
import Derived.Test.YtajoljoegbeiiaaGreatDoorExB
namespace Go.Proofs.YtajoljoegbeiiaaGreatDoor
set_option linter.all false
namespace Ex
open Go.RowKit
section
variable {P : Program} {m : Mz} {h : Hp} {nx : Nat} {w : World} {fr : Fm} {a : Act} {sz : Nat} {o : Oper} {r : Rs}
theorem OV.isSome {x : Option AV} {y : Option Value} (hv : OV m x y) : y.isSome = isSomeA x := by
  cases x <;> cases y <;> first | rfl | exact hv.elim
theorem optA_ok (hW : WR P m h nx w) (hF : FR m fr a.tmps sz) {x : Option Operand} {v : Option AV} (he : optA fr x = some v) : OV m v (x.map a.eval) := by
  cases x with
  | none => cases he; trivial
  | some x =>
    obtain ⟨u, hu, rfl⟩ := map_some (show (evA fr x).map some = some v from he)
    exact evA_ok hW hF hu
theorem extract_toArray (s : List UInt8) (l hh : Nat) : (⟨s.toArray⟩ : ByteArray).extract l hh = ⟨((s.take hh).drop l).toArray⟩ := by
  apply ByteArray.ext
  rw [ByteArray.data_extract]
  apply Array.toList_inj.1
  simp [List.drop_take]
/-- The cut of a slice whose elements lie in a block. -/
theorem cut_ok {b oo n c : Nat} {ex : Bool} {lo hi mx : Option AV} {lo' hi' mx' : Option Value} {z : Nat} {v : AV} (h1 : OV m lo lo') (h2 : OV m hi hi') (h3 : OV m mx mx') (hs : slSl lo hi mx ⟨b, oo, n, c, ex⟩ z = some v) {A : Option Addr} {C : Nat}
    (hu : VR m (.slice b oo n c ex) (.slice A n C)) (isS : Bool) (w : World) :
    ∃ l hh M, (Instr.sliceBounds isS n C lo' hi' mx').run P w = .ok (l, hh, M) w ∧ VR m v (.slice (if M = l then A else A.map (·.add (l * z))) (hh - l) (M - l)) := by
  obtain ⟨hno, hs⟩ := cond_some (show (bif !(isSomeA mx && Nat.beq c 0 && !ex) then (bounds lo hi mx n c).map (cutSl ⟨b, oo, n, c, ex⟩ (ex || isSomeA mx) z) else none) = some v from by
    rw [← hs]; show _ = (bif isSomeA mx && Nat.beq c 0 && !ex then none else _)
    cases isSomeA mx && Nat.beq c 0 && !ex <;> rfl)
  obtain ⟨d, hd, rfl⟩ := map_some hs
  obtain ⟨zz, hz, hcase⟩ := hu.slice_inv
  rcases hcase with hc | ⟨hn0, hc0, hex, A', hc⟩
  · injection hc with hA hn' hC
    subst hA
    have hcC : c ≤ C := by rw [hC]; cases ex <;> simp
    obtain ⟨b1, b2, b3, b4, b5⟩ := bounds_ok (P := P) hd h1 h2 h3 hcC isS w
    refine ⟨_, _, _, b5, ?_⟩
    have had : ∀ k, (⟨zz.blk, zz.sh + oo, none⟩ : Addr).add k = ⟨zz.blk, zz.sh + (oo + k), none⟩ := fun k => by rw [addr_add, Nat.add_assoc]
    unfold cutSl
    cases hm : isSomeA mx with
    | true =>
      simp only [if_true, Bool.or_true]
      by_cases hlm : d.l = d.m
      · rw [show Nat.beq d.l d.m = true by rw [beq_eq]; exact decide_eq_true hlm]
        simp only [cond_true, hlm, if_true]
        have e1 : d.h - d.m = 0 := by omega
        have e2 : d.m - d.m = 0 := by omega
        rw [e1, e2]
        exact VR.slice oo 0 0 true hz
      · rw [show Nat.beq d.l d.m = false by rw [beq_eq]; exact decide_eq_false hlm]
        rw [if_neg (fun e => hlm e.symm)]
        simp only [cond_false, Option.map_some, had]
        exact VR.slice (oo + d.l * z) (d.h - d.l) (d.m - d.l) true hz
    | false =>
      have b4 := b4 hm
      simp only [Bool.false_eq_true, if_false, Bool.or_false]
      by_cases hlm : d.l = d.m
      · rw [show Nat.beq d.l d.m = true by rw [beq_eq]; exact decide_eq_true hlm]
        simp only [cond_true]
        have e1 : d.h - d.l = 0 := by omega
        rw [e1]
        cases ex with
        | true =>
          have hCc : C = c := by rw [hC]; rfl
          rw [if_pos (by omega), show C - d.l = 0 by omega]
          exact VR.slice oo 0 0 true hz
        | false =>
          have hCc : C = c + zz.ext := by rw [hC]; rfl
          simp only [cond_false]
          by_cases hCl : C = d.l
          · rw [if_pos hCl, show C - d.l = 0 by omega]
            exact VR.sliceZ _ _ hz
          · rw [if_neg hCl, show C - d.l = 0 + zz.ext by omega]
            simp only [Option.map_some, had]
            exact VR.slice (oo + d.l * z) 0 0 false hz
      · rw [show Nat.beq d.l d.m = false by rw [beq_eq]; exact decide_eq_false hlm]
        simp only [cond_false]
        rw [if_neg (by omega)]
        simp only [Option.map_some, had]
        have := VR.slice (oo + d.l * z) (d.h - d.l) (d.m - d.l) ex hz
        cases ex with
        | true => rw [show C - d.l = d.m - d.l by rw [hC, b4]; rfl]; exact this
        | false => rw [show C - d.l = d.m - d.l + zz.ext by rw [hC]; simp only [Bool.false_eq_true, if_false]; omega]; exact this
  · injection hc with hA hn' hC
    subst hA hn0 hc0 hex hC
    have hmx : isSomeA mx = false := by
      cases hm : isSomeA mx with
      | false => rfl
      | true => rw [hm] at hno; cases hno
    obtain ⟨b1, b2, b3, b4, b5⟩ := bounds_ok (P := P) hd h1 h2 h3 (Nat.le_refl 0) isS w
    have hl0 : d.l = 0 := by omega
    have hh0 : d.h = 0 := by omega
    have hm0 : d.m = 0 := by omega
    refine ⟨_, _, _, b5, ?_⟩
    rw [hmx]
    unfold cutSl
    simp only [hl0, hh0, hm0, Bool.false_eq_true, if_false, if_true, Bool.or_false, show Nat.beq 0 0 = true from rfl, cond_true, cond_false, Nat.sub_self]
    exact VR.sliceZ _ _ hz
theorem d_slice (hW : WR P m h nx w) (hF : FR m fr a.tmps sz) {t : TypeId} {x : Operand} {lo hi mx : Option Operand} (ho : o.op = .slice t x lo hi mx) (hr : oSlice t x lo hi mx P fr h nx = some r) : Did P m h w o a r := by
  obtain ⟨xv, hx, hr⟩ := bind_some hr
  obtain ⟨l, hl, hr⟩ := bind_some hr
  obtain ⟨hh, hhv, hr⟩ := bind_some hr
  obtain ⟨mm, hm, hr⟩ := bind_some hr
  obtain ⟨v, hv, rfl⟩ := pv_some hr
  have e0 := evA_ok hW hF hx
  have e1 := optA_ok hW hF hl
  have e2 := optA_ok hW hF hhv
  have e3 := optA_ok hW hF hm
  obtain ⟨u, hu, hv⟩ := bind_some hv
  obtain ⟨X, hX⟩ : ∃ X, a.eval x = X := ⟨_, rfl⟩
  rw [hX] at e0
  have main : ∃ y, (Instr.sliceAt t X (lo.map a.eval) (hi.map a.eval) (mx.map a.eval)).run P w = .ok y w ∧ VR m v y := by
    unfold Instr.sliceAt
    rw [Sem.run_bind, run_under hu w, Result.andThen_ok]
    cases u with
    | array n e =>
      obtain ⟨p, hp, hv⟩ := bind_some (show ((asP xv).bind fun p => (sizeT P e).bind (slSl l hh mm ⟨p.b, p.o, n, n, true⟩)) = some v from hv)
      obtain ⟨z, hz, hv⟩ := bind_some hv
      rw [asP_some hp] at e0
      obtain ⟨zz, hzz, rfl⟩ := e0.ptr_inv
      obtain ⟨l', h', M, hb, hvr⟩ := cut_ok (P := P) e1 e2 e3 hv (C := n) (.slice p.o n n true hzz) false w
      refine ⟨_, ?_, hvr⟩
      show Sem.run P (Instr.sureAddr (.pointer (some _)) >>= _) w = _
      simp only [Instr.sureAddr, Sem.run_bind, Sem.run_pure, Result.andThen_ok]
      rw [hb]
      simp only [Result.andThen_ok, Sem.run_bind, run_sizeOf hz, Sem.run_pure, Option.map_some]
      congr 2
      split <;> rfl
    | string =>
      obtain ⟨hno, hv⟩ := cond_some (show (bif !isSomeA mm then ((asS xv).bind fun s => (bounds l hh none s.length s.length).map (cutS s)) else none) = some v from by
        rw [← hv]; show _ = (bif isSomeA mm then none else _); cases isSomeA mm <;> rfl)
      obtain ⟨s, hs, hv⟩ := bind_some hv
      obtain ⟨d, hd, rfl⟩ := map_some hv
      have hxs : xv = .str s := by cases xv <;> first | (cases hs; rfl) | cases hs
      subst hxs
      cases e0
      have hms : (mx.map a.eval).isSome = false := by
        rw [OV.isSome e3]; simpa using hno
      obtain ⟨b1, b2, b3, b4, b5⟩ := bounds_ok (P := P) (mx' := none) hd e1 e2 trivial (Nat.le_refl _) false w
      have hsz : (⟨s.toArray⟩ : ByteArray).size = s.length := by simp [ByteArray.size]
      refine ⟨.string ⟨((s.take d.h).drop d.l).toArray⟩, ?_, .str _⟩
      show Sem.run P (Instr.slice t _ _ _ _) w = _
      unfold Instr.slice
      rw [Sem.run_bind, run_under hu w, Result.andThen_ok]
      show Sem.run P (if (mx.map a.eval).isSome = true then _ else _) w = _
      rw [hms]
      simp only [Bool.false_eq_true, if_false, hsz, Sem.run_bind, b5, Result.andThen_ok, Sem.run_pure, extract_toArray]
    | slice e =>
      cases xv with
      | nils =>
        obtain ⟨z, hz, hv⟩ := bind_some (show ((sizeT P e).bind fun _ => (bounds l hh mm 0 0).map fun _ => AV.nils) = some v from hv)
        obtain ⟨d, hd, hv⟩ := map_some hv
        subst hv
        cases e0
        obtain ⟨b1, b2, b3, b4, b5⟩ := bounds_ok (P := P) hd e1 e2 e3 (Nat.le_refl _) true w
        have hl0 : d.l = 0 := by omega
        have hh0 : d.h = 0 := by omega
        have hm0 : (if isSomeA mm = true then d.m else 0) = 0 := by split <;> omega
        rw [hl0, hh0, hm0] at b5
        refine ⟨.slice none 0 0, ?_, .nils⟩
        show Sem.run P (Instr.slice t _ _ _ _) w = _
        unfold Instr.slice
        rw [Sem.run_bind, run_under hu w, Result.andThen_ok]
        show Sem.run P (Instr.sliceBounds true 0 0 _ _ _ >>= _) w = _
        rw [Sem.run_bind, b5, Result.andThen_ok]
        simp only [Sem.run_bind, run_sizeOf hz, Result.andThen_ok, Sem.run_pure, if_true, Nat.sub_self]
      | slice b oo n c ex =>
        obtain ⟨z, hz, hv⟩ := bind_some (show ((sizeT P e).bind (slSl l hh mm ⟨b, oo, n, c, ex⟩)) = some v from hv)
        obtain ⟨zz, hzz, hcase⟩ := e0.slice_inv
        obtain ⟨A, C, rfl⟩ : ∃ A C, X = .slice A n C := by
          rcases hcase with hc | ⟨hn0, hc0, hex, A', hc⟩
          · exact ⟨_, _, hc⟩
          · exact ⟨_, 0, by rw [hc, hn0]⟩
        obtain ⟨l', h', M, hb, hvr⟩ := cut_ok (P := P) e1 e2 e3 hv e0 true w
        refine ⟨_, ?_, hvr⟩
        show Sem.run P (Instr.slice t _ _ _ _) w = _
        unfold Instr.slice
        rw [Sem.run_bind, run_under hu w, Result.andThen_ok]
        show Sem.run P (Instr.sliceBounds true n C _ _ _ >>= _) w = _
        rw [Sem.run_bind, hb, Result.andThen_ok]
        simp only [Sem.run_bind, run_sizeOf hz, Result.andThen_ok, Sem.run_pure]
      | _ => cases hv
    | pointer pt =>
      obtain ⟨ar, har, hv⟩ := bind_some (show (((P.underlying pt).bind arrD).bind fun a => slArr P a l hh mm xv) = some v from hv)
      obtain ⟨ut, hut, har⟩ := bind_some har
      have har := arrD_some har
      subst har
      obtain ⟨p, hp, hv⟩ := bind_some hv
      obtain ⟨z, hz, hv⟩ := bind_some hv
      rw [asP_some hp] at e0
      obtain ⟨zz, hzz, rfl⟩ := e0.ptr_inv
      obtain ⟨l', h', M, hb, hvr⟩ := cut_ok (P := P) e1 e2 e3 hv (C := ar.n) (.slice p.o ar.n ar.n true hzz) false w
      refine ⟨_, ?_, hvr⟩
      show Sem.run P (Instr.slice t _ _ _ _) w = _
      unfold Instr.slice
      rw [Sem.run_bind, run_under hu w, Result.andThen_ok]
      show Sem.run P (asAddr (.pointer (some _)) >>= _) w = _
      simp only [asAddr, Sem.run_bind, Sem.run_pure, run_under hut w, Result.andThen_ok]
      rw [hb]
      simp only [Result.andThen_ok, Sem.run_bind, run_sizeOf hz, Sem.run_pure, Option.map_some]
      congr 2
      split <;> rfl
    | _ => cases hv
  obtain ⟨y, hy, hvy⟩ := main
  refine did_val hW (u := y) ?_ hvy
  simp [execOp, ho, hX, hy]
end
end Ex
end Go.Proofs.YtajoljoegbeiiaaGreatDoor
