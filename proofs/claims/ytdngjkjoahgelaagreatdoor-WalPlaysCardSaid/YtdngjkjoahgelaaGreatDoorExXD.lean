/-
  The executor: slices and strings cut. The executor: append. The executor: append, brought together; copy. The executor: the other builtins.
-/
import Derived.Test.YtdngjkjoahgelaaGreatDoorExXC
import Derived.Deep.AppendSrc
import Derived.MapKept
namespace Go.Proofs.YtdngjkjoahgelaaGreatDoor
set_option linter.all false
namespace Ex
open Go.RowKit
section
variable {P : Program} {m : Mz} {h : Hp} {nx : Nat} {w : World} {fr : Fm} {a : Act} {sz : Nat} {o : Oper} {r : Rs}
theorem OV.isSome {x : Option AV} {y : Option Value} (hv : OV m x y) : y.isSome = isSomeA x := by
  cases x <;> cases y <;> first | rfl | exact hv.elim
theorem optA_ok (hW : WR P m h nx w) (hF : FR m fr a.tmps sz) {x : Option Operand} {v : Option AV} (he : optA fr x = some v) : OV m v (x.map a.eval) := by
  cases x with
  | none => cases he; trivial
  | some x =>
    obtain ⟨u, hu, rfl⟩ := map_some (show (evA fr x).map some = some v from he)
    exact evA_ok hW hF hu
theorem extract_toArray (s : List UInt8) (l hh : Nat) : (⟨s.toArray⟩ : ByteArray).extract l hh = ⟨((s.take hh).drop l).toArray⟩ := by
  apply ByteArray.ext
  rw [ByteArray.data_extract]
  apply Array.toList_inj.1
  simp [List.drop_take]
theorem cut_ok {b oo n c : Nat} {ex : Bool} {lo hi mx : Option AV} {lo' hi' mx' : Option Value} {z : Nat} {v : AV} (h1 : OV m lo lo') (h2 : OV m hi hi') (h3 : OV m mx mx') (hs : slSl lo hi mx ⟨b, oo, n, c, ex⟩ z = some v) {A : Option Addr} {C : Nat}
    (hu : VR m (.slice b oo n c ex) (.slice A n C)) (isS : Bool) (w : World) :
    ∃ l hh M, (Instr.sliceBounds isS n C lo' hi' mx').run P w = .ok (l, hh, M) w ∧ VR m v (.slice (if M = l then A else A.map (·.add (l * z))) (hh - l) (M - l)) := by
  obtain ⟨hno, hs⟩ := cond_some (show (bif !(isSomeA mx && Nat.beq c 0 && !ex) then (bounds lo hi mx n c).map (cutSl ⟨b, oo, n, c, ex⟩ (ex || isSomeA mx) z) else none) = some v from by
    rw [← hs]; show _ = (bif isSomeA mx && Nat.beq c 0 && !ex then none else _)
    cases isSomeA mx && Nat.beq c 0 && !ex <;> rfl)
  obtain ⟨d, hd, rfl⟩ := map_some hs
  obtain ⟨zz, hz, hcase⟩ := hu.slice_inv
  rcases hcase with hc | ⟨hn0, hc0, hex, A', hc⟩
  · injection hc with hA hn' hC
    subst hA
    have hcC : c ≤ C := by rw [hC]; cases ex <;> simp
    obtain ⟨b1, b2, b3, b4, b5⟩ := bounds_ok (P := P) hd h1 h2 h3 hcC isS w
    refine ⟨_, _, _, b5, ?_⟩
    have had : ∀ k, (⟨zz.blk, zz.sh + oo, none⟩ : Addr).add k = ⟨zz.blk, zz.sh + (oo + k), none⟩ := fun k => by rw [addr_add, Nat.add_assoc]
    unfold cutSl
    cases hm : isSomeA mx with
    | true =>
      simp only [if_true, Bool.or_true]
      by_cases hlm : d.l = d.m
      · rw [show Nat.beq d.l d.m = true by rw [beq_eq]; exact decide_eq_true hlm]
        simp only [cond_true, hlm, if_true]
        have e1 : d.h - d.m = 0 := by omega
        have e2 : d.m - d.m = 0 := by omega
        rw [e1, e2]
        exact VR.slice oo 0 0 true hz
      · rw [show Nat.beq d.l d.m = false by rw [beq_eq]; exact decide_eq_false hlm]
        rw [if_neg (fun e => hlm e.symm)]
        simp only [cond_false, Option.map_some, had]
        exact VR.slice (oo + d.l * z) (d.h - d.l) (d.m - d.l) true hz
    | false =>
      have b4 := b4 hm
      simp only [Bool.false_eq_true, if_false, Bool.or_false]
      by_cases hlm : d.l = d.m
      · rw [show Nat.beq d.l d.m = true by rw [beq_eq]; exact decide_eq_true hlm]
        simp only [cond_true]
        have e1 : d.h - d.l = 0 := by omega
        rw [e1]
        cases ex with
        | true =>
          have hCc : C = c := by rw [hC]; rfl
          rw [if_pos (by omega), show C - d.l = 0 by omega]
          exact VR.slice oo 0 0 true hz
        | false =>
          have hCc : C = c + zz.ext := by rw [hC]; rfl
          simp only [cond_false]
          by_cases hCl : C = d.l
          · rw [if_pos hCl, show C - d.l = 0 by omega]
            exact VR.sliceZ _ _ hz
          · rw [if_neg hCl, show C - d.l = 0 + zz.ext by omega]
            simp only [Option.map_some, had]
            exact VR.slice (oo + d.l * z) 0 0 false hz
      · rw [show Nat.beq d.l d.m = false by rw [beq_eq]; exact decide_eq_false hlm]
        simp only [cond_false]
        rw [if_neg (by omega)]
        simp only [Option.map_some, had]
        have := VR.slice (oo + d.l * z) (d.h - d.l) (d.m - d.l) ex hz
        cases ex with
        | true => rw [show C - d.l = d.m - d.l by rw [hC, b4]; rfl]; exact this
        | false => rw [show C - d.l = d.m - d.l + zz.ext by rw [hC]; simp only [Bool.false_eq_true, if_false]; omega]; exact this
  · injection hc with hA hn' hC
    subst hA hn0 hc0 hex hC
    have hmx : isSomeA mx = false := by
      cases hm : isSomeA mx with
      | false => rfl
      | true => rw [hm] at hno; cases hno
    obtain ⟨b1, b2, b3, b4, b5⟩ := bounds_ok (P := P) hd h1 h2 h3 (Nat.le_refl 0) isS w
    have hl0 : d.l = 0 := by omega
    have hh0 : d.h = 0 := by omega
    have hm0 : d.m = 0 := by omega
    refine ⟨_, _, _, b5, ?_⟩
    rw [hmx]
    unfold cutSl
    simp only [hl0, hh0, hm0, Bool.false_eq_true, if_false, if_true, Bool.or_false, show Nat.beq 0 0 = true from rfl, cond_true, cond_false, Nat.sub_self]
    exact VR.sliceZ _ _ hz
theorem d_slice (hW : WR P m h nx w) (hF : FR m fr a.tmps sz) {t : TypeId} {x : Operand} {lo hi mx : Option Operand} (ho : o.op = .slice t x lo hi mx) (hr : oSlice t x lo hi mx P fr h nx = some r) : Did P m h w o a r := by
  obtain ⟨xv, hx, hr⟩ := bind_some hr
  obtain ⟨l, hl, hr⟩ := bind_some hr
  obtain ⟨hh, hhv, hr⟩ := bind_some hr
  obtain ⟨mm, hm, hr⟩ := bind_some hr
  obtain ⟨v, hv, rfl⟩ := pv_some hr
  have e0 := evA_ok hW hF hx
  have e1 := optA_ok hW hF hl
  have e2 := optA_ok hW hF hhv
  have e3 := optA_ok hW hF hm
  obtain ⟨u, hu, hv⟩ := bind_some hv
  obtain ⟨X, hX⟩ : ∃ X, a.eval x = X := ⟨_, rfl⟩
  rw [hX] at e0
  have main : ∃ y, (Instr.sliceAt t X (lo.map a.eval) (hi.map a.eval) (mx.map a.eval)).run P w = .ok y w ∧ VR m v y := by
    unfold Instr.sliceAt
    rw [Sem.run_bind, run_under hu w, Result.andThen_ok]
    cases u with
    | array n e =>
      obtain ⟨p, hp, hv⟩ := bind_some (show ((asP xv).bind fun p => (sizeT P e).bind (slSl l hh mm ⟨p.b, p.o, n, n, true⟩)) = some v from hv)
      obtain ⟨z, hz, hv⟩ := bind_some hv
      rw [asP_some hp] at e0
      obtain ⟨zz, hzz, rfl⟩ := e0.ptr_inv
      obtain ⟨l', h', M, hb, hvr⟩ := cut_ok (P := P) e1 e2 e3 hv (C := n) (.slice p.o n n true hzz) false w
      refine ⟨_, ?_, hvr⟩
      show Sem.run P (Instr.sureAddr (.pointer (some _)) >>= _) w = _
      simp only [Instr.sureAddr, Sem.run_bind, Sem.run_pure, Result.andThen_ok]
      rw [hb]
      simp only [Result.andThen_ok, Sem.run_bind, run_sizeOf hz, Sem.run_pure, Option.map_some]
      congr 2
      split <;> rfl
    | string =>
      obtain ⟨hno, hv⟩ := cond_some (show (bif !isSomeA mm then ((asS xv).bind fun s => (bounds l hh none s.length s.length).map (cutS s)) else none) = some v from by
        rw [← hv]; show _ = (bif isSomeA mm then none else _); cases isSomeA mm <;> rfl)
      obtain ⟨s, hs, hv⟩ := bind_some hv
      obtain ⟨d, hd, rfl⟩ := map_some hv
      have hxs : xv = .str s := by cases xv <;> first | (cases hs; rfl) | cases hs
      subst hxs
      cases e0
      have hms : (mx.map a.eval).isSome = false := by
        rw [OV.isSome e3]; simpa using hno
      obtain ⟨b1, b2, b3, b4, b5⟩ := bounds_ok (P := P) (mx' := none) hd e1 e2 trivial (Nat.le_refl _) false w
      have hsz : (⟨s.toArray⟩ : ByteArray).size = s.length := by simp [ByteArray.size]
      refine ⟨.string ⟨((s.take d.h).drop d.l).toArray⟩, ?_, .str _⟩
      show Sem.run P (Instr.slice t _ _ _ _) w = _
      unfold Instr.slice
      rw [Sem.run_bind, run_under hu w, Result.andThen_ok]
      show Sem.run P (if (mx.map a.eval).isSome = true then _ else _) w = _
      rw [hms]
      simp only [Bool.false_eq_true, if_false, hsz, Sem.run_bind, b5, Result.andThen_ok, Sem.run_pure, extract_toArray]
    | slice e =>
      cases xv with
      | nils =>
        obtain ⟨z, hz, hv⟩ := bind_some (show ((sizeT P e).bind fun _ => (bounds l hh mm 0 0).map fun _ => AV.nils) = some v from hv)
        obtain ⟨d, hd, hv⟩ := map_some hv
        subst hv
        cases e0
        obtain ⟨b1, b2, b3, b4, b5⟩ := bounds_ok (P := P) hd e1 e2 e3 (Nat.le_refl _) true w
        have hl0 : d.l = 0 := by omega
        have hh0 : d.h = 0 := by omega
        have hm0 : (if isSomeA mm = true then d.m else 0) = 0 := by split <;> omega
        rw [hl0, hh0, hm0] at b5
        refine ⟨.slice none 0 0, ?_, .nils⟩
        show Sem.run P (Instr.slice t _ _ _ _) w = _
        unfold Instr.slice
        rw [Sem.run_bind, run_under hu w, Result.andThen_ok]
        show Sem.run P (Instr.sliceBounds true 0 0 _ _ _ >>= _) w = _
        rw [Sem.run_bind, b5, Result.andThen_ok]
        simp only [Sem.run_bind, run_sizeOf hz, Result.andThen_ok, Sem.run_pure, if_true, Nat.sub_self]
      | slice b oo n c ex =>
        obtain ⟨z, hz, hv⟩ := bind_some (show ((sizeT P e).bind (slSl l hh mm ⟨b, oo, n, c, ex⟩)) = some v from hv)
        obtain ⟨zz, hzz, hcase⟩ := e0.slice_inv
        obtain ⟨A, C, rfl⟩ : ∃ A C, X = .slice A n C := by
          rcases hcase with hc | ⟨hn0, hc0, hex, A', hc⟩
          · exact ⟨_, _, hc⟩
          · exact ⟨_, 0, by rw [hc, hn0]⟩
        obtain ⟨l', h', M, hb, hvr⟩ := cut_ok (P := P) e1 e2 e3 hv e0 true w
        refine ⟨_, ?_, hvr⟩
        show Sem.run P (Instr.slice t _ _ _ _) w = _
        unfold Instr.slice
        rw [Sem.run_bind, run_under hu w, Result.andThen_ok]
        show Sem.run P (Instr.sliceBounds true n C _ _ _ >>= _) w = _
        rw [Sem.run_bind, hb, Result.andThen_ok]
        simp only [Sem.run_bind, run_sizeOf hz, Result.andThen_ok, Sem.run_pure]
      | _ => cases hv
    | pointer pt =>
      obtain ⟨ar, har, hv⟩ := bind_some (show (((P.underlying pt).bind arrD).bind fun a => slArr P a l hh mm xv) = some v from hv)
      obtain ⟨ut, hut, har⟩ := bind_some har
      have har := arrD_some har
      subst har
      obtain ⟨p, hp, hv⟩ := bind_some hv
      obtain ⟨z, hz, hv⟩ := bind_some hv
      rw [asP_some hp] at e0
      obtain ⟨zz, hzz, rfl⟩ := e0.ptr_inv
      obtain ⟨l', h', M, hb, hvr⟩ := cut_ok (P := P) e1 e2 e3 hv (C := ar.n) (.slice p.o ar.n ar.n true hzz) false w
      refine ⟨_, ?_, hvr⟩
      show Sem.run P (Instr.slice t _ _ _ _) w = _
      unfold Instr.slice
      rw [Sem.run_bind, run_under hu w, Result.andThen_ok]
      show Sem.run P (asAddr (.pointer (some _)) >>= _) w = _
      simp only [asAddr, Sem.run_bind, Sem.run_pure, run_under hut w, Result.andThen_ok]
      rw [hb]
      simp only [Result.andThen_ok, Sem.run_bind, run_sizeOf hz, Sem.run_pure, Option.map_some]
      congr 2
      split <;> rfl
    | _ => cases hv
  obtain ⟨y, hy, hvy⟩ := main
  refine did_val hW (u := y) ?_ hvy
  simp [execOp, ho, hX, hy]
end
end Ex
end Go.Proofs.YtdngjkjoahgelaaGreatDoor

namespace Go.Proofs.YtdngjkjoahgelaaGreatDoor
set_option linter.all false
namespace Ex
open Go.RowKit
section
variable {P : Program} {m : Mz} {h : Hp} {nx : Nat} {w : World} {fr : Fm} {a : Act} {sz : Nat} {o : Oper} {r : Rs}
theorem elder_live {p : Nat} {k : Bk} (hd : elder p k ≠ .dead) : p = k.n ∧ elder p k = .cells { k with st := true } := by
  unfold elder at *
  cases hb : Nat.beq p k.n with
  | true => rw [hb] at hd; exact ⟨Nat.eq_of_beq_eq_true hb, rfl⟩
  | false => rw [hb] at hd; exact absurd rfl hd
theorem elder_own {p : Nat} {k : Bk} (ho : ownO (elder p k)) : k.ro = false := by
  have hd : elder p k ≠ .dead := fun e => by rw [e] at ho; exact ho
  rw [(elder_live hd).2] at ho; exact ho
theorem WR.alone (hW : WR P m h nx w) {b : Nat} {k : Bk} (hb : h.get .dead b = .cells k) (hst : k.st = false) {y : Nat} {zy z : Cz} (hy : y ≠ b) (hmy : m y = some zy) (hmb : m b = some z) (nx' : Nat) (zx : Cz) (ox : AO) (hzx : zx.blk = z.blk) : Apart (h.get .dead y) y nx' zy zx ox := by
  have := hW.ap y b zy z (Ne.symm hy) hmy hmb (by rw [hb]; simp)
  rw [hb] at this
  cases hoy : h.get .dead y with
  | cells ky =>
    rw [hoy] at this
    intro a1 a2 a3
    obtain ⟨kx, hkx, _, hsx, _⟩ := this a1 a2 (by omega)
    cases hkx; rw [hst] at hsx; cases hsx
  | dead => trivial
  | map es cl => rw [hoy] at this; have this : z.blk ≠ zy.blk := this; show zx.blk ≠ zy.blk; omega
  | siter s pos => rw [hoy] at this; have this : z.blk ≠ zy.blk := this; show zx.blk ≠ zy.blk; omega
  | loop lp => rw [hoy] at this; have this : z.blk ≠ zy.blk := this; show zx.blk ≠ zy.blk; omega
  | deferred => rw [hoy] at this; have this : z.blk ≠ zy.blk := this; show zx.blk ≠ zy.blk; omega
theorem elder_ok (hW : WR P m h nx w) {b : Nat} {k : Bk} (hb : h.get .dead b = .cells k) (hst : k.st = false) (hfx : k.fx = false) (p : Nat) :
    WR P m (h.set .dead b (elder p k)) nx w ∧ Evo m h w m (h.set .dead b (elder p k)) w := by
  refine ⟨⟨hW.gl, hW.fresh, fun y => ?_, ?_⟩, Le.refl m, rfl, rfl, rfl, Nat.le_refl _, fun _ _ _ => rfl, ?_⟩
  · rw [Tr.get_set]
    by_cases hy : y = b
    · rw [if_pos hy]; subst hy
      by_cases hd : elder p k = .dead
      · rw [hd]; trivial
      · rw [(elder_live hd).2]
        have := hW.rel y
        rw [hb] at this
        obtain ⟨z, cs, fz, hB⟩ := this
        exact ⟨z, cs, fz, hB.hm, hB.hp, hB.sz, hB.here, (fun hc => by cases hc), (fun hc => by rw [show ({ k with st := true } : Bk).fx = k.fx from rfl, hfx] at hc; cases hc), (fun hc => by rw [show ({ k with st := true } : Bk).fx = k.fx from rfl, hfx] at hc; cases hc), (fun hc => by rw [show ({ k with st := true } : Bk).fx = k.fx from rfl, hfx] at hc; cases hc)⟩
    · rw [if_neg hy]; exact hW.rel y
  · intro y x zy zx hx hmy hmx hlive
    rw [Tr.get_set] at hlive
    rw [Tr.get_set, Tr.get_set]
    by_cases hy : y = b
    · rw [if_pos hy]
      by_cases hd : elder p k = .dead
      · rw [hd]; trivial
      · rw [(elder_live hd).2]; intro _ hc; cases hc
    · rw [if_neg hy]
      by_cases hxb : x = b
      · subst hxb
        exact hW.alone hb hst hy hmy hmx x zx _ rfl
      · rw [if_neg hxb] at hlive ⊢
        exact hW.ap y x zy zx hx hmy hmx hlive
  · rintro j hj ⟨y, zy, hmy, hyj, hoy⟩
    rw [Tr.get_set] at hoy
    by_cases hy : y = b
    · rw [if_pos hy] at hoy; subst hy
      exact ⟨y, zy, hmy, hyj, by rw [hb]; exact elder_own hoy⟩
    · rw [if_neg hy] at hoy; exact ⟨y, zy, hmy, hyj, hoy⟩
theorem fork_ok (hW : WR P m h nx w) {b : Nat} {k : Bk} {z : Cz} {cs cs' : Array Value} {fz : Nat × Nat} (hb : h.get .dead b = .cells k) (hro : k.ro = false) (hst : k.st = false) (hfx : k.fx = false) (hB : BR P m w b k z cs fz)
    (hcs : cs'.size = cs.size) {p : Nat} (hkeep : ∀ i, i < z.sh + p → cs'[i]? = cs[i]?) (hbnd : k.bnd ≤ p) {kn : Bk} {zn : Cz} (hzb : zn.blk = z.blk) (hsh : z.sh + p ≤ zn.sh + kn.bnd) (hanc : kn.anc = b :: k.anc) (hro' : kn.ro = false)
    (hB' : BR P (upd m nx zn) (w.setRow z.blk cs') nx kn zn cs' fz) :
    WR P (upd m nx zn) ((h.set .dead b (elder p k)).set .dead nx (.cells kn)) (nx + 1) (w.setRow z.blk cs') ∧ Evo m h w (upd m nx zn) ((h.set .dead b (elder p k)).set .dead nx (.cells kn)) (w.setRow z.blk cs') := by
  have hn := hW.fresh nx (Nat.le_refl _)
  have hle := upd_le zn hn
  have hbn : b ≠ nx := fun e => by rw [← e, hB.hm] at hn; cases hn
  have hrow := setRow_heap w z.blk cs cs' k.e fz hB.hp
  have hapb : ∀ x zx, x ≠ b → m x = some zx → h.get .dead x ≠ .dead → zx.blk = z.blk → ∃ kx, h.get .dead x = .cells kx ∧ x ∈ k.anc ∧ kx.st = true ∧ kx.fx = false ∧ zx.sh + kx.n ≤ z.sh + k.bnd := fun x zx hx hmx hd e => by
    have := hW.ap b x z zx hx hB.hm hmx hd
    rw [hb] at this
    exact this hro hst e
  refine ⟨⟨fun g hg => hle _ _ (hW.gl g hg), fun x hx => by rw [upd_ne m zn (by omega)]; exact hW.fresh x (by omega), fun y => ?_, ?_⟩, hle, rfl, rfl, rfl, by simp, ?_, ?_⟩
  · rw [Tr.get_set]
    by_cases hyn : y = nx
    · rw [if_pos hyn]; subst hyn; exact ⟨zn, cs', fz, hB'⟩
    · rw [if_neg hyn, Tr.get_set]
      by_cases hy : y = b
      · rw [if_pos hy]; subst hy
        by_cases hd : elder p k = .dead
        · rw [hd]; trivial
        · obtain ⟨hp, he⟩ := elder_live hd
          rw [he]
          exact ⟨z, cs', fz, hle _ _ hB.hm, hrow, by rw [hcs]; exact hB.sz, fun i hi => by
            obtain ⟨u, hu, hv⟩ := hB.here i hi
            have hi : i < k.n := hi
            exact ⟨u, by rw [hkeep _ (by omega)]; exact hu, hv.mono hle⟩, (fun hc => by cases hc), (fun hc => by rw [show ({ k with st := true } : Bk).fx = k.fx from rfl, hfx] at hc; cases hc), (fun hc => by rw [show ({ k with st := true } : Bk).fx = k.fx from rfl, hfx] at hc; cases hc), (fun hc => by rw [show ({ k with st := true } : Bk).fx = k.fx from rfl, hfx] at hc; cases hc)⟩
      · rw [if_neg hy]
        by_cases hd : h.get .dead y = .dead
        · rw [hd]; trivial
        · obtain ⟨zy, hmy, _⟩ := (hW.rel y).there hd
          by_cases hs : zy.blk = z.blk
          · obtain ⟨kx, hkx, _, hsx, hfxx, hlex⟩ := hapb y zy hy hmy hd hs
            have hrx := hW.rel y
            rw [hkx] at hrx
            obtain ⟨zx', csx, fzx, hX⟩ := hrx
            have hm2 := hX.hm; rw [hmy] at hm2; cases hm2
            have hpx := hX.hp
            rw [hs, hB.hp] at hpx
            obtain ⟨rfl, he1, rfl⟩ : cs = csx ∧ k.e = kx.e ∧ fz = fzx := by simpa using hpx
            rw [hkx]
            refine ⟨zy, cs', fz, hle _ _ hmy, ?_, by rw [hcs]; exact hX.sz, fun i hi => ?_, ?_, ?_, ?_, ?_⟩
            · rw [hs, hrow, he1]
            · obtain ⟨u, hu, hv⟩ := hX.here i hi
              exact ⟨u, by rw [hkeep _ (by omega)]; exact hu, hv.mono hle⟩
            · intro hc; rw [hsx] at hc; cases hc
            · intro hc; rw [hfxx] at hc; cases hc
            · intro hc; rw [hfxx] at hc; cases hc
            · intro hc; rw [hfxx] at hc; cases hc
          · refine (hW.rel y).mono hle fun z' hm' _ => setRow_other w z.blk z'.blk cs' ?_
            rw [hmy] at hm'; cases hm'; exact hs
  · intro y x zy zx hx hmy hmx hlive
    rw [Tr.get_set, Tr.get_set] at hlive
    rw [Tr.get_set, Tr.get_set, Tr.get_set, Tr.get_set]
    by_cases hyn : y = nx
    · rw [if_pos hyn]; subst hyn
      rw [if_neg hx] at hlive ⊢
      rw [upd_at] at hmy; cases hmy
      rw [upd_ne m zn hx] at hmx
      intro _ _ e
      by_cases hxb : x = b
      · subst hxb
        rw [if_pos rfl] at hlive ⊢
        obtain ⟨hp, he⟩ := elder_live hlive
        rw [hB.hm] at hmx; cases hmx
        exact ⟨_, he, by rw [hanc]; exact List.mem_cons_self, rfl, hfx, by show z.sh + k.n ≤ _; omega⟩
      · rw [if_neg hxb] at hlive ⊢
        obtain ⟨kx, hkx, hancx, hsx, hfxx, hlex⟩ := hapb x zx hxb hmx hlive (by omega)
        exact ⟨kx, hkx, by rw [hanc]; exact List.mem_cons_of_mem _ hancx, hsx, hfxx, by omega⟩
    · rw [if_neg hyn]
      rw [upd_ne m zn hyn] at hmy
      by_cases hy : y = b
      · rw [if_pos hy]
        by_cases hd : elder p k = .dead
        · rw [hd]; trivial
        · rw [(elder_live hd).2]; intro _ hc; cases hc
      · rw [if_neg hy]
        by_cases hxn : x = nx
        · subst hxn
          rw [if_pos rfl]
          rw [upd_at] at hmx; cases hmx
          exact hW.alone hb hst hy hmy hB.hm x zn _ hzb
        · rw [if_neg hxn] at hlive ⊢
          rw [upd_ne m zn hxn] at hmx
          by_cases hxb : x = b
          · subst hxb
            rw [hB.hm] at hmx; cases hmx
            exact hW.alone hb hst hy hmy hB.hm x z _ rfl
          · rw [if_neg hxb] at hlive ⊢
            exact hW.ap y x zy zx hx hmy hmx hlive
  · intro j hj hnot
    refine setRow_other w z.blk j cs' fun e => hnot ⟨b, z, hB.hm, e.symm, by rw [hb]; exact hro⟩
  · rintro j hj ⟨y, zy, hmy, hyj, hoy⟩
    rw [Tr.get_set] at hoy
    by_cases hyn : y = nx
    · subst hyn
      rw [upd_at] at hmy; cases hmy
      exact ⟨b, z, hB.hm, by omega, by rw [hb]; exact hro⟩
    · rw [if_neg hyn, Tr.get_set] at hoy
      rw [upd_ne m zn hyn] at hmy
      by_cases hy : y = b
      · rw [if_pos hy] at hoy; subst hy
        exact ⟨y, zy, hmy, hyj, by rw [hb]; exact hro⟩
      · rw [if_neg hy] at hoy; exact ⟨y, zy, hmy, hyj, hoy⟩
theorem byteA_ok (m : Mz) (b : UInt8) : VR m (byteA b) (.int .u8 b.toNat) := by
  have : byteA b = .int .u8 b.toNat := rfl
  rw [this]; exact .int _ _
theorem bytesA_eq (s : List UInt8) : bytesA s = s.map byteA := by
  induction s with
  | nil => rfl
  | cons b s ih => show byteA b :: bytesA s = _; rw [ih]; rfl
theorem bytes_vr (m : Mz) : ∀ s : List UInt8, VRL m (bytesA s) (s.map fun b => Value.int .u8 b.toNat)
  | [] => .nil
  | b :: s => .cons (byteA_ok m b) (bytes_vr m s)
theorem news_ok (hW : WR P m h nx w) {z n k : Nat} {x : AV} {l : List AV} (hn : newsA h z n x = some l) (hk : lenA x = some k) (hnk : n ≤ k) {y : Value} (hv : VR m x y) :
    ∃ us : List Value, us.length = n * z ∧ VRL m l us ∧ (∀ w' : World, w'.heap = w.heap → (Builtin.firstCells z n y).run P w' = .ok us.toArray w') ∧ ∀ (b oo n' c : Nat) (ex : Bool), x = .slice b oo n' c ex → ∀ zz, m b = some zz → ∀ (j : Nat) (u : Value), us[j]? = some u → w.cell? ⟨zz.blk, zz.sh + oo + j, none⟩ = some u := by
  cases n with
  | zero =>
    cases hn
    refine ⟨[], by simp, .nil, fun w' _ => ?_, fun _ _ _ _ _ _ _ _ j u hj => by simp at hj⟩
    cases hv <;> first | (cases hk; done) | simp [Builtin.firstCells, loadCells, loadCellsFrom]
  | succ n =>
    cases x with
    | slice b oo nn c ex =>
      have hn : loadN h b oo ((n + 1) * z) = some l := hn
      have hkn : nn = k := by cases hk; rfl
      obtain ⟨zz, us, hz, hlen, hvr, hc⟩ := loadN_ok hW hn
      obtain ⟨z2, hz2, hcase⟩ := hv.slice_inv
      rw [hz] at hz2; cases hz2
      rcases hcase with rfl | ⟨h0, _⟩
      · refine ⟨us, hlen, hvr, fun w' hh => ?_, fun b' oo' n' c' ex' he z' hz' j u hj => by cases he; rw [hz] at hz'; cases hz'; exact hc j u hj⟩
        refine run_firstCells_some w' z (n + 1) ⟨zz.blk, zz.sh + oo, none⟩ _ _ us hlen fun j v hj => ?_
        rw [addr_add]
        have := hc j v hj
        unfold World.cell? at this ⊢
        rw [hh]; exact this
      · omega
    | str s =>
      obtain ⟨hz1, hn⟩ := cond_some (show (bif Nat.beq z 1 then some (bytesA (s.take (n + 1))) else none) = some l from hn)
      cases hn
      have hz1 : z = 1 := Nat.eq_of_beq_eq_true hz1
      subst hz1
      have hks : lenL s = k := by cases hk; rfl
      rw [lenL_eq] at hks
      cases hv
      refine ⟨(s.take (n + 1)).map fun b => Value.int .u8 b.toNat, by simp; omega, bytes_vr m _, fun w' _ => ?_, fun b' oo' n' c' ex' he => by cases he⟩
      have e : (⟨s.toArray⟩ : ByteArray).extract 0 (n + 1) = ⟨(s.take (n + 1)).toArray⟩ := by rw [extract_toArray, List.drop_zero]
      simp only [Builtin.firstCells, e, Sem.run_pure]
      congr 1
      simp
    | _ => cases hn
theorem lenOf_ok {x : AV} {k : Nat} (hk : lenA x = some k) {y : Value} (hv : VR m x y) (w : World) : (Builtin.lenOf y).run P w = .ok k w := by
  cases hv <;> first | (cases hk; rfl) | (cases hk; done) | skip
  rename_i s
  have hks : lenL s = k := by cases hk; rfl
  rw [lenL_eq] at hks
  simp [Builtin.lenOf, ByteArray.size, hks]
theorem src_ok (hW : WR P m h nx w) {z n : Nat} {x : AV} {l : List AV} (hn : newsA h z n x = some l) (hk : lenA x = some n) {y : Value} (hv : VR m x y) (hone : l.all oneA = true) {tx : TypeId} (htx : ((P.underlying tx).map srcD).getD false = true) :
    ∃ us, VRL m l us ∧ Src P z tx y n us w := by
  obtain ⟨us, h1, h2, h3, _⟩ := news_ok (P := P) hW hn hk (Nat.le_refl _) hv
  refine ⟨us, h2, ?_, fun w' => lenOf_ok hk hv w', h3 w rfl, h3 w.drew rfl, h1, all_one hone h2⟩
  obtain ⟨d, hd, hs⟩ := map_some (getD_true htx)
  cases d <;> first | (cases hs; done) | skip
  · exact .inr hd
  · exact .inl ⟨_, hd⟩
theorem elemOk_ok {e : TypeId} {z : Nat} (hz : sizeT P e = some z) (he : elemOk P e z = true) : ∃ i zv, P.info? e = some i ∧ i.size = z ∧ i.zero = some zv ∧ zv.cells.size = z ∧ 0 < z ∧ i.bytes ≤ 65536 := by
  unfold elemOk at he
  simp only [Bool.and_eq_true] at he
  obtain ⟨⟨h1, h2⟩, h3⟩ := he
  obtain ⟨i, hi, hb⟩ := bytes_ok h1
  obtain ⟨i', hi', hzs⟩ := sizeT_some hz
  rw [hi] at hi'; cases hi'
  rw [blt_eq] at h2
  obtain ⟨v, hv, h3⟩ := map_some (getD_true h3)
  obtain ⟨i', zv, hi', hz0, hov, _⟩ := run_zero hv
  rw [hi] at hi'; cases hi'
  rw [lenL_eq] at h3
  have h3 : v.cells.length = z := Nat.eq_of_beq_eq_true h3
  have := (ofV_ok (fun _ => none) 10 zv v hov).cells.length
  exact ⟨i, zv, hi, hzs, hz0, by rw [← Array.length_toList, ← this, h3], of_decide_eq_true h2, hb⟩
theorem zeroCells_size (zero : Array Value) (n : Nat) : (Builtin.zeroCells zero n).size = n * zero.size := by simp [Builtin.zeroCells]
theorem grown_ok (hW : WR P m h nx w) {e : TypeId} {z n : Nat} {cs : List AV} {us : List Value} (hv : VRL m cs us) (hlen : us.length = n * z) (hz : sizeT P e = some z) {zero : Array Value} (hzs : zero.size = z) {cap : Nat} (hcap : n ≤ cap) :
    ∃ m', WR P m' (newCells h nx cs (n * z) e false) (nx + 1) (w.drew.alloc (.cells (us.toArray ++ Builtin.zeroCells zero (cap - n)) e)) ∧ VR m' (.slice nx 0 n n false) (.slice (some ⟨w.heap.size, 0, none⟩) n cap) ∧
      Evo m h w m' (newCells h nx cs (n * z) e false) (w.drew.alloc (.cells (us.toArray ++ Builtin.zeroCells zero (cap - n)) e)) := by
  have hWd : WR P m h nx w.drew := hW.drew rfl
  have hcl := hv.length
  have hnew := newBk_ok hWd hv (n := n * z) (by omega) (us.toArray ++ Builtin.zeroCells zero (cap - n)) (fun i u hi => by
    have hlt := (List.getElem?_eq_some_iff.1 hi).1
    rw [Array.getElem?_append_left (by simpa using hlt)]
    simpa using hi) e false (cap - n) (by rw [cellsOf_eq hz, Array.size_append, zeroCells_size, hzs, List.size_toArray]; omega) (fun hc => by cases hc) (0, 0) (fz_none _ _) (fun _ => rfl)
  refine ⟨_, hnew.1, ?_, (Evo.drew (h := h) (m := m) (w := w) (w' := w.drew) rfl rfl rfl rfl).trans hnew.2⟩
  have := VR.slice (m := upd m nx ⟨w.heap.size, 0, cap - n⟩) (b := nx) 0 n n false (upd_at m nx _)
  rw [show (if false = true then n else n + (⟨w.heap.size, 0, cap - n⟩ : Cz).ext) = cap by simp; omega] at this
  exact this
end
end Ex
end Go.Proofs.YtdngjkjoahgelaaGreatDoor

namespace Go.Proofs.YtdngjkjoahgelaaGreatDoor
set_option linter.all false
namespace Ex
open Go.RowKit
section
variable {P : Program} {m : Mz} {h : Hp} {nx : Nat} {w : World} {fr : Fm} {a : Act} {sz : Nat} {o : Oper} {r : Rs}
theorem run_append_none {t tx ty e : TypeId} {i : TypeInfo} (ht : P.underlying t = some (.slice e)) (hi : P.info? e = some i) {base : Option Addr} {sLen sCap : Nat} (hle : sLen ≤ sCap) {x : Value} {us : List Value} (hs : Src P i.size tx x 0 us w) :
    (Builtin.append_ #[t, tx] ty #[.slice base sLen sCap, x]).run P w = .ok (.slice base sLen sCap) w := by
  have hu : us = [] := List.eq_nil_of_length_eq_zero (by rw [hs.newsLen]; simp)
  subst hu
  have hc := hs.cells
  rcases hs.kind with ⟨e', hk⟩ | hk <;> cases base <;> simp [Builtin.append_, run_underlying ht, run_underlying hk, sizeOf, typeInfo, hi, hs.len, hle, hc, storeCells]
theorem run_append_room_st {t tx ty e : TypeId} {i : TypeInfo} (ht : P.underlying t = some (.slice e)) (hi : P.info? e = some i) {g off sLen sCap n : Nat} {x : Value} {us : List Value} (hs : Src P i.size tx x n us w) (hroom : sLen + n ≤ sCap)
    {w' : World} (hst : (storeCells ⟨g, off + sLen * i.size, none⟩ us).run P w = .ok () w') :
    (Builtin.append_ #[t, tx] ty #[.slice (some ⟨g, off, none⟩) sLen sCap, x]).run P w = .ok (.slice (some ⟨g, off, none⟩) (sLen + n) sCap) w' := by
  rcases hs.kind with ⟨e', hk⟩ | hk <;> simp [Builtin.append_, run_underlying ht, run_underlying hk, sizeOf, typeInfo, hi, hs.len, hroom, hs.cells, Addr.add_lit, hst]
theorem row_put {g oo : Nat} {cs : Array Value} {e : TypeId} {fz : Nat × Nat} (hg : w.heap[g]? = some (.cells cs e fz)) {us : List Value} (hfz : FzOk fz cs.size oo) (hl : oo + us.length ≤ cs.size) (h1 : ∀ u ∈ us, u.oneCell' = true) :
    ∃ cs' : Array Value, (storeCells ⟨g, oo, none⟩ us).run P w = .ok () (w.setRow g cs') ∧ cs'.size = cs.size ∧ ∀ i, cs'[i]? = if i < oo then cs[i]? else if i < oo + us.length then us[i - oo]? else cs[i]? := by
  have hrun := run_storeCells_z P g oo e fz us 0 cs w hg (fun j h1 h2 => hfz j (by omega) h2) (by omega) h1
  simp only [Nat.add_zero] at hrun
  refine ⟨_, hrun, by simp; omega, fun i => ?_⟩
  have hcl : cs.toList.length = cs.size := Array.length_toList
  rw [List.getElem?_toArray, seg_get cs.toList us oo i (by omega)]
  simp only [Array.getElem?_toList]
theorem newer_here {cs : List AV} {us : List Value} (hv : VRL m cs us) {rows : Array Value} {sh : Nat} (hrow : ∀ (i : Nat) (u : Value), us[i]? = some u → rows[sh + i]? = some u) (i : Nat) (hi : i < cs.length) :
    ∃ u, rows[sh + i]? = some u ∧ VR m ((treeOf un cs 0 .nil).get un i) u := by
  obtain ⟨v, hv1⟩ : ∃ v, cs[i]? = some v := ⟨_, List.getElem?_eq_getElem hi⟩
  obtain ⟨u, hu, hvu⟩ := hv.get i v hv1
  refine ⟨u, hrow i u hu, ?_⟩
  rw [treeOf_get, if_pos (Nat.zero_le _), Nat.sub_zero, hv1]
  exact hvu
theorem either_grow (hW : WR P m h nx w) {b : Nat} {k : Bk} (hb : h.get .dead b = .cells k) (hst : k.st = false) (hfx : k.fx = false) (p oo bnd : Nat) {e : TypeId} {z n : Nat} {cs : List AV} {us : List Value} (hv : VRL m cs us) (hlen : us.length = n * z) (hz : sizeT P e = some z)
    {zero : Array Value} (hzs : zero.size = z) {cap : Nat} (hcap : n ≤ cap) (w' : World) (hw' : w' = w.drew.alloc (.cells (us.toArray ++ Builtin.zeroCells zero (cap - n)) e)) :
    ∃ m', WR P m' (setBk (h.set .dead b (elder p k)) nx (newer e z n bnd oo b cs k)) (nx + 1) w' ∧ VR m' (.slice nx 0 n n false) (.slice (some ⟨w.heap.size, 0, none⟩) n cap) ∧
      Evo m h w m' (setBk (h.set .dead b (elder p k)) nx (newer e z n bnd oo b cs k)) w' := by
  subst hw'
  have hWd : WR P m h nx w.drew := hW.drew rfl
  obtain ⟨hE1, hE2⟩ := elder_ok hWd hb hst hfx p
  have hcl := hv.length
  have hle := upd_le (⟨w.heap.size, 0, cap - n⟩ : Cz) (hW.fresh nx (Nat.le_refl _))
  obtain ⟨h1, h2⟩ := hE1.alloc (.cells (us.toArray ++ Builtin.zeroCells zero (cap - n)) e) (.cells (newer e z n bnd oo b cs k)) ⟨w.heap.size, 0, cap - n⟩ rfl
    ⟨_, _, (0, 0), upd_at _ _ _, heap_alloc_new w.drew _, by
      show 0 + n * z + (cap - n) * P.cellsOf e ≤ _
      rw [cellsOf_eq hz, Array.size_append, zeroCells_size, hzs, List.size_toArray]; omega,
     fun i hi => newer_here (hv.mono hle) (fun i u hi => by
      have hlt := (List.getElem?_eq_some_iff.1 hi).1
      rw [Nat.zero_add, Array.getElem?_append_left (by simpa using hlt)]
      simpa using hi) i (by have hi : i < n * z := hi; omega), fun _ => fz_none _ _, (fun hc => by cases hc), (fun hc => by cases hc), (fun hc => by cases hc)⟩
  refine ⟨_, h1, ?_, ((Evo.drew (h := h) (m := m) (w := w) (w' := w.drew) rfl rfl rfl rfl).trans hE2).trans h2⟩
  have := VR.slice (m := upd m nx ⟨w.heap.size, 0, cap - n⟩) (b := nx) 0 n n false (upd_at m nx _)
  rw [show (if false = true then n else n + (⟨w.heap.size, 0, cap - n⟩ : Cz).ext) = cap by simp; omega] at this
  exact this
theorem either_room (hW : WR P m h nx w) {b : Nat} {k : Bk} {z0 : Cz} {cs0 : Array Value} {fz : Nat × Nat} (hb : h.get .dead b = .cells k) (hro : k.ro = false) (hst : k.st = false) (hfx : k.fx = false) (hB : BR P m w b k z0 cs0 fz)
    {z oo n n' c : Nat} (hz : sizeT P k.e = some z) (hoc : oo + c * z ≤ k.n) (hfzo : k.fz ≤ oo + n * z) (hbnd : k.bnd ≤ oo + n * z) (hn' : n' ≤ c + z0.ext) (hcn : c < n')
    {old news : List AV} {os us : List Value} (hvo : VRL m old os) (hvn : VRL m news us) (hol : os.length = n * z) (hul : n * z + us.length = n' * z) (hos : ∀ j u, os[j]? = some u → w.cell? ⟨z0.blk, z0.sh + oo + j, none⟩ = some u) (h1 : ∀ u ∈ us, u.oneCell' = true) :
    ∃ w' m', (storeCells ⟨z0.blk, z0.sh + oo + n * z, none⟩ us).run P w = .ok () w' ∧ WR P m' (setBk (h.set .dead b (elder (oo + n * z) k)) nx (newer k.e z n' (n * z) oo b (cat old news) k)) (nx + 1) w' ∧
      VR m' (.slice nx 0 n' n' false) (.slice (some ⟨z0.blk, z0.sh + oo, none⟩) n' (c + z0.ext)) ∧ Evo m h w m' (setBk (h.set .dead b (elder (oo + n * z) k)) nx (newer k.e z n' (n * z) oo b (cat old news) k)) w' := by
  have hsz := hB.sz
  rw [cellsOf_eq hz] at hsz
  have hcz : c * z + z0.ext * z = (c + z0.ext) * z := (Nat.add_mul _ _ _).symm
  have hnz : n' * z ≤ (c + z0.ext) * z := Nat.mul_le_mul_right _ hn'
  obtain ⟨cs', hrun, hsize, hget⟩ := row_put (P := P) hB.hp (us := us) (oo := z0.sh + oo + n * z) (fun j g1 g2 => hB.fr hst j (by omega) g2) (by omega) h1
  have hle := upd_le (⟨z0.blk, z0.sh + oo, c + z0.ext - n'⟩ : Cz) (hW.fresh nx (Nat.le_refl _))
  have hrow : ∀ (i : Nat) (u : Value), (os ++ us)[i]? = some u → cs'[z0.sh + oo + i]? = some u := fun i u hi => by
    rw [hget]
    by_cases h1 : i < n * z
    · rw [if_pos (by omega)]
      rw [List.getElem?_append_left (by omega)] at hi
      have := hos i u hi
      rw [hB.cell] at this; exact this
    · rw [if_neg (by omega)]
      rw [List.getElem?_append_right (by omega)] at hi
      have hlt := (List.getElem?_eq_some_iff.1 hi).1
      rw [if_pos (by omega), show z0.sh + oo + i - (z0.sh + oo + n * z) = i - os.length by omega]
      exact hi
  have hext : (c + z0.ext - n') * z = (c + z0.ext) * z - n' * z := Nat.sub_mul _ _ _
  have hlens : (old ++ news).length = n' * z := by
    have e1 := hvo.length; have e2 := hvn.length
    rw [List.length_append]; omega
  have hB' : BR P (upd m nx ⟨z0.blk, z0.sh + oo, c + z0.ext - n'⟩) (w.setRow z0.blk cs') nx (newer k.e z n' (n * z) oo b (cat old news) k) ⟨z0.blk, z0.sh + oo, c + z0.ext - n'⟩ cs' fz :=
    ⟨upd_at _ _ _, setRow_heap w z0.blk cs0 cs' k.e fz hB.hp, by
      show z0.sh + oo + n' * z + (c + z0.ext - n') * P.cellsOf k.e ≤ cs'.size
      rw [cellsOf_eq hz, hsize]; omega,
     fun i hi => by
      have hi : i < n' * z := hi
      have := newer_here (m := upd m nx ⟨z0.blk, z0.sh + oo, c + z0.ext - n'⟩) ((hvo.append hvn).mono hle) (rows := cs') (sh := z0.sh + oo) hrow i (by omega)
      show ∃ u, cs'[z0.sh + oo + i]? = some u ∧ VR _ ((treeOf un (cat old news) 0 .nil).get un i) u
      rw [cat_eq]; exact this,
     (fun _ j g1 g2 => hB.fr hst j (by have g1 : z0.sh + oo + (k.fz - oo) ≤ j := g1; omega) (by omega)), (fun hc => by cases hc), (fun hc => by cases hc), (fun hc => by cases hc)⟩
  obtain ⟨h3, h4⟩ := fork_ok hW hb hro hst hfx hB hsize (p := oo + n * z) (fun i hi => by rw [hget, if_pos (by omega)]) hbnd (kn := newer k.e z n' (n * z) oo b (cat old news) k) (zn := ⟨z0.blk, z0.sh + oo, c + z0.ext - n'⟩) rfl (by show _ ≤ z0.sh + oo + n * z; omega) rfl rfl hB'
  refine ⟨_, _, hrun, h3, ?_, h4⟩
  have := VR.slice (m := upd m nx ⟨z0.blk, z0.sh + oo, c + z0.ext - n'⟩) (b := nx) 0 n' n' false (upd_at m nx _)
  rw [show (if false = true then n' else n' + (⟨z0.blk, z0.sh + oo, c + z0.ext - n'⟩ : Cz).ext) = c + z0.ext by simp; omega] at this
  exact this
theorem cond_none {α : Type} {c : Bool} {x y : Option α} {v : α} (h : (bif c then x else y) = some v) : (c = true ∧ x = some v) ∨ (c = false ∧ y = some v) := by
  cases c with
  | true => exact .inl ⟨rfl, h⟩
  | false => exact .inr ⟨rfl, h⟩
theorem append_ok (hW : WR P m h nx w) {t u ty : TypeId} {s x : AV} {S X : Value} (hs : VR m s S) (hx : VR m x X) (hu : ((P.underlying u).map srcD).getD false = true) (hr : appendA P t s x h nx = some r) :
    ∃ v w' m', (Builtin.append_ #[t, u] ty #[S, X]).run P w = .ok v w' ∧ WR P m' r.h r.nx w' ∧ VR m' r.v v ∧ Evo m h w m' r.h w' := by
  obtain ⟨e, he, hr⟩ := bind_some hr
  obtain ⟨z, hz, hr⟩ := bind_some hr
  obtain ⟨n, hn, hr⟩ := bind_some hr
  obtain ⟨hc, hr⟩ := cond_some hr
  obtain ⟨hc1, hc2⟩ := Bool.and_eq_true_iff.1 hc
  have hn30 : n ≤ 1073741824 := Nat.le_of_ble_eq_true hc1
  obtain ⟨i, zv, hi, hzi, hz0, hzs, hzp, hb⟩ := elemOk_ok hz hc2
  obtain ⟨news, hnews, hr⟩ := bind_some hr
  obtain ⟨hone, hr⟩ := cond_some hr
  obtain ⟨f, hf, hr⟩ := bind_some hr
  obtain ⟨us, hvn, hsrc⟩ := src_ok hW hnews hn hx hone hu
  have ht := elemT_some he
  subst hzi
  have hul := hsrc.newsLen
  have fits : ∀ need old, old < need → need ≤ 1073741824 → Builtin.nextslicecap need old * i.bytes ≤ 281474976710656 := fun need old h1 h2 => growslice_fits h1 (by
    have : need * i.bytes ≤ 1073741824 * 65536 := Nat.mul_le_mul h2 hb
    omega)
  cases s with
  | nils =>
    cases hf
    cases hs
    rcases cond_none hr with ⟨h0, hr⟩ | ⟨h0, hr⟩
    · have h0 : n = 0 := Nat.eq_of_beq_eq_true h0
      subst h0
      cases hr
      exact ⟨_, w, m, run_append_none ht hi (Nat.le_refl _) hsrc, hW, .nils, Evo.refl m h w⟩
    · cases hr
      have h0 : n ≠ 0 := fun e => by rw [e] at h0; cases h0
      have hrun := run_append_grow_src (P := P) w t u ty e i zv ht hi hz0 none 0 0 [] (run_firstCells_none _ _ _ _ _) X n us hsrc (by omega) (by omega) (fits _ _ (by omega) (by omega))
      obtain ⟨m', g1, g2, g3⟩ := grown_ok hW hvn hul hz (zero := zv.cells) hzs (cap := grownCap w n 0 e) (grownCap_ge w n 0 e)
      simp only [Nat.zero_add, List.nil_append] at hrun
      exact ⟨_, _, m', hrun, g1, g2, g3⟩
  | slice b oo ln c ex =>
    obtain ⟨h30, hf⟩ := cond_some (show (bif Nat.ble (ln + n) 1073741824 then some (appSl e i.size n ⟨b, oo, ln, c, ex⟩ h nx) else none) = some f from hf)
    cases hf
    have h30 : ln + n ≤ 1073741824 := Nat.le_of_ble_eq_true h30
    obtain ⟨zz, hzz, hcase⟩ := hs.slice_inv
    rcases cond_none hr with ⟨h0, hr⟩ | ⟨h0, hr⟩
    · have h0 : ln + n ≤ c := Nat.le_of_ble_eq_true h0
      rcases cond_none hr with ⟨h1, hr⟩ | ⟨h1, hr⟩
      · have h1 : n = 0 := Nat.eq_of_beq_eq_true h1
        subst h1
        cases hr
        rcases hcase with rfl | ⟨g1, g2, g3, A, rfl⟩
        · exact ⟨_, w, m, run_append_none ht hi (by split <;> omega) hsrc, hW, hs, Evo.refl m h w⟩
        · subst g1 g2 g3
          exact ⟨_, w, m, run_append_none ht hi (Nat.le_refl _) hsrc, hW, hs, Evo.refl m h w⟩
      · have h1 : n ≠ 0 := fun e => by rw [e] at h1; cases h1
        obtain ⟨h', hst, rfl⟩ := map_some hr
        obtain ⟨z2, w', hz2, hrun, hW', hE⟩ := storeN_ok hW hst hvn
        rw [hzz] at hz2; cases hz2
        rcases hcase with rfl | ⟨g1, g2, g3, A, rfl⟩
        · rw [← Nat.add_assoc] at hrun
          exact ⟨_, w', m, run_append_room_st ht hi hsrc (by split <;> omega) hrun, hW', .slice _ _ _ _ hzz, hE⟩
        · omega
    · have h0 : ¬ ln + n ≤ c := fun hh => by rw [Nat.ble_eq_true_of_le hh] at h0; cases h0
      obtain ⟨old, hold, hr⟩ := bind_some hr
      obtain ⟨k, hk, hr⟩ := bind_some hr
      obtain ⟨os, hol, hvo, hfo, hco⟩ := news_ok (P := P) hW hold (show lenA (.slice b oo ln c ex) = some ln from rfl) (Nat.le_refl _) hs
      have hall := hvo.append hvn
      have hal : (os ++ us).length = (ln + n) * i.size := by rw [List.length_append, Nat.add_mul, hol, hul]
      obtain ⟨A, C, hS, hfo'⟩ : ∃ A C, S = .slice A ln C ∧ c ≤ C := by
        rcases hcase with rfl | ⟨g1, g2, g3, A, rfl⟩
        · exact ⟨_, _, rfl, by split <;> omega⟩
        · subst g1 g2; exact ⟨_, _, rfl, Nat.le_refl _⟩
      have grow : C < ln + n → (Builtin.append_ #[t, u] ty #[S, X]).run P w = .ok (.slice (some ⟨w.heap.size, 0, none⟩) (ln + n) (grownCap w (ln + n) C e)) (w.drew.alloc (.cells ((os ++ us).toArray ++ Builtin.zeroCells zv.cells (grownCap w (ln + n) C e - (ln + n))) e)) := fun hC => by
        rw [hS]
        exact run_append_grow_src (P := P) w t u ty e i zv ht hi hz0 A ln C os (by rw [← hS]; exact hfo w.drew rfl) X n us hsrc hC (by omega) (fits _ _ hC h30)
      rcases cond_none (show (bif ex || k.fx then some (grown e i.size (ln + n) (cat old news) h nx) else eitherBk e i.size ⟨b, oo, ln, c, ex⟩ (ln + n) (cat old news) h nx k) = some r from hr) with ⟨h2, hr⟩ | ⟨h2, hr⟩
      · cases hr
        obtain ⟨zb, csb, fzb, hB⟩ := hW.bk hk
        have hm := hB.hm
        rw [hzz] at hm; cases hm
        have hC : C = c := by
          rcases hcase with hh | ⟨g1, g2, g3, A', hh⟩
          · rw [hh] at hS; injection hS with _ _ hS
            rcases Bool.or_eq_true_iff.1 h2 with h2 | h2
            · rw [h2] at hS; exact hS.symm
            · have := hB.fx h2; rw [this] at hS; rw [← hS]; split <;> omega
          · rw [hh] at hS; injection hS with _ _ hS; omega
        obtain ⟨m', g1, g2, g3⟩ := grown_ok hW hall hal hz (zero := zv.cells) hzs (grownCap_ge w (ln + n) C e)
        refine ⟨_, _, m', grow (by omega), ?_, g2, ?_⟩
        · show WR P m' (newCells h nx (cat old news) _ e false) _ _; rw [cat_eq]; exact g1
        · show Evo _ _ _ m' (newCells h nx (cat old news) _ e false) _; rw [cat_eq]; exact g3
      · obtain ⟨hex, hfx⟩ := Bool.or_eq_false_iff.1 h2
        obtain ⟨hok, hr⟩ := cond_some hr
        cases hr
        unfold eitherOk at hok
        simp only [Bool.and_eq_true, Bool.not_eq_true'] at hok
        obtain ⟨⟨⟨⟨⟨q1, q2⟩, q3⟩, q4⟩, q5⟩, q6⟩ := hok
        have q3 : k.e = e := Nat.eq_of_beq_eq_true q3
        have q4 : oo + c * i.size ≤ k.n := Nat.le_of_ble_eq_true q4
        have q5 : k.fz ≤ oo + ln * i.size := Nat.le_of_ble_eq_true q5
        have q6 : k.bnd ≤ oo + ln * i.size := Nat.le_of_ble_eq_true q6
        subst q3
        by_cases hC : C < ln + n
        · obtain ⟨m', g1, g2, g3⟩ := either_grow hW (getBk_some hk) q2 hfx (oo + ln * i.size) oo (ln * i.size) hall hal hz (zero := zv.cells) hzs (grownCap_ge w (ln + n) C k.e) _ rfl
          refine ⟨_, _, m', grow hC, ?_, g2, ?_⟩
          · show WR P m' (setBk (h.set .dead b (elder (oo + ln * i.size) k)) nx (newer k.e i.size (ln + n) (ln * i.size) oo b (cat old news) k)) _ _; rw [cat_eq]; exact g1
          · show Evo _ _ _ m' (setBk (h.set .dead b (elder (oo + ln * i.size) k)) nx (newer k.e i.size (ln + n) (ln * i.size) oo b (cat old news) k)) _; rw [cat_eq]; exact g3
        · obtain ⟨zb, csb, fzb, hB⟩ := hW.bk hk
          have hm := hB.hm
          rw [hzz] at hm; cases hm
          rcases hcase with hh | ⟨g1, g2, g3, A', hh⟩
          · have hCe : C = c + zz.ext := by
              rw [hh] at hS; injection hS with _ _ hS; rw [hex] at hS; exact hS.symm
            obtain ⟨w', m', g1, g2, g3, g4⟩ := either_room hW (getBk_some hk) q1 q2 hfx hB hz q4 q5 q6 (n' := ln + n) (by omega) (by omega) hvo hvn hol (by rw [hul, Nat.add_mul]) (fun j u hj => hco b oo ln c ex rfl zz hzz j u hj) hsrc.one
            refine ⟨_, w', m', ?_, g2, g3, g4⟩
            rw [hh, hex]
            exact run_append_room_st ht hi hsrc (by simp; omega) g1
          · rw [hh] at hS; injection hS with _ _ hS; omega
  | _ => cases hf
end
end Ex
end Go.Proofs.YtdngjkjoahgelaaGreatDoor

namespace Go.Proofs.YtdngjkjoahgelaaGreatDoor
set_option linter.all false
namespace Ex
open Go.RowKit
section
variable {P : Program} {m : Mz} {h : Hp} {nx : Nat} {w : World} {fr : Fm} {a : Act} {sz : Nat} {o : Oper} {r : Rs}
def DidV (P : Program) (m : Mz) (h : Hp) (w : World) (S : Sem Value) (r : Rs) : Prop := ∃ v w' m', S.run P w = .ok v w' ∧ WR P m' r.h r.nx w' ∧ VR m' r.v v ∧ Evo m h w m' r.h w'
theorem didV_pure (hW : WR P m h nx w) {S : Sem Value} {v : AV} {u : Value} (hrun : S.run P w = .ok u w) (hv : VR m v u) : DidV P m h w S ⟨v, h, nx⟩ := ⟨u, w, m, hrun, hW, hv, Evo.refl m h w⟩
theorem int_vr (m : Mz) (n : Nat) : VR m (.int .i64 (.ofNat n)) (goInt n) := .int _ _
theorem lenD_A {x : AV} {n : Nat} (hl : lenD x = some n) : lenA x = some n := by
  cases x <;> first | (cases hl; rfl) | cases hl
theorem lenD_ok {x : AV} {n : Nat} (hl : lenD x = some n) {X : Value} (hv : VR m x X) : ∃ A C, X = .slice A n C := by
  cases hv <;> first | (cases hl; done) | skip
  · cases hl; exact ⟨_, _, rfl⟩
  · cases hl; exact ⟨_, _, rfl⟩
  · cases hl; exact ⟨_, _, rfl⟩
theorem copy_ok (hW : WR P m h nx w) {ts : Array TypeId} {t ty : TypeId} (hts : ts[0]? = some t) {d s : AV} {D S : Value} (hd : VR m d D) (hs : VR m s S) (hr : copyA P t d s h nx = some r) : DidV P m h w (Builtin.copy_ ts ty #[D, S]) r := by
  obtain ⟨e, he, hr⟩ := bind_some hr
  obtain ⟨z, hz, hr⟩ := bind_some hr
  obtain ⟨x, hx, hr⟩ := bind_some hr
  obtain ⟨y, hy, hr⟩ := bind_some hr
  have ht := elemT_some he
  have hlen := lenOf_ok (P := P) hx hs
  obtain ⟨A, C, rfl⟩ := lenD_ok hy hd
  obtain ⟨k, hk⟩ : ∃ k, Nat.min x y = k := ⟨_, rfl⟩
  have hk' : min x y = k := hk
  rw [hk] at hr
  have hzz := fun w => run_sizeOf (P := P) hz w
  rcases cond_none hr with ⟨h0, hr⟩ | ⟨h0, hr⟩
  · have h0 : k = 0 := Nat.eq_of_beq_eq_true h0
    subst h0
    cases hr
    obtain ⟨us, h1, h2, h3, _⟩ := news_ok (P := P) (n := 0) (z := z) hW rfl hx (Nat.zero_le _) hs
    have hu : us = [] := List.eq_nil_of_length_eq_zero (by rw [h1]; simp)
    subst hu
    have h3 := h3 w rfl
    refine didV_pure hW ?_ (int_vr m 0)
    cases A <;> simp [Builtin.copy_, hts, run_underlying ht, hlen, hzz, hk', h3, storeCells]
  · have h0 : k ≠ 0 := fun e => by rw [e] at h0; cases h0
    obtain ⟨news, hn, hr⟩ := bind_some hr
    obtain ⟨us, h1, h2, h3, _⟩ := news_ok (P := P) hW hn hx (by rw [← hk]; exact Nat.min_le_left _ _) hs
    obtain ⟨sl, hsl, hr⟩ := bind_some hr
    obtain ⟨h', hst, rfl⟩ := map_some hr
    obtain ⟨b, oo, n, c, ex, rfl, rfl⟩ := asSl_some hsl
    obtain ⟨zz, w', hzz2, hrun, hW', hE⟩ := storeN_ok hW hst h2
    obtain ⟨z2, hz2, hcase⟩ := hd.slice_inv
    rw [hzz2] at hz2; cases hz2
    rcases hcase with hh | ⟨g1, _⟩
    · injection hh with hA _ _
      subst hA
      have h3 := h3 w rfl
      refine ⟨goInt k, w', m, ?_, hW', int_vr m k, hE⟩
      simp [Builtin.copy_, hts, run_underlying ht, hlen, hzz, hk', h3, hrun]
    · exfalso
      have : y = n := by cases hy; rfl
      have := Nat.min_le_right x y
      have e : x.min y = min x y := rfl
      omega
theorem getObj_run {b : Nat} {es : Array MapEntry} {cl : Nat} (hb : w.heap[b]? = some (.map es cl)) : (getObj b).run P w = .ok (.map es cl) w := by simp [getObj, Sem.run, hb]
theorem getMp_some {b : Nat} {mp : Mp} (hb : getMp h b = some mp) : h.get .dead b = .map mp.es mp.cl := by
  unfold getMp mpO at hb
  cases hx : h.get .dead b with
  | map es cl => rw [hx] at hb; cases hb; rfl
  | _ => rw [hx] at hb; cases hb
theorem ER.length {es : List Ent} {es' : List MapEntry} (he : ER m es es') : es.length = es'.length := by
  induction he with
  | nil => rfl
  | cons _ _ _ ih => simp [ih]
theorem WR.mp (hW : WR P m h nx w) {b : Nat} {mp : Mp} (hb : getMp h b = some mp) : ∃ (z : Cz) (es' : Array MapEntry), m b = some z ∧ w.heap[z.blk]? = some (.map es' mp.cl) ∧ ER m mp.es es'.toList := by
  have := hW.rel b
  rw [getMp_some hb] at this
  exact this
theorem VR.map_inv {b : Nat} {u : Value} (hv : VR m (.mapv b) u) : ∃ z, m b = some z ∧ u = .map (some z.blk) := by cases hv with | mapv hz => exact ⟨_, hz, rfl⟩
theorem setObj_map {b : Nat} {es : Array MapEntry} {cl : Nat} (ob : Obj) (hb : w.heap[b]? = some (.map es cl)) : (setObj b ob).run P w = .ok () { w with heap := w.heap.setIfInBounds b ob } := by simp [setObj, Sem.run, hb]
theorem len_ok (hW : WR P m h nx w) {ts : Array TypeId} {t ty : TypeId} (hts : ts[0]? = some t) {x : AV} {X : Value} (hx : VR m x X) {n : Nat} (hr : lenB P t x h = some n) : (Builtin.len_ ts ty #[X]).run P w = .ok (goInt n) w := by
  obtain ⟨u, hu, hr⟩ := bind_some hr
  cases u with
  | string =>
    have hr : strN x = some n := hr
    cases x with
    | str s =>
      cases hr
      cases hx
      have hsz : (⟨s.toArray⟩ : ByteArray).size = s.length := by simp [ByteArray.size]
      rw [lenL_eq]
      simp [Builtin.len_, hts, run_underlying hu, hsz]
    | rep b k =>
      cases hr
      cases hx
      have hsz : (⟨Array.replicate n b⟩ : ByteArray).size = n := by simp [ByteArray.size]
      simp [Builtin.len_, hts, run_underlying hu, hsz]
    | _ => cases hr
  | array k e => cases hr; simp [Builtin.len_, hts, run_underlying hu]
  | pointer e =>
    obtain ⟨ar, har, rfl⟩ := map_some (show ((P.underlying e).bind arrD).map (·.n) = some n from hr)
    obtain ⟨ut, hut, har⟩ := bind_some har
    have har := arrD_some har
    subst har
    simp [Builtin.len_, hts, run_underlying hu, run_underlying hut]
  | slice e =>
    cases hx <;> first | (cases hr; done) | (cases hr; simp [Builtin.len_, hts, run_underlying hu])
  | map k e =>
    obtain ⟨es, hes, rfl⟩ := map_some (show (mpA h x).map lenL = some n from hr)
    cases x with
    | mapv b =>
      obtain ⟨mp, hmp, rfl⟩ := map_some (show (getMp h b).map (·.es) = some es from hes)
      obtain ⟨z, es', h1, h2, h3⟩ := hW.mp hmp
      obtain ⟨z', hz', rfl⟩ := hx.map_inv
      rw [hz'] at h1; cases h1
      have := h3.length
      simp [Builtin.len_, hts, run_underlying hu, getObj_run h2, lenL_eq, this]
    | nilm => cases hes; cases hx; simp [Builtin.len_, hts, run_underlying hu, lenL]
    | _ => cases hes
  | _ => cases hr
theorem cap_ok (hW : WR P m h nx w) {ts : Array TypeId} {t ty : TypeId} (hts : ts[0]? = some t) {x : AV} {X : Value} (hx : VR m x X) {n : Nat} (hr : capB P t x h = some n) : (Builtin.cap_ ts ty #[X]).run P w = .ok (goInt n) w := by
  obtain ⟨u, hu, hr⟩ := bind_some hr
  cases u with
  | array k e => cases hr; simp [Builtin.cap_, hts, run_underlying hu]
  | slice e =>
    cases x with
    | nils => cases hr; cases hx; simp [Builtin.cap_, hts, run_underlying hu]
    | slice b oo ln c ex =>
      obtain ⟨hc, hr⟩ := cond_some (show (bif ex || ((getBk h b).map (·.fx)).getD false then some c else none) = some n from hr)
      obtain rfl : c = n := Option.some.inj hr
      obtain ⟨z, hz, hcase⟩ := hx.slice_inv
      have main : ∃ A, X = .slice A ln c := by
        rcases hcase with rfl | ⟨g1, g2, g3, A, rfl⟩
        · rcases Bool.or_eq_true_iff.1 hc with hc | hc
          · rw [hc]; exact ⟨_, rfl⟩
          · obtain ⟨k, hk, hfx⟩ := map_some (getD_true hc)
            obtain ⟨z', cs, fz, hB⟩ := hW.bk hk
            have := hB.hm; rw [hz] at this; cases this
            rw [hB.fx hfx]
            exact ⟨_, by split <;> rfl⟩
        · subst g1 g2; exact ⟨_, rfl⟩
      obtain ⟨A, rfl⟩ := main
      simp [Builtin.cap_, hts, run_underlying hu]
    | _ => cases hr
  | _ => cases hr
def boxed (o : AO) : Bool := match o with
  | .cells _ => false
  | .dead => false
  | _ => true
def notCells (o : AO) : Bool := match o with | .cells _ => false | _ => true
theorem Apart.ne {o : AO} (ho : boxed o = true) {b x : Nat} {z zx : Cz} {ox : AO} (h : Apart o b x z zx ox) : zx.blk ≠ z.blk := by
  cases o <;> first | (cases ho; done) | exact h
theorem WR.obj {w' : World} (hW : WR P m h nx w) {b : Nat} {z : Cz} (hb : boxed (h.get .dead b) = true) (hz : m b = some z) (hw2 : ∀ j, j ≠ z.blk → w'.heap[j]? = w.heap[j]?) (hsz : w'.heap.size = w.heap.size)
    (hos : w'.os = w.os) (ht : w'.tape = w.tape) (hp : w'.output = w.output) {ao' : AO} (hao : notCells ao' = true) (hr : OR P m w' b ao') : WR P m (h.set .dead b ao') nx w' ∧ Evo m h w m (h.set .dead b ao') w' := by
  have hapb : ∀ x zx, x ≠ b → m x = some zx → h.get .dead x ≠ .dead → zx.blk ≠ z.blk := fun x zx hx hmx hd => Apart.ne hb (hW.ap b x z zx hx hz hmx hd)
  refine ⟨⟨hW.gl, hW.fresh, fun y => ?_, ?_⟩, Le.refl m, hos, ht, hp, by rw [hsz]; exact Nat.le_refl _, ?_, ?_⟩
  · rw [Tr.get_set]
    by_cases hy : y = b
    · rw [if_pos hy]; subst hy; exact hr
    · rw [if_neg hy]
      refine (hW.rel y).mono (Le.refl m) fun zy hmy hd => hw2 _ (hapb y zy hy hmy hd)
  · intro y x zy zx hx hmy hmx hlive
    rw [Tr.get_set] at hlive
    rw [Tr.get_set, Tr.get_set]
    by_cases hy : y = b
    · rw [if_pos hy]; subst hy
      rw [if_neg hx] at hlive
      rw [hz] at hmy; cases hmy
      exact Apart.symm_none (hapb x zx hx hmx hlive)
    · rw [if_neg hy]
      by_cases hxb : x = b
      · subst hxb
        rw [hz] at hmx; cases hmx
        by_cases hdy : h.get .dead y = .dead
        · rw [hdy]; trivial
        · have := hapb y zy hy hmy hdy
          exact Apart.symm_none (by omega)
      · rw [if_neg hxb] at hlive ⊢
        exact hW.ap y x zy zx hx hmy hmx hlive
  · intro j hj hn
    refine hw2 j fun e => hn ⟨b, z, hz, e.symm, ?_⟩
    revert hb; cases h.get .dead b <;> intro hb <;> first | trivial | cases hb
  · rintro j hj ⟨y, zy, hmy, hyj, hoy⟩
    rw [Tr.get_set] at hoy
    by_cases hy : y = b
    · subst hy
      refine ⟨y, zy, hmy, hyj, ?_⟩
      revert hb; cases h.get .dead y <;> intro hb <;> first | trivial | cases hb
    · rw [if_neg hy] at hoy; exact ⟨y, zy, hmy, hyj, hoy⟩
theorem set_other (w : World) (g j : Nat) (ob : Obj) (h : j ≠ g) : ({ w with heap := w.heap.setIfInBounds g ob } : World).heap[j]? = w.heap[j]? := by
  simp [Array.getElem?_setIfInBounds, Ne.symm h]
theorem set_at {w : World} {g : Nat} {old : Obj} (ob : Obj) (h : w.heap[g]? = some old) : ({ w with heap := w.heap.setIfInBounds g ob } : World).heap[g]? = some ob := by
  have hlt := (Array.getElem?_eq_some_iff.1 h).1
  simp [Array.getElem?_setIfInBounds, hlt]
theorem map_turn (hW : WR P m h nx w) {b : Nat} {mp : Mp} (hb : getMp h b = some mp) {es2 : List Ent} {cl2 : Nat} {z : Cz} (hz : m b = some z) {old : Array MapEntry} (ho : w.heap[z.blk]? = some (.map old mp.cl)) {new : Array MapEntry} (he : ER m es2 new.toList) :
    WR P m (setMp h b es2 cl2) nx { w with heap := w.heap.setIfInBounds z.blk (.map new cl2) } ∧ Evo m h w m (setMp h b es2 cl2) { w with heap := w.heap.setIfInBounds z.blk (.map new cl2) } := by
  refine hW.obj (by rw [getMp_some hb]; rfl) hz (fun j hj => set_other w _ j _ hj) (by simp) rfl rfl rfl rfl ⟨z, new, hz, set_at _ ho, he⟩
theorem elemD_some {u : TypeDesc} {e : TypeId} (h : elemD u = some e) : u = .slice e := by
  cases u <;> first | (cases h; rfl) | cases h
theorem rowN_ok {el : TypeId} {n z : Nat} {l : List AV} (hz : rowZ P el n z = some l) (h0 : n * z ≠ 0) (m : Mz) : ∃ zv : Value, (∀ w, (zeroValue el).run P w = .ok zv w) ∧ zv.cells.size = z ∧ VRL m l (Builtin.zeroCells zv.cells n).toList := by
  have hz' := hz
  unfold rowZ at hz'
  have hb : Nat.beq (n * z) 0 = false := by rw [beq_eq]; exact decide_eq_false h0
  rw [hb] at hz'
  obtain ⟨v, hv, hz'⟩ := bind_some (show (zeroT P el).bind (rowV n z) = some l from hz')
  obtain ⟨hl, _⟩ := cond_some hz'
  rw [lenL_eq] at hl
  have hl : v.cells.length = z := Nat.eq_of_beq_eq_true hl
  obtain ⟨i, u, hi, hz0, hov, hrun⟩ := run_zero hv
  have hus : u.cells.size = z := by rw [← Array.length_toList, ← (ofV_ok m 10 u v hov).cells.length, hl]
  refine ⟨u, hrun, hus, ?_⟩
  obtain ⟨w⟩ : Nonempty World := ⟨default⟩
  obtain ⟨_, zero, hzr, hvr⟩ := rowZ_ok hz m w
  simp only [h0, if_false, Sem.run_bind, hrun, Result.andThen_ok, Sem.run_pure] at hzr
  cases hzr
  unfold Builtin.zeroCells
  rw [hus] at hvr ⊢
  exact hvr
theorem clear_ok (hW : WR P m h nx w) {ts : Array TypeId} {t ty : TypeId} (hts : ts[0]? = some t) {x : AV} {X : Value} (hx : VR m x X) (hr : (P.underlying t).bind (clrU P x h nx) = some r) : DidV P m h w (Builtin.clear_ ts ty #[X]) r := by
  obtain ⟨u, hu, hr⟩ := bind_some hr
  cases x with
  | nilm =>
    cases hr; cases hx
    exact didV_pure hW (u := .tuple #[]) (by simp [Builtin.clear_, hts, run_underlying hu]) (un_undef m)
  | nils =>
    cases hr; cases hx
    exact didV_pure hW (u := .tuple #[]) (by simp [Builtin.clear_, hts, run_underlying hu]) (un_undef m)
  | mapv b =>
    obtain ⟨mp, hmp, rfl⟩ := map_some (show (getMp h b).map (clrMp h nx b) = some r from hr)
    obtain ⟨z, es', h1, h2, h3⟩ := hW.mp hmp
    cases hx
    rename_i z' hz'
    rw [hz'] at h1; cases h1
    obtain ⟨g1, g2⟩ := map_turn (es2 := []) (cl2 := mp.cl) hW hmp hz' h2 (new := #[]) .nil
    refine ⟨.tuple #[], _, m, ?_, g1, un_undef m, g2⟩
    cases u <;> simp [Builtin.clear_, hts, run_underlying hu, getObj_run h2, setObj_map _ h2]
  | slice b oo n c ex =>
    obtain ⟨z0, hz0, hcase⟩ := hx.slice_inv
    rcases cond_none (show (bif Nat.beq n 0 then some ⟨un, h, nx⟩ else (elemD u).bind fun e => (sizeT P e).bind (clrSl P h nx ⟨b, oo, n, c, ex⟩ e)) = some r from hr) with ⟨h0, hr⟩ | ⟨h0, hr⟩
    · have h0 : n = 0 := Nat.eq_of_beq_eq_true h0
      subst h0
      cases hr
      obtain ⟨A, C, rfl⟩ : ∃ A C, X = .slice A 0 C := by
        rcases hcase with rfl | ⟨g1, g2, g3, A, rfl⟩
        · exact ⟨_, _, rfl⟩
        · exact ⟨_, _, rfl⟩
      exact didV_pure hW (u := .tuple #[]) (by cases A <;> simp [Builtin.clear_, hts, run_underlying hu]) (un_undef m)
    · have h0 : n ≠ 0 := fun e => by rw [e] at h0; cases h0
      obtain ⟨e, he, hr⟩ := bind_some hr
      obtain ⟨z, hz, hr⟩ := bind_some hr
      obtain ⟨hzp, hr⟩ := cond_some hr
      rw [blt_eq] at hzp
      have hzp : 0 < z := of_decide_eq_true hzp
      obtain ⟨l, hl, hr⟩ := bind_some hr
      obtain ⟨h', hst, rfl⟩ := map_some hr
      rcases hcase with rfl | ⟨g1, g2, g3, A, rfl⟩
      · have hnz : n * z ≠ 0 := Nat.mul_ne_zero h0 (by omega)
        obtain ⟨zv, hzrun, hzs, hvr⟩ := rowN_ok hl hnz m
        obtain ⟨zz, w', hzz2, hrun, hW', hE⟩ := storeN_ok hW hst hvr
        rw [hz0] at hzz2; cases hzz2
        refine ⟨.tuple #[], w', m, ?_, hW', un_undef m, hE⟩
        have hue := elemD_some he
        subst hue
        simp [Builtin.clear_, hts, run_underlying hu, hzrun w, hrun]
      · exact absurd g1 h0
  | _ => cases hr
end
end Ex
end Go.Proofs.YtdngjkjoahgelaaGreatDoor
