/-
  The executor: conversions, texts out of bytes. The executor: maps. The executor: assertions, the builtins at an operation; every operation that is no call.
-/
import Derived.Test.YtdngjkjoahgelaaGreatDoorExXD
import Derived.Lib.Builder
import Derived.Lib.UnsafeStr
import Derived.Laws.IdiomStrings
import Derived.Laws.BytesArg
import Derived.MapKept
import Derived.Laws.StructEq
namespace Go.Proofs.YtdngjkjoahgelaaGreatDoor
set_option linter.all false
namespace Ex
open Go.RowKit
section
variable {P : Program} {m : Mz} {h : Hp} {nx : Nat} {w : World} {fr : Fm} {a : Act} {sz : Nat} {o : Oper} {r : Rs}
theorem byteOf_some {v : AV} {b : UInt8} (hb : byteOf v = some b) {u : Value} (hv : VR m v u) : u = .int .u8 (b.toNat : Int) := by
  cases v with
  | int k z =>
    obtain ⟨n, hn, hb⟩ := bind_some (show (natZ z).bind (byteN k) = some b from hb)
    obtain ⟨hk, hb⟩ := cond_some hb
    obtain ⟨hk1, hk2⟩ := Bool.and_eq_true_iff.1 hk
    cases hb
    have hz : z = .ofNat n := by cases z <;> first | (cases hn; rfl) | cases hn
    have hk1 : k = .u8 := of_decide_eq_true hk1
    rw [blt_eq] at hk2
    have hk2 : n < 256 := of_decide_eq_true hk2
    subst hz hk1
    rw [hv.int_inv]
    congr 1
    have : (UInt8.ofNat n).toNat = n := by simp; omega
    rw [this]; rfl
  | _ => cases hb
theorem bytesOf_ok : ∀ {l : List AV} {bs : List UInt8}, bytesOf l = some bs → ∀ {us : List Value}, VRL m l us → us = bs.map fun b => Value.int .u8 (b.toNat : Int)
  | [], bs, hb, us, hv => by cases hb; cases hv; rfl
  | v :: l, bs, hb, us, hv => by
    obtain ⟨y, ys, h1, h2, rfl⟩ := consO_some (show consO (byteOf v) (bytesOf l) = some bs from hb)
    cases hv with
    | cons hv hl => rw [byteOf_some h1 hv, bytesOf_ok h2 hl]; rfl
theorem bytesOf_rep {v : AV} {c : UInt8} (hc : byteOf v = some c) : ∀ (n o : Nat), bytesOf (listOf v .nil n o) = some (List.replicate n c) := fun n o => by
  have h1 : listOf v .nil n o = List.replicate n v := by
    refine List.ext_getElem? fun i => ?_
    by_cases hi : i < n
    · rw [listOf_get _ _ _ _ _ hi, List.getElem?_replicate, if_pos hi]; rfl
    · rw [List.getElem?_eq_none (by rw [listOf_len]; omega), List.getElem?_eq_none (by simp; omega)]
  rw [h1]
  clear h1
  induction n with
  | zero => rfl
  | succ n ih =>
    show consO (byteOf v) (bytesOf (List.replicate n v)) = _
    rw [hc, ih]; rfl
theorem isU8_some {e : TypeId} (he : isU8 P e = true) : P.underlying e = some (.int .u8) := by
  obtain ⟨u, hu, hk⟩ := map_some (getD_true he)
  have : u = .int .u8 := by
    unfold isU8D at hk
    split at hk
    · rfl
    · cases hk
  rw [hu, this]
theorem one_some {e : TypeId} (he : ((sizeT P e).map (Nat.beq 1)).getD false = true) : sizeT P e = some 1 := by
  obtain ⟨n, hn, h1⟩ := map_some (getD_true he)
  have : 1 = n := Nat.eq_of_beq_eq_true h1
  rw [hn, this]
theorem run_bytesToString_us {bs : List UInt8} {y : Value} {n : Nat} (hlen : bs.length = n) (hf : ∃ A C, y = .slice A n C) (hr : (Builtin.firstCells 1 n y).run P w = .ok (bs.map fun b => Value.int .u8 (b.toNat : Int)).toArray w) :
    (Conv.bytesToString y).run P w = .ok (.string ⟨bs.toArray⟩) w := by
  obtain ⟨A, C, rfl⟩ := hf
  cases A with
  | none =>
    simp only [Builtin.firstCells, Sem.run_pure] at hr
    have hb : bs = [] := by
      injection hr with hr _
      have := congrArg Array.size hr
      simp at this
      exact List.eq_nil_of_length_eq_zero this.symm
    subst hb
    simp [Conv.bytesToString]; rfl
  | some ad =>
    simp only [Builtin.firstCells, Nat.mul_one] at hr
    have := run_bytesToString w ad n C (bs.map fun b => (b.toNat : Int)) (by rw [hr]; simp [Function.comp_def])
    rw [this]
    congr 2
    exact foldl_push_byteCells bs ByteArray.empty |>.trans (by simp)
theorem conv_ok (hW : WR P m h nx w) {s d : TypeId} {x : AV} {X : Value} (hx : VR m x X) (hr : convA P s d x h nx = some r) : DidV P m h w (convert s d X) r := by
  obtain ⟨su, hs, hr⟩ := bind_some hr
  obtain ⟨du, hd, hr⟩ := bind_some hr
  cases du with
  | int k =>
    obtain ⟨z, hz, rfl⟩ := map_some (show (asI x).map (fun z => pv h nx (.int k (wrapZ k z))) = some r from hr)
    obtain ⟨k', rfl⟩ := asI_some hz
    rw [hx.int_inv, wrapZ_eq]
    exact didV_pure hW (by simp [convert, run_underlying hs, run_underlying hd, Conv.intToInt]) (.int _ _)
  | string =>
    cases su with
    | string =>
      obtain ⟨b, hb, rfl⟩ := map_some (show (asS x).map (strRs h nx) = some r from hr)
      rw [asS_some hb] at hx
      rw [hx.str_inv]
      exact didV_pure hW (by simp [convert, run_underlying hs, run_underlying hd]) (.str _)
    | slice e =>
      obtain ⟨h8, hr⟩ := cond_some (show (bif isU8 P e then (lenD x).bind (cvSlN x h nx) else none) = some r from hr)
      obtain ⟨n, hn, hr⟩ := bind_some hr
      have he := isU8_some h8
      have main : ∀ (l : List AV) (bs : List UInt8), newsA h 1 n x = some l → bytesOf l = some bs → (convert s d X).run P w = .ok (.string ⟨bs.toArray⟩) w := fun l bs hl hbs => by
        obtain ⟨us, h1, h2, h3, _⟩ := news_ok (P := P) hW hl (lenD_A hn) (Nat.le_refl _) hx
        have hus := bytesOf_ok hbs h2
        subst hus
        have h3 := h3 w rfl
        obtain ⟨A, C, hX⟩ := lenD_ok hn hx
        have hrun := run_bytesToString_us (P := P) (by simpa using h1) ⟨A, C, hX⟩ h3
        subst hX
        rw [run_convert_bytes_string w _ _ _ A _ _ hs he hd, hrun]
      unfold cvSlN at hr
      cases hbig : Nat.blt 65536 n with
      | false =>
        rw [hbig] at hr
        obtain ⟨l, hl, hr⟩ := bind_some hr
        obtain ⟨bs, hbs, rfl⟩ := map_some hr
        exact didV_pure hW (main l bs hl hbs) (.str _)
      | true =>
        rw [hbig] at hr
        have hr : repSl n x h nx = some r := hr
        cases x with
        | slice b o n' c ex =>
          have hn' : n' = n := by cases hn; rfl
          obtain ⟨k, hk, hr⟩ := bind_some (show (getBk h b).bind (repBk o n h nx) = some r from hr)
          unfold repBk at hr
          cases hkt : k.t with
          | node v lt rt => rw [hkt] at hr; cases hr
          | nil =>
            rw [hkt] at hr
            obtain ⟨hle, hr⟩ := cond_some hr
            obtain ⟨c8, hc8, rfl⟩ := map_some hr
            cases n with
            | zero => cases hbig
            | succ n =>
              have hl : newsA h 1 (n + 1) (.slice b o n' c ex) = some (listOf k.d k.t (n + 1) o) := by
                show loadN h b o (Nat.mul (Nat.succ n) 1) = _
                have e1 : Nat.mul (Nat.succ n) 1 = n + 1 := Nat.mul_one _
                rw [e1]
                unfold loadN
                rw [hk]
                show ldNIn o (n + 1) k = _
                unfold ldNIn
                rw [show Nat.ble (Nat.add o (n + 1)) k.n = true from hle]
                rfl
              exact didV_pure hW (main _ _ hl (by rw [hkt]; exact bytesOf_rep hc8 (n + 1) o)) (.rep _ _)
        | _ => cases hr
    | _ => cases hr
  | slice e =>
    cases su with
    | string =>
      obtain ⟨h8, hr⟩ := cond_some (show (bif isU8 P e && ((sizeT P e).map (Nat.beq 1)).getD false then (asS x).map (mkBytes e h nx) else none) = some r from hr)
      obtain ⟨h8, h1⟩ := Bool.and_eq_true_iff.1 h8
      obtain ⟨b, hb, rfl⟩ := map_some hr
      rw [asS_some hb] at hx
      rw [hx.str_inv]
      have he := isU8_some h8
      have hz := cellsOf_eq (one_some h1)
      have hrun := run_bytes_of_string (P := P) w s d e ⟨b.toArray⟩ hs hd he
      have hbs : (⟨b.toArray⟩ : ByteArray).size = b.length := by simp [ByteArray.size]
      have hcap := grownCap_ge w (⟨b.toArray⟩ : ByteArray).size 0 e
      obtain ⟨cap, hce⟩ : ∃ cap, grownCap w (⟨b.toArray⟩ : ByteArray).size 0 e = cap := ⟨_, rfl⟩
      rw [hce] at hrun hcap
      rw [hbs] at hcap
      have hsize : (bytesRow ⟨b.toArray⟩ cap).size = cap := by
        simp [bytesRow, hbs]; omega
      have hWd : WR P m h nx w.drew := hW.drew rfl
      have hvr := bytes_vr m b
      have hbl : (bytesA b).length = b.length := by rw [bytesA_eq, List.length_map]
      have hnew := newBk_ok hWd hvr (n := b.length) hbl (bytesRow ⟨b.toArray⟩ cap) (fun i u hi => by
        have hlt := (List.getElem?_eq_some_iff.1 hi).1
        unfold bytesRow
        rw [Array.getElem?_append_left (by simpa using hlt)]
        simpa using hi) e false (cap - b.length) (by rw [hz, hsize]; omega) (fun hc => by cases hc) (cap, cap + 1) (fun j _ hj hh => by rw [hsize] at hj; have := hh.1; simp at this; omega) (fun hc => by cases hc)
      rw [hsize] at hrun
      refine ⟨_, _, upd m nx ⟨w.heap.size, 0, cap - b.length⟩, hrun, ?_, ?_, ?_⟩
      · show WR P _ (newCells h nx (bytesA b) (lenL b) e false) (nx + 1) _
        rw [lenL_eq]; exact hnew.1
      · show VR _ (.slice nx 0 (lenL b) (lenL b) false) _
        rw [lenL_eq, hbs]
        have := VR.slice (m := upd m nx ⟨w.heap.size, 0, cap - b.length⟩) (b := nx) 0 b.length b.length false (upd_at m nx _)
        rw [show (if false = true then b.length else b.length + (⟨w.heap.size, 0, cap - b.length⟩ : Cz).ext) = cap by simp; omega] at this
        exact this
      · show Evo _ _ _ _ (newCells h nx (bytesA b) (lenL b) e false) _
        rw [lenL_eq]
        exact (Evo.drew (h := h) (m := m) (w := w) (w' := w.drew) rfl rfl rfl rfl).trans hnew.2
    | _ => cases hr
  | unsafePointer =>
    cases su with
    | pointer t =>
      obtain ⟨p, hp, hr⟩ := bind_some (show ((asP x).bind fun p => bif cvUn0 t P h p then some (⟨x, h, nx⟩ : Rs) else none) = some r from hr)
      obtain ⟨hc, hr⟩ := cond_some hr
      cases hr
      rw [asP_some hp] at hx ⊢
      obtain ⟨z, hz, rfl⟩ := hx.ptr_inv
      obtain ⟨hc1, hc2⟩ := Bool.and_eq_true_iff.1 hc
      obtain ⟨k, hk, hc1⟩ := map_some (getD_true hc1)
      obtain ⟨n, hn, hc2⟩ := map_some (getD_true hc2)
      rw [blt_eq] at hc1 hc2
      have hc1 : p.o < k.n := of_decide_eq_true hc1
      have hc2 : 0 < n := of_decide_eq_true hc2
      obtain ⟨i, hi, rfl⟩ := sizeT_some hn
      obtain ⟨z', cs, fz, hB⟩ := hW.bk hk
      have := hB.hm; rw [hz] at this; cases this
      have hsz := hB.sz
      exact didV_pure hW (Lib.run_to_unsafe w ⟨z.blk, z.sh + p.o, none⟩ hs hd hi (by omega) (e := k.e) (cells := cs.size) (by simp [World.shape?, hB.hp]) (by show z.sh + p.o < cs.size; omega)) (.ptr _ hz)
    | _ => cases hr
  | pointer u =>
    cases su with
    | unsafePointer =>
      obtain ⟨p, hp, hr⟩ := bind_some (show ((asP x).bind fun p => bif ((getBk h p.b).map (cvPt0 u P p)).getD false then some (⟨x, h, nx⟩ : Rs) else none) = some r from hr)
      obtain ⟨hc, hr⟩ := cond_some hr
      cases hr
      rw [asP_some hp] at hx ⊢
      obtain ⟨z, hz, rfl⟩ := hx.ptr_inv
      obtain ⟨k, hk, hc⟩ := map_some (getD_true hc)
      unfold cvPt0 at hc
      simp only [Bool.and_eq_true, Bool.not_eq_true'] at hc
      obtain ⟨⟨⟨hc1, hc2⟩, hc3⟩, hc4⟩ := hc
      obtain ⟨n, hn, hc3⟩ := map_some (getD_true hc3)
      rw [blt_eq] at hc3
      have hc3 : 0 < n := of_decide_eq_true hc3
      obtain ⟨i, hi, rfl⟩ := sizeT_some hn
      obtain ⟨z', cs, fz, hB⟩ := hW.bk hk
      have := hB.hm; rw [hz] at this; cases this
      obtain ⟨g1, g2⟩ := hB.whole hc1 hc2
      refine didV_pure hW (Lib.run_from_unsafe w ⟨z.blk, z.sh + p.o, none⟩ hs hd hi (e := k.e) (cells := cs.size) (by simp [World.shape?, hB.hp]) ?_) (.ptr _ hz)
      show liesAt P P.depth k.e (cs.size / P.cellsOf k.e) (z.sh + p.o) u 1 = true
      rw [g1, g2, Nat.zero_add]; exact hc4
    | _ => cases hr
  | _ => cases hr
theorem d_conv (hW : WR P m h nx w) (hF : FR m fr a.tmps sz) {s d : TypeId} {x : Operand} (ho : o.op = .convert s d x) (hr : oConv s d x P fr h nx = some r) : Did P m h w o a r := by
  obtain ⟨v, hv, hr⟩ := bind_some hr
  obtain ⟨u, w', m', h1, h2, h3, h4⟩ := conv_ok hW (evA_ok hW hF hv) hr
  exact ⟨u, w', m', .inl (by simp [execOp, ho, h1]), h2, h3, h4⟩
theorem frozen_ok {w' : World} (hW : WR P m h nx w) {b : Nat} {k : Bk} {z : Cz} {cs : Array Value} {fz fz' : Nat × Nat} (hb : h.get .dead b = .cells k) (hro : k.ro = false) (hst : k.st = false) (hB : BR P m w b k z cs fz)
    (hw1 : w'.heap[z.blk]? = some (.cells cs k.e fz')) (hw2 : ∀ j, j ≠ z.blk → w'.heap[j]? = w.heap[j]?) (hsz : w'.heap.size = w.heap.size) (hos : w'.os = w.os) (ht : w'.tape = w.tape) (hp : w'.output = w.output) {f : Nat} (hf : f ≠ 0) :
    WR P m (setBk h b { k with st := true, fz := f }) nx w' ∧ Evo m h w m (setBk h b { k with st := true, fz := f }) w' := by
  have hapb : ∀ x zx, x ≠ b → m x = some zx → h.get .dead x ≠ .dead → zx.blk = z.blk → ∃ kx, h.get .dead x = .cells kx ∧ x ∈ k.anc ∧ kx.st = true ∧ kx.fx = false ∧ zx.sh + kx.n ≤ z.sh + k.bnd := fun x zx hx hmx hd e => by
    have := hW.ap b x z zx hx hB.hm hmx hd
    rw [hb] at this
    exact this hro hst e
  refine ⟨⟨hW.gl, hW.fresh, fun y => ?_, ?_⟩, Le.refl m, hos, ht, hp, by rw [hsz]; exact Nat.le_refl _, ?_, ?_⟩
  · show OR P m w' y ((h.set .dead b _).get .dead y)
    rw [Tr.get_set]
    by_cases hy : y = b
    · rw [if_pos hy]; subst hy
      exact ⟨z, cs, fz', hB.hm, hw1, hB.sz, hB.here, (fun hc => by cases hc), hB.fx, hB.whole, (fun _ _ hc => absurd hc hf)⟩
    · rw [if_neg hy]
      by_cases hd : h.get .dead y = .dead
      · rw [hd]; trivial
      · obtain ⟨zy, hmy, _⟩ := (hW.rel y).there hd
        by_cases hs : zy.blk = z.blk
        · obtain ⟨kx, hkx, _, hsx, hfxx, hlex⟩ := hapb y zy hy hmy hd hs
          have hrx := hW.rel y
          rw [hkx] at hrx
          obtain ⟨zx', csx, fzx, hX⟩ := hrx
          have hm2 := hX.hm; rw [hmy] at hm2; cases hm2
          have hpx := hX.hp
          rw [hs, hB.hp] at hpx
          obtain ⟨rfl, he1, rfl⟩ : cs = csx ∧ k.e = kx.e ∧ fz = fzx := by simpa using hpx
          rw [hkx]
          refine ⟨zy, cs, fz', hmy, by rw [hs, hw1, he1], hX.sz, hX.here, ?_, ?_, ?_, ?_⟩
          · intro hc; rw [hsx] at hc; cases hc
          · intro hc; rw [hfxx] at hc; cases hc
          · intro hc; rw [hfxx] at hc; cases hc
          · intro hc; rw [hfxx] at hc; cases hc
        · refine (hW.rel y).mono (Le.refl m) fun z' hm' _ => hw2 _ ?_
          rw [hmy] at hm'; cases hm'; exact hs
  · intro y x zy zx hx hmy hmx hlive
    have hlive : (h.set .dead b (.cells { k with st := true, fz := f })).get .dead x ≠ .dead := hlive
    show Apart ((h.set .dead b (.cells { k with st := true, fz := f })).get .dead y) y x zy zx ((h.set .dead b (.cells { k with st := true, fz := f })).get .dead x)
    rw [Tr.get_set] at hlive
    rw [Tr.get_set, Tr.get_set]
    by_cases hy : y = b
    · rw [if_pos hy]; intro _ hc; cases hc
    · rw [if_neg hy]
      by_cases hxb : x = b
      · subst hxb
        exact hW.alone hb hst hy hmy hmx x zx _ rfl
      · rw [if_neg hxb] at hlive ⊢
        exact hW.ap y x zy zx hx hmy hmx hlive
  · intro j hj hnot
    exact hw2 j fun e => hnot ⟨b, z, hB.hm, e.symm, by rw [hb]; exact hro⟩
  · rintro j hj ⟨y, zy, hmy, hyj, hoy⟩
    have hoy : ownO ((h.set .dead b (.cells { k with st := true, fz := f })).get .dead y) := hoy
    rw [Tr.get_set] at hoy
    by_cases hy : y = b
    · subst hy; exact ⟨y, zy, hmy, hyj, by rw [hb]; exact hro⟩
    · rw [if_neg hy] at hoy; exact ⟨y, zy, hmy, hyj, hoy⟩
theorem liesAt_off {e : TypeId} (hc : P.cellsOf e = 1) (count off n : Nat) (hn : off + n ≤ count) : liesAt P P.depth e count off e n = true := by
  have hd : P.depth = (2 * (P.types.size + Made.depth) + 1) + 1 := rfl
  rw [hd]
  simp only [liesAt, Bool.or_eq_true]
  left
  rw [hd]
  simp [rowAt, hc, hn, sameLayout, Nat.mod_one]
theorem ptrD_some {u : TypeDesc} {e : TypeId} (hu : ptrD u = some e) : u = .pointer e := by cases u <;> first | (cases hu; rfl) | cases hu
theorem ustr_ok (hW : WR P m h nx w) {ts : Array TypeId} {t ty : TypeId} (hts : ts[0]? = some t) {p n : AV} {X N : Value} (hp : VR m p X) (hn : VR m n N) (hr : ustrA P t p n h nx = some r) : DidV P m h w (Builtin.unsafeString_ ts ty #[X, N]) r := by
  obtain ⟨el, hel, hr⟩ := bind_some hr
  obtain ⟨u, hu, hel⟩ := bind_some hel
  have hel := ptrD_some hel
  subst hel
  obtain ⟨k, hk, hr⟩ := bind_some hr
  obtain ⟨kk, rfl⟩ := asN_some hk
  rw [hn.int_inv]
  have hdef : ∀ q : Option Addr, Builtin.unsafeString_ ts ty #[.pointer q, .int kk (.ofNat k)] = (asInt (.int kk (.ofNat k)) >>= _) := fun _ => rfl
  have hmax : IntKind.i64.max = 9223372036854775807 := rfl
  obtain ⟨hbig, hr⟩ : Nat.ble 9223372036854775808 k = false ∧ (bif Nat.beq k 0 then (bif isPtr p then some (⟨.str [], h, nx⟩ : Rs) else none) else bif isU8 P el then (asP p).bind fun a => (loadN h a.b a.o k).bind fun l => (bytesOf l).bind fun bs => (getBk h a.b).bind (ustrBk P el a.b a.o k h nx bs) else none) = some r := by
    cases hb : Nat.ble 9223372036854775808 k with
    | true => have hr : (bif Nat.ble 9223372036854775808 k then none else _) = some r := hr; rw [hb] at hr; cases hr
    | false => have hr : (bif Nat.ble 9223372036854775808 k then none else _) = some r := hr; rw [hb] at hr; exact ⟨rfl, hr⟩
  have hbig : k < 9223372036854775808 := by
    rw [ble_eq] at hbig; have := of_decide_eq_false hbig; omega
  have hneg : ¬ ((k : Int) < 0) := by omega
  have h63 : ¬ ((9223372036854775807 : Int) < (k : Int)) := by omega
  rcases cond_none hr with ⟨h0, hr⟩ | ⟨h0, hr⟩
  · have h0 : k = 0 := Nat.eq_of_beq_eq_true h0
    subst h0
    obtain ⟨hip, hr⟩ := cond_some hr
    cases hr
    refine didV_pure hW (u := .string .empty) ?_ (.str [])
    cases hp <;> first | (cases hip; done) | skip
    · rw [hdef]; simp [hts, asInt, asIntOf, hmax]
    · rw [hdef]; simp [hts, asInt, asIntOf, hmax]
  · have h0 : k ≠ 0 := fun e => by rw [e] at h0; cases h0
    obtain ⟨h8, hr⟩ := cond_some hr
    obtain ⟨q, hq, hr⟩ := bind_some hr
    obtain ⟨l, hl, hr⟩ := bind_some hr
    obtain ⟨bs, hbs, hr⟩ := bind_some hr
    obtain ⟨kb, hkb, hr⟩ := bind_some hr
    obtain ⟨hok, hr⟩ := cond_some hr
    cases hr
    simp only [Bool.and_eq_true, Bool.not_eq_true'] at hok
    obtain ⟨⟨⟨q1, q2⟩, q3⟩, q4⟩ := hok
    have q1 : kb.e = el := Nat.eq_of_beq_eq_true q1
    subst q1
    have hc1 := cellsOf_eq (one_some q4)
    rw [asP_some hq] at hp
    obtain ⟨z, hz, rfl⟩ := hp.ptr_inv
    obtain ⟨z2, us, hz2, hlen, hvl, hcell⟩ := loadN_ok hW hl
    rw [hz] at hz2; cases hz2
    obtain ⟨z3, cs, fz, hB⟩ := hW.bk hkb
    have := hB.hm; rw [hz] at this; cases this
    have hus := bytesOf_ok hbs hvl
    subst hus
    have hbl : bs.length = k := by simpa using hlen
    have hle : q.o + k ≤ kb.n := by
      obtain ⟨k2, hk2, hl2⟩ := bind_some hl
      rw [hkb] at hk2; cases hk2
      obtain ⟨hi, _⟩ := cond_some hl2
      exact Nat.le_of_ble_eq_true hi
    have hsz := hB.sz
    have hlb := Lib.run_loadBytes (P := P) (w := w) bs ⟨z.blk, z.sh + q.o, none⟩ .empty fun j x hj => by
      rw [addr_add]
      exact hcell j _ (by rw [List.getElem?_map, hj]; rfl)
    have hlies := liesAt_off (P := P) hc1 (cs.size / P.cellsOf kb.e) (z.sh + q.o) k (by rw [hc1, Nat.div_one]; omega)
    obtain ⟨fz', hw1⟩ : ∃ fz', (w.freeze ⟨z.blk, z.sh + q.o, none⟩ k).heap[z.blk]? = some (.cells cs kb.e fz') := by
      obtain ⟨lo, hi⟩ := fz
      unfold World.freeze
      rw [if_neg h0]
      refine ⟨if lo == hi then (z.sh + q.o, z.sh + q.o + k) else (min lo (z.sh + q.o), max hi (z.sh + q.o + k)), ?_⟩
      simp [Array.getElem?_modify, hB.hp]
    obtain ⟨g1, g2⟩ := frozen_ok (w' := w.freeze ⟨z.blk, z.sh + q.o, none⟩ k) (f := q.o + k) hW (getBk_some hkb) q2 q3 hB hw1 (fun j hj => by unfold World.freeze; rw [if_neg h0]; simp [Array.getElem?_modify, Ne.symm hj]) (by unfold World.freeze; rw [if_neg h0]; simp) (by unfold World.freeze; rw [if_neg h0]) (by unfold World.freeze; rw [if_neg h0]) (by unfold World.freeze; rw [if_neg h0]) (by omega)
    refine ⟨.string ⟨bs.toArray⟩, _, m, ?_, g1, .str bs, g2⟩
    subst hbl
    rw [hdef]; simp [hts, asInt, asIntOf, hmax, h63, hneg, h0, variablesAt, World.shape?, hB.hp, elemOf, run_underlying hu, hlies, hlb]
end
end Ex
end Go.Proofs.YtdngjkjoahgelaaGreatDoor

namespace Go.Proofs.YtdngjkjoahgelaaGreatDoor
set_option linter.all false
namespace Ex
open Go.RowKit
section
variable {P : Program} {m : Mz} {h : Hp} {nx : Nat} {w : World} {fr : Fm} {a : Act} {sz : Nat} {o : Oper} {r : Rs}
theorem mapT_some {t : TypeId} {mt : Mt} (hm : mapT P t = some mt) : P.underlying t = some (.map mt.k mt.e) := by
  obtain ⟨u, hu, hm⟩ := bind_some hm
  cases u <;> first | (cases hm; exact hu) | cases hm
structure KeyOk (P : Program) (t : TypeId) (k : AV) (mt : Mt) (u : TypeDesc) : Prop where
  ty : P.underlying t = some (.map mt.k mt.e)
  ku : P.underlying mt.k = some u
  is : keyIs u k = true
theorem mapK_some {t : TypeId} {k : AV} {mt : Mt} (hm : mapK P t k = some mt) : ∃ u, KeyOk P t k mt u := by
  obtain ⟨mt', hm1, hm⟩ := bind_some hm
  obtain ⟨u, hu, hm⟩ := bind_some hm
  obtain ⟨hk, hm⟩ := cond_some hm
  cases hm
  exact ⟨u, mapT_some hm1, hu, hk⟩
theorem KeyOk.check {t : TypeId} {k : AV} {mt : Mt} {u : TypeDesc} (hk : KeyOk P t k mt u) {K : Value} (hv : VR m k K) (b : Bool) (w : World) : (Instr.checkKey b 10000 mt.k K).run P w = .ok () w := by
  have hi := hk.is
  obtain ⟨d, hd⟩ : ∃ d, 10000 = d + 1 := ⟨9999, rfl⟩
  rw [hd]
  unfold keyIs at hi
  cases u <;> first | (cases hi; done) | skip
  all_goals
    cases hv <;> first | (cases hi; done) | simp [Instr.checkKey, run_underlying hk.ku]
theorem sameA_ok {u : TypeDesc} {k k2 : AV} {b : Bool} (hi : keyIs u k = true) (hs : sameA k k2 = some b) {K K2 : Value} (hk : VR m k K) (hk2 : VR m k2 K2) : Instr.sameNow u K K2 = some b ∧ (b = true → Instr.sameBits 10000 K2 K = true) := by
  obtain ⟨d, hd⟩ : ∃ d, 10000 = d + 1 := ⟨9999, rfl⟩
  rw [hd]
  cases k with
  | int kk z =>
    cases k2 with
    | int k' z' =>
      obtain ⟨h1, h2⟩ := cond_some (show (bif sameK kk k' then some (eqZ z z') else none) = some b from hs)
      cases h2
      have h1 : kk = k' := of_decide_eq_true h1
      subst h1
      cases hk; cases hk2
      cases u <;> first | (cases hi; done) | skip
      refine ⟨by simp [Instr.sameNow, eqZ_eq], fun h => ?_⟩
      rw [eqZ_eq] at h
      have : z = z' := by simpa using h
      subst this
      simp [Instr.sameBits]
    | _ => cases hs
  | str s =>
    cases k2 with
    | str s' =>
      cases hs
      cases hk; cases hk2
      cases u <;> first | (cases hi; done) | skip
      have e : ((⟨s.toArray⟩ : ByteArray) == ⟨s'.toArray⟩) = eqS s s' := by
        rw [eqS_eq, beq_toListBytes, toList_str, toList_str]
      refine ⟨by simp [Instr.sameNow, e], fun h => ?_⟩
      rw [eqS_eq] at h
      have : s = s' := by simpa using h
      subst this
      simp [Instr.sameBits, beq_toListBytes]
    | _ => cases hs
  | bool c =>
    cases k2 with
    | bool c' =>
      cases hs
      cases hk; cases hk2
      cases u <;> first | (cases hi; done) | skip
      refine ⟨by simp [Instr.sameNow], fun h => ?_⟩
      have : c = c' := by simpa using h
      subst this
      simp [Instr.sameBits]
    | _ => cases hs
  | _ => cases hs
theorem findA_ok {u : TypeDesc} {k : AV} (hi : keyIs u k = true) {K : Value} (hk : VR m k K) : ∀ {es : List Ent} {es' : List MapEntry} (i : Nat) {res : Option Fd}, ER m es es' → findA k es i = some res →
    (res = none ∧ Instr.findNow u K es' i = some none) ∨ ∃ f e e', res = some f ∧ i ≤ f.i ∧ es[f.i - i]? = some e ∧ es'[f.i - i]? = some e' ∧ e.2.1 = f.v ∧ VR m e.1 e'.key ∧ VR m f.v e'.val ∧ e'.born = e.2.2 ∧ Instr.findNow u K es' i = some (some (f.i, e'.val)) ∧ Instr.sameBits 10000 e'.key K = true
  | [], _, i, res, .nil, hf => by cases hf; exact .inl ⟨rfl, rfl⟩
  | _ :: es, _ :: es', i, res, .cons (k := k2) (v := v2) (n := n2) (k' := K2) (v' := V2) h1 h2 h3, hf => by
    obtain ⟨b, hb, hf⟩ := bind_some (show (sameA k k2).bind (fdStep (k2, v2, n2) i (findA k es (i + 1))) = some res from hf)
    obtain ⟨g1, g2⟩ := sameA_ok hi hb hk h1
    cases b with
    | true =>
      cases hf
      right
      exact ⟨⟨i, v2⟩, (k2, v2, n2), { key := K2, val := V2, born := n2 }, rfl, Nat.le_refl _, by simp, by simp, rfl, h1, h2, rfl, by simp [Instr.findNow, g1], g2 rfl⟩
    | false =>
      have hf : findA k es (i + 1) = some res := hf
      rcases findA_ok hi hk (i + 1) h3 hf with ⟨rfl, g3⟩ | ⟨f, e, e', rfl, q1, q2, q3, q4, q5, q6, q7, q8, q9⟩
      · left; exact ⟨rfl, by simp [Instr.findNow, g1, g3]⟩
      · right
        refine ⟨f, e, e', rfl, by omega, ?_, ?_, q4, q5, q6, q7, by simp [Instr.findNow, g1, q8], q9⟩
        · rw [show f.i - i = (f.i - (i + 1)) + 1 by omega, List.getElem?_cons_succ]; exact q2
        · rw [show f.i - i = (f.i - (i + 1)) + 1 by omega, List.getElem?_cons_succ]; exact q3
theorem find_run {t : TypeId} {k : AV} {mt : Mt} {u : TypeDesc} (hk : KeyOk P t k mt u) {K : Value} {es' : List MapEntry} {x : Option (Nat × Value)} (hf : Instr.findNow u K es' 0 = some x) (w : World) : (Instr.findKey mt.k K es').run P w = .ok x w := by
  simp [Instr.findKey, run_underlying hk.ku, hf]
def MapIs (w : World) (X : Value) (es' : Array MapEntry) : Prop := (∃ b cl, X = .map (some b) ∧ w.heap[b]? = some (.map es' cl)) ∨ (X = .map none ∧ es' = #[])
theorem mpA_ok (hW : WR P m h nx w) {x : AV} {X : Value} (hx : VR m x X) {es : List Ent} (he : mpA h x = some es) : ∃ es' : Array MapEntry, ER m es es'.toList ∧ MapIs w X es' := by
  cases x with
  | mapv b =>
    obtain ⟨mp, hmp, rfl⟩ := map_some (show (getMp h b).map (·.es) = some es from he)
    obtain ⟨z, es', h1, h2, h3⟩ := hW.mp hmp
    obtain ⟨z', hz', rfl⟩ := hx.map_inv
    rw [hz'] at h1; cases h1
    exact ⟨es', h3, .inl ⟨_, _, rfl, h2⟩⟩
  | nilm => cases he; cases hx; exact ⟨#[], .nil, .inr ⟨rfl, rfl⟩⟩
  | _ => cases he
theorem lookup_hit {t kt e : TypeId} (ht : P.underlying t = some (.map kt e)) {X K v : Value} {es' : Array MapEntry} (hX : MapIs w X es') (hck : ∀ b, (Instr.checkKey b 10000 kt K).run P w = .ok () w) {i : Nat}
    (hf : (Instr.findKey kt K es'.toList).run P w = .ok (some (i, v)) w) (ok : Bool) : (Instr.lookup t X K ok).run P w = .ok (if ok then .tuple #[v, .bool true] else v) w := by
  rcases hX with ⟨b, cl, rfl, hb⟩ | ⟨rfl, rfl⟩
  · simp [Instr.lookup, run_underlying ht, getObj_run hb, hck, hf]
  · simp at hf
    simp [Instr.lookup, run_underlying ht, hck, hf]
theorem lookup_miss {t kt e : TypeId} (ht : P.underlying t = some (.map kt e)) {X K v : Value} {es' : Array MapEntry} (hX : MapIs w X es') (hck : ∀ b, (Instr.checkKey b 10000 kt K).run P w = .ok () w)
    (hf : (Instr.findKey kt K es'.toList).run P w = .ok none w) (hz : (zeroValue e).run P w = .ok v w) (ok : Bool) : (Instr.lookup t X K ok).run P w = .ok (if ok then .tuple #[v, .bool false] else v) w := by
  rcases hX with ⟨b, cl, rfl, hb⟩ | ⟨rfl, rfl⟩
  · simp [Instr.lookup, run_underlying ht, getObj_run hb, hck, hf, hz]
  · simp at hf
    simp [Instr.lookup, run_underlying ht, hck, hf, hz]
theorem lookup_ok (hW : WR P m h nx w) {t : TypeId} {x k : AV} {ok : Bool} {X K : Value} (hx : VR m x X) (hk : VR m k K) {v : AV} (hr : lookupA P t x k ok h = some v) : ∃ u, (Instr.lookup t X K ok).run P w = .ok u w ∧ VR m v u := by
  obtain ⟨mt, hm, hr⟩ := bind_some hr
  obtain ⟨es, hes, hr⟩ := bind_some hr
  obtain ⟨res, hres, hr⟩ := bind_some hr
  obtain ⟨u, hku⟩ := mapK_some hm
  obtain ⟨es', hE, hX⟩ := mpA_ok hW hx hes
  have hck := fun b => hku.check hk b w
  rcases findA_ok hku.is hk 0 hE hres with ⟨rfl, g⟩ | ⟨f, e, e', rfl, q1, q2, q3, q4, q5, q6, q7, q8, q9⟩
  · obtain ⟨z, hz, rfl⟩ := map_some (show (zeroT P mt.e).map (fun z => lkOut ok z false) = some v from hr)
    obtain ⟨i, zv, hi, hz0, hov, hzr⟩ := run_zero hz
    have hvz := ofV_ok m 10 zv z hov
    refine ⟨_, lookup_miss hku.ty hX hck (find_run hku g w) (hzr w) ok, ?_⟩
    cases ok
    · exact hvz
    · exact .tup (.cons hvz (.cons (.bool _) .nil))
  · cases hr
    refine ⟨_, lookup_hit hku.ty hX hck (find_run hku q8 w) ok, ?_⟩
    cases ok
    · exact q6
    · exact .tup (.cons q6 (.cons (.bool _) .nil))
theorem d_lookup (hW : WR P m h nx w) (hF : FR m fr a.tmps sz) {t : TypeId} {x y : Operand} {ok : Bool} (ho : o.op = .lookup t x y ok) (hr : oLookup t x y ok P fr h nx = some r) : Did P m h w o a r := by
  obtain ⟨v1, h1, hr⟩ := bind_some hr
  obtain ⟨v2, h2, hr⟩ := bind_some hr
  obtain ⟨v, hv, rfl⟩ := pv_some hr
  obtain ⟨u, hu, hvu⟩ := lookup_ok hW (evA_ok hW hF h1) (evA_ok hW hF h2) hv
  exact did_val hW (u := u) (by simp [execOp, ho, hu]) hvu
theorem ER.cons' {e : Ent} {e' : MapEntry} {es : List Ent} {es' : List MapEntry} (hk : VR m e.1 e'.key) (hv : VR m e.2.1 e'.val) (hb : e'.born = e.2.2) (h : ER m es es') : ER m (e :: es) (e' :: es') := by
  obtain ⟨k, v, n⟩ := e
  obtain ⟨k', v', n'⟩ := e'
  have hb : n' = n := hb
  subst hb
  exact .cons hk hv h
theorem ER.modify {f : Ent → Ent} {g : MapEntry → MapEntry} (hfg : ∀ e e', VR m e.1 e'.key → VR m e.2.1 e'.val → e'.born = e.2.2 → VR m (f e).1 (g e').key ∧ VR m (f e).2.1 (g e').val ∧ (g e').born = (f e).2.2) :
    ∀ {es : List Ent} {es' : List MapEntry} (i : Nat), ER m es es' → ER m (modA f es i) (es'.modify i g)
  | [], _, i, .nil => by cases i <;> exact .nil
  | _ :: es, _ :: es', 0, .cons (k := k2) (v := v2) (n := n2) (k' := K2) (v' := V2) h1 h2 h3 => by
    obtain ⟨g1, g2, g3⟩ := hfg (k2, v2, n2) { key := K2, val := V2, born := n2 } h1 h2 rfl
    rw [List.modify_zero_cons]
    exact ER.cons' g1 g2 g3 h3
  | _ :: es, _ :: es', i + 1, .cons h1 h2 h3 => by
    rw [List.modify_succ_cons]
    exact .cons h1 h2 (ER.modify hfg i h3)
theorem ER.push {es : List Ent} {es' : List MapEntry} (h : ER m es es') {k v : AV} {K V : Value} (hk : VR m k K) (hv : VR m v V) (n : Nat) : ER m (es ++ [(k, v, n)]) (es' ++ [{ key := K, val := V, born := n }]) := by
  induction h with
  | nil => exact .cons hk hv .nil
  | cons h1 h2 _ ih => exact .cons h1 h2 ih
theorem ER.erase : ∀ {es : List Ent} {es' : List MapEntry} (i : Nat), ER m es es' → ER m (es.eraseIdx i) (es'.eraseIdx i)
  | [], _, i, .nil => by simpa using ER.nil
  | _ :: es, _ :: es', 0, .cons h1 h2 h3 => by simpa using h3
  | _ :: es, _ :: es', i + 1, .cons h1 h2 h3 => by
    rw [List.eraseIdx_cons_succ, List.eraseIdx_cons_succ]
    exact .cons h1 h2 (h3.erase i)
theorem stays {K K2 : Value} (hs : Instr.sameBits 10000 K2 K = true) (w : World) : (Instr.keyThatStays K2 K).run P w = .ok K w := by simp [Instr.keyThatStays, hs]
theorem asM_some {v : AV} {b : Nat} (hb : asM v = some b) : v = .mapv b := by cases v <;> first | (cases hb; rfl) | cases hb
theorem update_ok (hW : WR P m h nx w) {t : TypeId} {x k v : AV} {X K V : Value} (hx : VR m x X) (hk : VR m k K) (hv : VR m v V) {h' : Hp} (hr : updateA P t x k v h = some h') : ∃ w', (Instr.mapUpdate t X K V).run P w = .ok () w' ∧ WR P m h' nx w' ∧ Evo m h w m h' w' := by
  obtain ⟨mt, hm, hr⟩ := bind_some hr
  obtain ⟨b, hb, hr⟩ := bind_some hr
  obtain ⟨mp, hmp, hr⟩ := bind_some hr
  obtain ⟨res, hres, rfl⟩ := map_some hr
  obtain ⟨u, hku⟩ := mapK_some hm
  rw [asM_some hb] at hx
  obtain ⟨z, hz, rfl⟩ := hx.map_inv
  obtain ⟨z', es', h1, h2, hE⟩ := hW.mp hmp
  rw [hz] at h1; cases h1
  have hck := hku.check hk false w
  have hty := hku.ty
  rcases findA_ok hku.is hk 0 hE hres with ⟨rfl, g⟩ | ⟨f, e, e', rfl, q1, q2, q3, q4, q5, q6, q7, q8, q9⟩
  · have hfr := find_run hku g w
    obtain ⟨g1, g2⟩ := map_turn (es2 := mp.es ++ [(k, v, mp.cl)]) (cl2 := mp.cl + 1) hW hmp hz h2 (new := es'.push { key := K, val := V, born := mp.cl }) (by rw [Array.toList_push]; exact hE.push hk hv _)
    refine ⟨_, ?_, g1, g2⟩
    simp [Instr.mapUpdate, run_underlying hty, getObj_run h2, hck, hfr, setObj_map _ h2]
  · have hfr := find_run hku q8 w
    have hst := fun w => stays (P := P) q9 w
    have hkey : ((es'[f.i]?).map (·.key)).getD K = e'.key := by
      rw [Nat.sub_zero] at q3
      rw [← Array.getElem?_toList, q3]; rfl
    obtain ⟨g1, g2⟩ := map_turn (es2 := modA (fun e => (k, v, e.2.2)) mp.es f.i) (cl2 := mp.cl) hW hmp hz h2 (new := es'.modify f.i fun e => { e with key := K, val := V }) (by rw [Array.toList_modify]; exact ER.modify (f := fun e => (k, v, e.2.2)) (g := fun e => { e with key := K, val := V }) (fun e e' _ _ h3 => ⟨hk, hv, h3⟩) _ hE)
    refine ⟨_, ?_, g1, g2⟩
    simp [Instr.mapUpdate, run_underlying hty, getObj_run h2, hck, hfr, hkey, hst, setObj_map _ h2]
theorem d_update (hW : WR P m h nx w) (hF : FR m fr a.tmps sz) {t : TypeId} {x y z : Operand} (ho : o.op = .mapUpdate t x y z ∨ o.op = .insert t x y z) (hr : oUpdate t x y z P fr h nx = some r) : Did P m h w o a r := by
  obtain ⟨v1, h1, hr⟩ := bind_some hr
  obtain ⟨v2, h2, hr⟩ := bind_some hr
  obtain ⟨v3, h3, hr⟩ := bind_some hr
  obtain ⟨h', hh, rfl⟩ := map_some hr
  obtain ⟨w', g1, g2, g3⟩ := update_ok hW (evA_ok hW hF h1) (evA_ok hW hF h2) (evA_ok hW hF h3) hh
  refine ⟨undef, w', m, .inr ⟨?_, rfl⟩, g2, un_undef m, g3⟩
  rcases ho with ho | ho <;> simp [execOp, ho, g1]
theorem delete_ok (hW : WR P m h nx w) {ts : Array TypeId} {t ty : TypeId} (hts : ts[0]? = some t) {x k : AV} {X K : Value} (hx : VR m x X) (hk : VR m k K) {h' : Hp} (hr : deleteA P t x k h = some h') : DidV P m h w (Builtin.delete_ ts ty #[X, K]) ⟨un, h', nx⟩ := by
  obtain ⟨mt, hm, hr⟩ := bind_some hr
  obtain ⟨u, hku⟩ := mapK_some hm
  have hck := fun b => hku.check hk b w
  have hty := hku.ty
  cases x with
  | nilm =>
    cases hr; cases hx
    exact didV_pure hW (u := .tuple #[]) (by simp [Builtin.delete_, hts, run_underlying hty, hck]) (un_undef m)
  | mapv b =>
    obtain ⟨mp, hmp, hr⟩ := bind_some (show ((getMp h b).bind fun mp => (findA k mp.es 0).map (dlFd h b mp)) = some h' from hr)
    obtain ⟨res, hres, rfl⟩ := map_some hr
    obtain ⟨z, hz, rfl⟩ := hx.map_inv
    obtain ⟨z', es', h1, h2, hE⟩ := hW.mp hmp
    rw [hz] at h1; cases h1
    rcases findA_ok hku.is hk 0 hE hres with ⟨rfl, g⟩ | ⟨f, e, e', rfl, q1, q2, q3, q4, q5, q6, q7, q8, q9⟩
    · have hfr := find_run hku g w
      obtain ⟨g1, g2⟩ := map_turn (es2 := mp.es) (cl2 := mp.cl) hW hmp hz h2 (new := es') hE
      refine ⟨.tuple #[], _, m, ?_, g1, un_undef m, g2⟩
      simp [Builtin.delete_, hts, run_underlying hty, getObj_run h2, hck, hfr, setObj_map _ h2]
    · have hfr := find_run hku q8 w
      obtain ⟨g1, g2⟩ := map_turn (es2 := mp.es.eraseIdx f.i) (cl2 := mp.cl) hW hmp hz h2 (new := es'.eraseIdxIfInBounds f.i) (by rw [Array.toList_eraseIdxIfInBounds]; exact hE.erase _)
      refine ⟨.tuple #[], _, m, ?_, g1, un_undef m, g2⟩
      simp [Builtin.delete_, hts, run_underlying hty, getObj_run h2, hck, hfr, setObj_map _ h2]
  | _ => cases hr
theorem mkMap_ok (hW : WR P m h nx w) : ∃ m', WR P m' (mkMap h nx).h (mkMap h nx).nx (w.alloc (.map #[] 0)) ∧ VR m' (mkMap h nx).v (.map (some w.heap.size)) ∧ Evo m h w m' (mkMap h nx).h (w.alloc (.map #[] 0)) := by
  obtain ⟨h1, h2⟩ := hW.alloc (.map #[] 0) (.map [] 0) ⟨w.heap.size, 0, 0⟩ rfl ⟨⟨w.heap.size, 0, 0⟩, #[], upd_at _ _ _, heap_alloc_new w _, .nil⟩
  exact ⟨_, h1, .mapv (upd_at m nx _), h2⟩
theorem d_map (hW : WR P m h nx w) (hF : FR m fr a.tmps sz) {t : TypeId} {q : Option Operand} (ho : o.op = .makeMap t q) (hr : oMap t q P fr h nx = some r) : Did P m h w o a r := by
  obtain ⟨m', g1, g2, g3⟩ := mkMap_ok (P := P) hW
  cases q with
  | none =>
    cases hr
    exact ⟨_, _, m', .inl (by simp [execOp, ho, Instr.makeMap]), g1, g2, g3⟩
  | some q =>
    obtain ⟨mt, hm, hr⟩ := bind_some (show ((mapT P t).bind fun _ => ((evA fr q).bind asI).map fun _ => mkMap h nx) = some r from hr)
    obtain ⟨z, hz, rfl⟩ := map_some hr
    obtain ⟨v, hv, hz⟩ := bind_some hz
    obtain ⟨k, rfl⟩ := asI_some hz
    have e := (evA_ok hW hF hv).int_inv
    exact ⟨_, _, m', .inl (by simp [execOp, ho, Instr.makeMap, e, asInt, asIntOf, run_underlying (mapT_some hm)]), g1, g2, g3⟩
end
end Ex
end Go.Proofs.YtdngjkjoahgelaaGreatDoor

namespace Go.Proofs.YtdngjkjoahgelaaGreatDoor
set_option linter.all false
namespace Ex
open Go.RowKit
section
variable {P : Program} {m : Mz} {h : Hp} {nx : Nat} {w : World} {fr : Fm} {a : Act} {sz : Nat} {o : Oper} {r : Rs}
theorem asFail_ok {t : TypeId} {ok : Bool} {v : AV} (hv : asFail P t ok = some v) (m : Mz) : ok = true ∧ ∃ zv, (∀ w, (zeroValue t).run P w = .ok zv w) ∧ VR m v (.tuple #[zv, .bool false]) := by
  obtain ⟨hok, hv⟩ := cond_some hv
  obtain ⟨z, hz, rfl⟩ := map_some hv
  obtain ⟨i, zv, hi, hz0, hov, hzr⟩ := run_zero hz
  exact ⟨hok, zv, hzr, .tup (.cons (ofV_ok m 10 zv z hov) (.cons (.bool _) .nil))⟩
theorem asHold_ok {v : AV} {u : Value} (hv : VR m v u) (ok : Bool) : VR m (asHold v ok) (if ok = true then .tuple #[u, .bool true] else u) := by
  cases ok
  · exact hv
  · exact .tup (.cons hv (.cons (.bool _) .nil))
theorem ifD_some {u : TypeDesc} {ms : Array (String × TypeId)} (hu : ifD u = some ms) : u = .interface ms := by cases u <;> first | (cases hu; rfl) | cases hu
theorem assert_ok {t aT : TypeId} {x : AV} {ok : Bool} {v : AV} {X : Value} (hx : VR m x X) (hr : assertA P x aT ok = some v) (w : World) : ∃ u, (Instr.typeAssert X t aT ok).run P w = .ok u w ∧ VR m v u := by
  obtain ⟨u, hu, hr⟩ := bind_some hr
  unfold assertU at hr
  cases hi : ifD u with
  | some ms =>
    rw [hi] at hr
    have hi := ifD_some hi
    subst hi
    cases x with
    | nili =>
      obtain ⟨rfl, zv, hz, hv⟩ := asFail_ok (show asFail P aT ok = some v from hr) m
      cases hx
      exact ⟨_, by simp [Instr.typeAssert, run_underlying hu, hz], hv⟩
    | iface d y =>
      obtain ⟨i, hinfo, hr⟩ := bind_some (show (P.info? d).bind (asWant P (.iface d y) aT ok ms) = some v from hr)
      cases hx with
      | iface _ hy =>
        unfold asWant at hr
        cases hm : Instr.missingMethod ms i.methods with
        | none =>
          rw [hm] at hr
          cases hr
          refine ⟨_, ?_, asHold_ok (.iface d hy) ok⟩
          simp [Instr.typeAssert, run_underlying hu, typeInfo, hinfo, hm]
        | some s =>
          rw [hm] at hr
          obtain ⟨rfl, zv, hz, hv⟩ := asFail_ok (show asFail P aT ok = some v from hr) m
          exact ⟨_, by simp [Instr.typeAssert, run_underlying hu, typeInfo, hinfo, hm, hz], hv⟩
    | _ => cases hr
  | none =>
    rw [hi] at hr
    cases x with
    | nili =>
      obtain ⟨rfl, zv, hz, hv⟩ := asFail_ok (show asFail P aT ok = some v from hr) m
      cases hx
      refine ⟨_, ?_, hv⟩
      cases u <;> first | (cases hi; done) | simp [Instr.typeAssert, run_underlying hu, hz]
    | iface d y =>
      cases hx with
      | iface _ hy =>
        rcases cond_none (show (bif Nat.beq d aT then some (asHold y ok) else asFail P aT ok) = some v from hr) with ⟨h0, hq⟩ | ⟨h0, hq⟩
        · have h0 : d = aT := Nat.eq_of_beq_eq_true h0
          subst h0
          have hve : asHold y ok = v := Option.some.inj hq
          rw [← hve]
          refine ⟨_, ?_, asHold_ok hy ok⟩
          cases u <;> first | (cases hi; done) | simp [Instr.typeAssert, run_underlying hu]
        · have h0 : ¬ d = aT := fun e => by subst e; rw [show Nat.beq d d = true by rw [beq_eq]; simp] at h0; cases h0
          obtain ⟨rfl, zv, hz, hv⟩ := asFail_ok (show asFail P aT ok = some v from hq) m
          refine ⟨_, ?_, hv⟩
          cases u <;> first | (cases hi; done) | simp [Instr.typeAssert, run_underlying hu, h0, hz]
    | _ => cases hr
theorem d_assert (hW : WR P m h nx w) (hF : FR m fr a.tmps sz) {x : Operand} {t aT : TypeId} {ok : Bool} (ho : o.op = .typeAssert x t aT ok) (hr : oAssert x t aT ok P fr h nx = some r) : Did P m h w o a r := by
  obtain ⟨v, hv, rfl⟩ := pv_some hr
  obtain ⟨y, hy, hv⟩ := bind_some hv
  obtain ⟨u, hu, hvu⟩ := assert_ok (t := t) (evA_ok hW hF hy) hv w
  exact did_val hW (u := u) (by simp [execOp, ho, hu]) hvu
theorem geq_run (x y : List UInt8) (w : World) : (Op.stringOp .geq ⟨x.toArray⟩ ⟨y.toArray⟩).run P w = .ok (.bool (!ltS x y)) w := by
  obtain ⟨u, hu, hv⟩ := binS_ok (P := P) (op := .geq) (x := x) (y := y) (v := .bool (!ltS x y)) rfl (fun _ => none) 0 w
  rw [hv.bool_inv] at hu
  exact hu
theorem leq_run (x y : List UInt8) (w : World) : (Op.stringOp .leq ⟨x.toArray⟩ ⟨y.toArray⟩).run P w = .ok (.bool (!ltS y x)) w := by
  obtain ⟨u, hu, hv⟩ := binS_ok (P := P) (op := .leq) (x := x) (y := y) (v := .bool (!ltS y x)) rfl (fun _ => none) 0 w
  rw [hv.bool_inv] at hu
  exact hu
theorem max2_ok {x y v : AV} (hr : max2 x y = some v) {X Y : Value} (hx : VR m x X) (hy : VR m y Y) (w : World) : ∃ u, (Builtin.max2 X Y).run P w = .ok u w ∧ VR m v u := by
  cases x with
  | int k z =>
    cases y with
    | int k' z' =>
      cases hr; cases hx; cases hy
      refine ⟨_, rfl, ?_⟩
      rw [ltZ_eq]
      by_cases hlt : z < z'
      · rw [if_pos hlt, show decide (z < z') = true from decide_eq_true hlt]; exact .int _ _
      · rw [if_neg hlt, show decide (z < z') = false from decide_eq_false hlt]; exact .int _ _
    | _ => cases hr
  | str s =>
    cases y with
    | str s' =>
      cases hr; cases hx; cases hy
      refine ⟨.string (if (!ltS s s') = true then ⟨s.toArray⟩ else ⟨s'.toArray⟩), ?_, ?_⟩
      · simp [Builtin.max2, geq_run, asBool]
      · cases ltS s s' <;> exact .str _
    | _ => cases hr
  | _ => cases hr
theorem min2_ok {x y v : AV} (hr : min2 x y = some v) {X Y : Value} (hx : VR m x X) (hy : VR m y Y) (w : World) : ∃ u, (Builtin.min2 X Y).run P w = .ok u w ∧ VR m v u := by
  cases x with
  | int k z =>
    cases y with
    | int k' z' =>
      cases hr; cases hx; cases hy
      refine ⟨_, rfl, ?_⟩
      rw [ltZ_eq]
      by_cases hlt : z' < z
      · rw [if_pos hlt, show decide (z' < z) = true from decide_eq_true hlt]; exact .int _ _
      · rw [if_neg hlt, show decide (z' < z) = false from decide_eq_false hlt]; exact .int _ _
    | _ => cases hr
  | str s =>
    cases y with
    | str s' =>
      cases hr; cases hx; cases hy
      refine ⟨.string (if (!ltS s' s) = true then ⟨s.toArray⟩ else ⟨s'.toArray⟩), ?_, ?_⟩
      · simp [Builtin.min2, leq_run, asBool]
      · cases ltS s' s <;> exact .str _
    | _ => cases hr
  | _ => cases hr
theorem fold_ok {f : AV → AV → Option AV} {g : Value → Value → Sem Value} (hfg : ∀ {x y v : AV}, f x y = some v → ∀ {X Y : Value}, VR m x X → VR m y Y → ∀ w, ∃ u, (g X Y).run P w = .ok u w ∧ VR m v u) :
    ∀ {l : List AV} {us : List Value} {x v : AV} {X : Value}, VRL m l us → VR m x X → foldA f l x = some v → ∀ w : World, ∃ u, (us.foldlM g X).run P w = .ok u w ∧ VR m v u
  | [], _, x, v, X, .nil, hx, hf, w => by cases hf; exact ⟨X, by simp, hx⟩
  | y :: l, _, x, v, X, .cons (u := Y) hy hl, hx, hf, w => by
    obtain ⟨v1, h1, hf⟩ := bind_some (show (f x y).bind (foldA f l) = some v from hf)
    obtain ⟨u1, h2, h3⟩ := hfg h1 hx hy w
    obtain ⟨u, h4, h5⟩ := fold_ok hfg hl h3 hf w
    exact ⟨u, by simp [List.foldlM_cons, h2, h4], h5⟩
theorem data_ok (hW : WR P m h nx w) {ts : Array TypeId} {ty : TypeId} {x v : AV} {X : Value} (hx : VR m x X) (hr : dataA x = some v) : ∃ u, (Builtin.unsafeSliceData_ ts ty #[X]).run P w = .ok u w ∧ VR m v u := by
  cases x with
  | nils => cases hr; cases hx; exact ⟨_, rfl, .nilp⟩
  | slice b oo n c ex =>
    obtain ⟨hc, hr⟩ := cond_some (show (bif Nat.blt 0 c then some (AV.ptr b oo) else none) = some v from hr)
    cases hr
    rw [blt_eq] at hc
    have hc : 0 < c := of_decide_eq_true hc
    obtain ⟨z, hz, hcase⟩ := hx.slice_inv
    rcases hcase with rfl | ⟨_, h0, _⟩
    · have hne : (if ex = true then c else c + z.ext) ≠ 0 := by split <;> omega
      obtain ⟨C, hC⟩ : ∃ C, (if ex = true then c else c + z.ext) = C := ⟨_, rfl⟩
      rw [hC] at hne ⊢
      have hdef : Builtin.unsafeSliceData_ ts ty #[.slice (some ⟨z.blk, z.sh + oo, none⟩) n C] =
          (do
            if C ≠ 0 then pure (.pointer (some ⟨z.blk, z.sh + oo, none⟩))
            else if (← viewAt z.blk).isSome then pure (.pointer (some ⟨z.blk, z.sh + oo, none⟩))
            else pure (.pointer (some ⟨← newObj (.view ⟨z.blk, z.sh + oo, none⟩ (← elemOf ty)), 0, none⟩))) := rfl
      exact ⟨_, by rw [hdef, if_pos hne]; rfl, .ptr _ hz⟩
    · omega
  | _ => cases hr
theorem did_of {S : Sem Value} (hS : DidV P m h w S r) (he : (execOp a.eval o).run P w = (S.run P w).andThen fun u w' => .ok (.value u) w') : Did P m h w o a r := by
  obtain ⟨v, w', m', h1, h2, h3, h4⟩ := hS
  exact ⟨v, w', m', .inl (by rw [he, h1]; rfl), h2, h3, h4⟩
theorem vrl1 {x : AV} {us : Array Value} (hv : VRL m [x] us.toList) : ∃ X, us = #[X] ∧ VR m x X := by
  obtain ⟨l⟩ := us
  cases hv with
  | cons h1 h2 => cases h2; exact ⟨_, rfl, h1⟩
theorem vrl2 {x y : AV} {us : Array Value} (hv : VRL m [x, y] us.toList) : ∃ X Y, us = #[X, Y] ∧ VR m x X ∧ VR m y Y := by
  obtain ⟨l⟩ := us
  cases hv with
  | cons h1 h2 => cases h2 with
    | cons h2 h3 => cases h3; exact ⟨_, _, rfl, h1, h2⟩
theorem head_get {ts : Array TypeId} {t : TypeId} {l : List TypeId} (h : ts.toList = t :: l) : ts[0]? = some t := by
  rw [← Array.getElem?_toList, h]; rfl
theorem bi2_some {f : Program → TypeId → AV → AV → Hp → Nat → Option Rs} {ts : List TypeId} {vs : List AV} (hr : bi2 f P ts vs h nx = some r) : ∃ t l x y, ts = t :: l ∧ vs = [x, y] ∧ f P t x y h nx = some r := by
  unfold bi2 at hr
  split at hr
  · split at hr
    · exact ⟨_, _, _, _, rfl, rfl, hr⟩
    · cases hr
  · cases hr
theorem bi1_some {f : Program → TypeId → AV → Hp → Option Nat} {ts : List TypeId} {vs : List AV} (hr : bi1 f P ts vs h nx = some r) : ∃ t l x n, ts = t :: l ∧ vs = [x] ∧ f P t x h = some n ∧ r = intRs h nx n := by
  unfold bi1 at hr
  split at hr
  · split at hr
    · obtain ⟨n, hn, rfl⟩ := map_some hr
      exact ⟨_, _, _, _, rfl, rfl, hn, rfl⟩
    · cases hr
  · cases hr
theorem d_bi (hW : WR P m h nx w) (hF : FR m fr a.tmps sz) {b : Builtin} {args : Array Operand} {ts : Array TypeId} (ho : o.op = .call { callee := .builtin b, args := args, argTypes := ts }) (hr : oBuiltin b args ts P fr h nx = some r) : Did P m h w o a r := by
  obtain ⟨vs, hvs, hr⟩ := bind_some hr
  have hv := evL_ok hW hF hvs
  rw [← Array.toList_map] at hv
  obtain ⟨us, hus⟩ : ∃ us, args.map a.eval = us := ⟨_, rfl⟩
  rw [hus] at hv
  obtain ⟨cc, hrun⟩ : ∃ cc, (execOp a.eval o).run P w = (builtin b ts o.type cc us).run P w := ⟨args.map fun | .const _ => true | _ => false, by
    simp [execOp, ho, resolve, invoke, hus]; rfl⟩
  cases b with
  | append =>
    have hr : biApp P ts.toList vs h nx = some r := hr
    unfold biApp at hr
    split at hr
    · rename_i t u hts
      obtain ⟨hu, hr⟩ := cond_some hr
      obtain ⟨t', l, x, y, hl, rfl, hq⟩ := bi2_some hr
      cases hl
      obtain ⟨X, Y, rfl, hx, hy⟩ := vrl2 hv
      have hts' : ts = #[t, u] := by apply Array.ext'; rw [hts]
      subst hts'
      exact did_of (append_ok (ty := o.type) hW hx hy hu hq) (by rw [hrun]; simp [builtin])
    · cases hr
  | copy =>
    have hr : bi2 copyA P ts.toList vs h nx = some r := hr
    obtain ⟨t, l, x, y, hl, rfl, hq⟩ := bi2_some hr
    obtain ⟨X, Y, rfl, hx, hy⟩ := vrl2 hv
    exact did_of (copy_ok (ty := o.type) hW (head_get hl) hx hy hq) (by rw [hrun]; simp [builtin])
  | len =>
    have hr : bi1 lenB P ts.toList vs h nx = some r := hr
    obtain ⟨t, l, x, n, hl, rfl, hq, rfl⟩ := bi1_some hr
    obtain ⟨X, rfl, hx⟩ := vrl1 hv
    exact did_of (didV_pure hW (len_ok (ty := o.type) hW (head_get hl) hx hq) (int_vr m n)) (by rw [hrun]; simp [builtin])
  | cap =>
    have hr : bi1 capB P ts.toList vs h nx = some r := hr
    obtain ⟨t, l, x, n, hl, rfl, hq, rfl⟩ := bi1_some hr
    obtain ⟨X, rfl, hx⟩ := vrl1 hv
    exact did_of (didV_pure hW (cap_ok (ty := o.type) hW (head_get hl) hx hq) (int_vr m n)) (by rw [hrun]; simp [builtin])
  | delete =>
    have hr : bi2 (fun P t m k h nx => (deleteA P t m k h).map (ph nx)) P ts.toList vs h nx = some r := hr
    obtain ⟨t, l, x, y, hl, rfl, hq⟩ := bi2_some hr
    obtain ⟨h', hq2, rfl⟩ := map_some hq
    obtain ⟨X, Y, rfl, hx, hy⟩ := vrl2 hv
    exact did_of (delete_ok (ty := o.type) hW (head_get hl) hx hy hq2) (by rw [hrun]; simp [builtin])
  | clear =>
    have hr : biClear P ts.toList vs h nx = some r := hr
    unfold biClear at hr
    split at hr
    · rename_i t l hts
      split at hr
      · obtain ⟨X, rfl, hx⟩ := vrl1 hv
        exact did_of (clear_ok (ty := o.type) hW (head_get hts) hx hr) (by rw [hrun]; simp [builtin])
      · cases hr
    · cases hr
  | unsafeSliceData =>
    have hr : biData P ts.toList vs h nx = some r := hr
    unfold biData at hr
    split at hr
    · obtain ⟨v, hv', rfl⟩ := pv_some hr
      obtain ⟨X, rfl, hx⟩ := vrl1 hv
      obtain ⟨u, hu, hvu⟩ := data_ok (ts := ts) (ty := o.type) hW hx hv'
      exact did_of (didV_pure hW hu hvu) (by rw [hrun]; simp [builtin])
    · cases hr
  | unsafeString =>
    have hr : bi2 ustrA P ts.toList vs h nx = some r := hr
    obtain ⟨t, l, x, y, hl, rfl, hq⟩ := bi2_some hr
    obtain ⟨X, Y, rfl, hx, hy⟩ := vrl2 hv
    exact did_of (ustr_ok (ty := o.type) hW (head_get hl) hx hy hq) (by rw [hrun]; simp [builtin])
  | max =>
    have hr : biFold max2 P ts.toList vs h nx = some r := hr
    unfold biFold at hr
    split at hr
    · obtain ⟨v, hv', rfl⟩ := pv_some hr
      obtain ⟨ul⟩ := us
      cases hv with
      | cons hx hl =>
        obtain ⟨u, hu, hvu⟩ := fold_ok (P := P) (f := max2) (g := Builtin.max2) (fun h1 _ _ h2 h3 w => max2_ok h1 h2 h3 w) hl hx hv' w
        exact did_of (didV_pure hW (S := Builtin.max_ ts o.type _) (show (Builtin.max_ ts o.type ⟨_ :: _⟩).run P w = _ from hu) hvu) (by rw [hrun]; simp [builtin])
    · cases hr
  | min =>
    have hr : biFold min2 P ts.toList vs h nx = some r := hr
    unfold biFold at hr
    split at hr
    · obtain ⟨v, hv', rfl⟩ := pv_some hr
      obtain ⟨ul⟩ := us
      cases hv with
      | cons hx hl =>
        obtain ⟨u, hu, hvu⟩ := fold_ok (P := P) (f := min2) (g := Builtin.min2) (fun h1 _ _ h2 h3 w => min2_ok h1 h2 h3 w) hl hx hv' w
        exact did_of (didV_pure hW (S := Builtin.min_ ts o.type _) (show (Builtin.min_ ts o.type ⟨_ :: _⟩).run P w = _ from hu) hvu) (by rw [hrun]; simp [builtin])
    · cases hr
  | _ => cases hr
theorem opA_ok (hW : WR P m h nx w) (hF : FR m fr a.tmps sz) (hr : opA o.op P fr h nx = some r) : Did P m h w o a r := by
  cases ho : o.op with
  | move x => rw [ho] at hr; exact d_move hW hF (.inl ho) hr
  | assign x => rw [ho] at hr; exact d_move hW hF (.inr ho) hr
  | pick c x y => rw [ho] at hr; exact d_pick hW hF ho hr
  | alloc t => rw [ho] at hr; exact d_alloc (fr := fr) hW ho hr
  | box t x => rw [ho] at hr; exact d_box hW hF ho hr
  | build t ps => rw [ho] at hr; exact d_build hW hF ho hr
  | buildSlice t n ps => rw [ho] at hr; exact d_buildSlice hW hF ho hr
  | load t x => rw [ho] at hr; exact d_load hW hF ho hr
  | store t x y => rw [ho] at hr; exact d_store hW hF ho hr
  | nilCheck x => rw [ho] at hr; exact d_nil hW hF ho hr
  | binOp op t x y t' => rw [ho] at hr; exact d_bin hW hF ho hr
  | unOp op t x => rw [ho] at hr; exact d_un hW hF ho hr
  | convert s d x => rw [ho] at hr; exact d_conv hW hF ho hr
  | makeInterface t x => rw [ho] at hr; exact d_ifc hW hF ho hr
  | makeFunc f x y => rw [ho] at hr; exact d_func hW hF ho hr
  | makeMap t q => rw [ho] at hr; exact d_map hW hF ho hr
  | makeSlice t x y => rw [ho] at hr; exact d_make hW hF ho hr
  | slice t x lo hi mx => rw [ho] at hr; exact d_slice hW hF ho hr
  | fieldAddr t x f => rw [ho] at hr; exact d_fieldAddr hW hF ho hr
  | field t x f => rw [ho] at hr; exact d_field hW hF ho hr
  | indexAddr t x y => rw [ho] at hr; exact d_indexAddr hW hF ho hr
  | index t x y => rw [ho] at hr; exact d_index hW hF ho hr
  | lookup t x y ok => rw [ho] at hr; exact d_lookup hW hF ho hr
  | mapUpdate t x y z => rw [ho] at hr; exact d_update hW hF (.inl ho) hr
  | insert t x y z => rw [ho] at hr; exact d_update hW hF (.inr ho) hr
  | typeAssert x t aT ok => rw [ho] at hr; exact d_assert hW hF ho hr
  | extract x i => rw [ho] at hr; exact d_extract hW hF ho hr
  | call c =>
    rw [ho] at hr
    obtain ⟨callee, args, ts⟩ := c
    cases callee with
    | builtin b => exact d_bi hW hF ho hr
    | _ => cases hr
  | _ => rw [ho] at hr; cases hr
end
end Ex
end Go.Proofs.YtdngjkjoahgelaaGreatDoor
