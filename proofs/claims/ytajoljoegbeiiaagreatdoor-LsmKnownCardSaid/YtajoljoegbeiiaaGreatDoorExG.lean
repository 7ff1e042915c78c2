/-
  The executor: conversions, texts out of bytes.
-/
import Derived.Test.YtajoljoegbeiiaaGreatDoorExF
import Derived.Lib.Builder
import Derived.Lib.UnsafeStr
import Derived.Laws.IdiomStrings
import Derived.Laws.BytesArg
namespace Go.Proofs.YtajoljoegbeiiaaGreatDoor
set_option linter.all false
namespace Ex
open Go.RowKit
section
variable {P : Program} {m : Mz} {h : Hp} {nx : Nat} {w : World} {fr : Fm} {a : Act} {sz : Nat} {o : Oper} {r : Rs}
theorem byteOf_some {v : AV} {b : UInt8} (hb : byteOf v = some b) {u : Value} (hv : VR m v u) : u = .int .u8 (b.toNat : Int) := by
  cases v with
  | int k z =>
    obtain ⟨n, hn, hb⟩ := bind_some (show (natZ z).bind (byteN k) = some b from hb)
    obtain ⟨hk, hb⟩ := cond_some hb
    obtain ⟨hk1, hk2⟩ := Bool.and_eq_true_iff.1 hk
    cases hb
    have hz : z = .ofNat n := by cases z <;> first | (cases hn; rfl) | cases hn
    have hk1 : k = .u8 := of_decide_eq_true hk1
    rw [blt_eq] at hk2
    have hk2 : n < 256 := of_decide_eq_true hk2
    subst hz hk1
    rw [hv.int_inv]
    congr 1
    have : (UInt8.ofNat n).toNat = n := by simp; omega
    rw [this]; rfl
  | _ => cases hb
theorem bytesOf_ok : ∀ {l : List AV} {bs : List UInt8}, bytesOf l = some bs → ∀ {us : List Value}, VRL m l us → us = bs.map fun b => Value.int .u8 (b.toNat : Int)
  | [], bs, hb, us, hv => by cases hb; cases hv; rfl
  | v :: l, bs, hb, us, hv => by
    obtain ⟨y, ys, h1, h2, rfl⟩ := consO_some (show consO (byteOf v) (bytesOf l) = some bs from hb)
    cases hv with
    | cons hv hl => rw [byteOf_some h1 hv, bytesOf_ok h2 hl]; rfl
theorem bytesOf_rep {v : AV} {c : UInt8} (hc : byteOf v = some c) : ∀ (n o : Nat), bytesOf (listOf v .nil n o) = some (List.replicate n c) := fun n o => by
  have h1 : listOf v .nil n o = List.replicate n v := by
    refine List.ext_getElem? fun i => ?_
    by_cases hi : i < n
    · rw [listOf_get _ _ _ _ _ hi, List.getElem?_replicate, if_pos hi]; rfl
    · rw [List.getElem?_eq_none (by rw [listOf_len]; omega), List.getElem?_eq_none (by simp; omega)]
  rw [h1]
  clear h1
  induction n with
  | zero => rfl
  | succ n ih =>
    show consO (byteOf v) (bytesOf (List.replicate n v)) = _
    rw [hc, ih]; rfl
theorem isU8_some {e : TypeId} (he : isU8 P e = true) : P.underlying e = some (.int .u8) := by
  obtain ⟨u, hu, hk⟩ := map_some (getD_true he)
  have : u = .int .u8 := by
    unfold isU8D at hk
    split at hk
    · rfl
    · cases hk
  rw [hu, this]
theorem one_some {e : TypeId} (he : ((sizeT P e).map (Nat.beq 1)).getD false = true) : sizeT P e = some 1 := by
  obtain ⟨n, hn, h1⟩ := map_some (getD_true he)
  have : 1 = n := Nat.eq_of_beq_eq_true h1
  rw [hn, this]
theorem run_bytesToString_us {bs : List UInt8} {y : Value} {n : Nat} (hlen : bs.length = n) (hf : ∃ A C, y = .slice A n C) (hr : (Builtin.firstCells 1 n y).run P w = .ok (bs.map fun b => Value.int .u8 (b.toNat : Int)).toArray w) :
    (Conv.bytesToString y).run P w = .ok (.string ⟨bs.toArray⟩) w := by
  obtain ⟨A, C, rfl⟩ := hf
  cases A with
  | none =>
    simp only [Builtin.firstCells, Sem.run_pure] at hr
    have hb : bs = [] := by
      injection hr with hr _
      have := congrArg Array.size hr
      simp at this
      exact List.eq_nil_of_length_eq_zero this.symm
    subst hb
    simp [Conv.bytesToString]; rfl
  | some ad =>
    simp only [Builtin.firstCells, Nat.mul_one] at hr
    have := run_bytesToString w ad n C (bs.map fun b => (b.toNat : Int)) (by rw [hr]; simp [Function.comp_def])
    rw [this]
    congr 2
    exact foldl_push_byteCells bs ByteArray.empty |>.trans (by simp)
/-- Numbers, texts. -/
theorem conv_ok (hW : WR P m h nx w) {s d : TypeId} {x : AV} {X : Value} (hx : VR m x X) (hr : convA P s d x h nx = some r) : DidV P m h w (convert s d X) r := by
  obtain ⟨su, hs, hr⟩ := bind_some hr
  obtain ⟨du, hd, hr⟩ := bind_some hr
  cases du with
  | int k =>
    obtain ⟨z, hz, rfl⟩ := map_some (show (asI x).map (fun z => pv h nx (.int k (wrapZ k z))) = some r from hr)
    obtain ⟨k', rfl⟩ := asI_some hz
    rw [hx.int_inv, wrapZ_eq]
    exact didV_pure hW (by simp [convert, run_underlying hs, run_underlying hd, Conv.intToInt]) (.int _ _)
  | string =>
    cases su with
    | string =>
      obtain ⟨b, hb, rfl⟩ := map_some (show (asS x).map (strRs h nx) = some r from hr)
      rw [asS_some hb] at hx
      rw [hx.str_inv]
      exact didV_pure hW (by simp [convert, run_underlying hs, run_underlying hd]) (.str _)
    | slice e =>
      obtain ⟨h8, hr⟩ := cond_some (show (bif isU8 P e then (lenD x).bind (cvSlN x h nx) else none) = some r from hr)
      obtain ⟨n, hn, hr⟩ := bind_some hr
      have he := isU8_some h8
      have main : ∀ (l : List AV) (bs : List UInt8), newsA h 1 n x = some l → bytesOf l = some bs → (convert s d X).run P w = .ok (.string ⟨bs.toArray⟩) w := fun l bs hl hbs => by
        obtain ⟨us, h1, h2, h3, _⟩ := news_ok (P := P) hW hl (lenD_A hn) (Nat.le_refl _) hx
        have hus := bytesOf_ok hbs h2
        subst hus
        have h3 := h3 w rfl
        obtain ⟨A, C, hX⟩ := lenD_ok hn hx
        have hrun := run_bytesToString_us (P := P) (by simpa using h1) ⟨A, C, hX⟩ h3
        subst hX
        rw [run_convert_bytes_string w _ _ _ A _ _ hs he hd, hrun]
      unfold cvSlN at hr
      cases hbig : Nat.blt 65536 n with
      | false =>
        rw [hbig] at hr
        obtain ⟨l, hl, hr⟩ := bind_some hr
        obtain ⟨bs, hbs, rfl⟩ := map_some hr
        exact didV_pure hW (main l bs hl hbs) (.str _)
      | true =>
        rw [hbig] at hr
        have hr : repSl n x h nx = some r := hr
        cases x with
        | slice b o n' c ex =>
          have hn' : n' = n := by cases hn; rfl
          obtain ⟨k, hk, hr⟩ := bind_some (show (getBk h b).bind (repBk o n h nx) = some r from hr)
          unfold repBk at hr
          cases hkt : k.t with
          | node v lt rt => rw [hkt] at hr; cases hr
          | nil =>
            rw [hkt] at hr
            obtain ⟨hle, hr⟩ := cond_some hr
            obtain ⟨c8, hc8, rfl⟩ := map_some hr
            cases n with
            | zero => cases hbig
            | succ n =>
              have hl : newsA h 1 (n + 1) (.slice b o n' c ex) = some (listOf k.d k.t (n + 1) o) := by
                show loadN h b o (Nat.mul (Nat.succ n) 1) = _
                have e1 : Nat.mul (Nat.succ n) 1 = n + 1 := Nat.mul_one _
                rw [e1]
                unfold loadN
                rw [hk]
                show ldNIn o (n + 1) k = _
                unfold ldNIn
                rw [show Nat.ble (Nat.add o (n + 1)) k.n = true from hle]
                rfl
              exact didV_pure hW (main _ _ hl (by rw [hkt]; exact bytesOf_rep hc8 (n + 1) o)) (.rep _ _)
        | _ => cases hr
    | _ => cases hr
  | slice e =>
    cases su with
    | string =>
      obtain ⟨h8, hr⟩ := cond_some (show (bif isU8 P e && ((sizeT P e).map (Nat.beq 1)).getD false then (asS x).map (mkBytes e h nx) else none) = some r from hr)
      obtain ⟨h8, h1⟩ := Bool.and_eq_true_iff.1 h8
      obtain ⟨b, hb, rfl⟩ := map_some hr
      rw [asS_some hb] at hx
      rw [hx.str_inv]
      have he := isU8_some h8
      have hz := cellsOf_eq (one_some h1)
      have hrun := run_bytes_of_string (P := P) w s d e ⟨b.toArray⟩ hs hd he
      have hbs : (⟨b.toArray⟩ : ByteArray).size = b.length := by simp [ByteArray.size]
      have hcap := grownCap_ge w (⟨b.toArray⟩ : ByteArray).size 0 e
      obtain ⟨cap, hce⟩ : ∃ cap, grownCap w (⟨b.toArray⟩ : ByteArray).size 0 e = cap := ⟨_, rfl⟩
      rw [hce] at hrun hcap
      rw [hbs] at hcap
      have hsize : (bytesRow ⟨b.toArray⟩ cap).size = cap := by
        simp [bytesRow, hbs]; omega
      have hWd : WR P m h nx w.drew := hW.drew rfl
      have hvr := bytes_vr m b
      have hbl : (bytesA b).length = b.length := by rw [bytesA_eq, List.length_map]
      have hnew := newBk_ok hWd hvr (n := b.length) hbl (bytesRow ⟨b.toArray⟩ cap) (fun i u hi => by
        have hlt := (List.getElem?_eq_some_iff.1 hi).1
        unfold bytesRow
        rw [Array.getElem?_append_left (by simpa using hlt)]
        simpa using hi) e false (cap - b.length) (by rw [hz, hsize]; omega) (fun hc => by cases hc) (cap, cap + 1) (fun j _ hj hh => by rw [hsize] at hj; have := hh.1; simp at this; omega) (fun hc => by cases hc)
      rw [hsize] at hrun
      refine ⟨_, _, upd m nx ⟨w.heap.size, 0, cap - b.length⟩, hrun, ?_, ?_, ?_⟩
      · show WR P _ (newCells h nx (bytesA b) (lenL b) e false) (nx + 1) _
        rw [lenL_eq]; exact hnew.1
      · show VR _ (.slice nx 0 (lenL b) (lenL b) false) _
        rw [lenL_eq, hbs]
        have := VR.slice (m := upd m nx ⟨w.heap.size, 0, cap - b.length⟩) (b := nx) 0 b.length b.length false (upd_at m nx _)
        rw [show (if false = true then b.length else b.length + (⟨w.heap.size, 0, cap - b.length⟩ : Cz).ext) = cap by simp; omega] at this
        exact this
      · show Evo _ _ _ _ (newCells h nx (bytesA b) (lenL b) e false) _
        rw [lenL_eq]
        exact (Evo.drew (h := h) (m := m) (w := w) (w' := w.drew) rfl rfl rfl rfl).trans hnew.2
    | _ => cases hr
  | unsafePointer =>
    cases su with
    | pointer t =>
      obtain ⟨p, hp, hr⟩ := bind_some (show ((asP x).bind fun p => bif cvUn0 t P h p then some (⟨x, h, nx⟩ : Rs) else none) = some r from hr)
      obtain ⟨hc, hr⟩ := cond_some hr
      cases hr
      rw [asP_some hp] at hx ⊢
      obtain ⟨z, hz, rfl⟩ := hx.ptr_inv
      obtain ⟨hc1, hc2⟩ := Bool.and_eq_true_iff.1 hc
      obtain ⟨k, hk, hc1⟩ := map_some (getD_true hc1)
      obtain ⟨n, hn, hc2⟩ := map_some (getD_true hc2)
      rw [blt_eq] at hc1 hc2
      have hc1 : p.o < k.n := of_decide_eq_true hc1
      have hc2 : 0 < n := of_decide_eq_true hc2
      obtain ⟨i, hi, rfl⟩ := sizeT_some hn
      obtain ⟨z', cs, fz, hB⟩ := hW.bk hk
      have := hB.hm; rw [hz] at this; cases this
      have hsz := hB.sz
      exact didV_pure hW (Lib.run_to_unsafe w ⟨z.blk, z.sh + p.o, none⟩ hs hd hi (by omega) (e := k.e) (cells := cs.size) (by simp [World.shape?, hB.hp]) (by show z.sh + p.o < cs.size; omega)) (.ptr _ hz)
    | _ => cases hr
  | pointer u =>
    cases su with
    | unsafePointer =>
      obtain ⟨p, hp, hr⟩ := bind_some (show ((asP x).bind fun p => bif ((getBk h p.b).map (cvPt0 u P p)).getD false then some (⟨x, h, nx⟩ : Rs) else none) = some r from hr)
      obtain ⟨hc, hr⟩ := cond_some hr
      cases hr
      rw [asP_some hp] at hx ⊢
      obtain ⟨z, hz, rfl⟩ := hx.ptr_inv
      obtain ⟨k, hk, hc⟩ := map_some (getD_true hc)
      unfold cvPt0 at hc
      simp only [Bool.and_eq_true, Bool.not_eq_true'] at hc
      obtain ⟨⟨⟨hc1, hc2⟩, hc3⟩, hc4⟩ := hc
      obtain ⟨n, hn, hc3⟩ := map_some (getD_true hc3)
      rw [blt_eq] at hc3
      have hc3 : 0 < n := of_decide_eq_true hc3
      obtain ⟨i, hi, rfl⟩ := sizeT_some hn
      obtain ⟨z', cs, fz, hB⟩ := hW.bk hk
      have := hB.hm; rw [hz] at this; cases this
      obtain ⟨g1, g2⟩ := hB.whole hc1 hc2
      refine didV_pure hW (Lib.run_from_unsafe w ⟨z.blk, z.sh + p.o, none⟩ hs hd hi (e := k.e) (cells := cs.size) (by simp [World.shape?, hB.hp]) ?_) (.ptr _ hz)
      show liesAt P P.depth k.e (cs.size / P.cellsOf k.e) (z.sh + p.o) u 1 = true
      rw [g1, g2, Nat.zero_add]; exact hc4
    | _ => cases hr
  | _ => cases hr
theorem d_conv (hW : WR P m h nx w) (hF : FR m fr a.tmps sz) {s d : TypeId} {x : Operand} (ho : o.op = .convert s d x) (hr : oConv s d x P fr h nx = some r) : Did P m h w o a r := by
  obtain ⟨v, hv, hr⟩ := bind_some hr
  obtain ⟨u, w', m', h1, h2, h3, h4⟩ := conv_ok hW (evA_ok hW hF hv) hr
  exact ⟨u, w', m', .inl (by simp [execOp, ho, h1]), h2, h3, h4⟩
/-! ### Frozen bytes -/
theorem frozen_ok {w' : World} (hW : WR P m h nx w) {b : Nat} {k : Bk} {z : Cz} {cs : Array Value} {fz fz' : Nat × Nat} (hb : h.get .dead b = .cells k) (hro : k.ro = false) (hst : k.st = false) (hB : BR P m w b k z cs fz)
    (hw1 : w'.heap[z.blk]? = some (.cells cs k.e fz')) (hw2 : ∀ j, j ≠ z.blk → w'.heap[j]? = w.heap[j]?) (hsz : w'.heap.size = w.heap.size) (hos : w'.os = w.os) (ht : w'.tape = w.tape) (hp : w'.output = w.output) {f : Nat} (hf : f ≠ 0) :
    WR P m (setBk h b { k with st := true, fz := f }) nx w' ∧ Evo m h w m (setBk h b { k with st := true, fz := f }) w' := by
  have hapb : ∀ x zx, x ≠ b → m x = some zx → h.get .dead x ≠ .dead → zx.blk = z.blk → ∃ kx, h.get .dead x = .cells kx ∧ x ∈ k.anc ∧ kx.st = true ∧ kx.fx = false ∧ zx.sh + kx.n ≤ z.sh + k.bnd := fun x zx hx hmx hd e => by
    have := hW.ap b x z zx hx hB.hm hmx hd
    rw [hb] at this
    exact this hro hst e
  refine ⟨⟨hW.gl, hW.fresh, fun y => ?_, ?_⟩, Le.refl m, hos, ht, hp, by rw [hsz]; exact Nat.le_refl _, ?_, ?_, ?_⟩
  · show OR P m w' y ((h.set .dead b _).get .dead y)
    rw [Tr.get_set]
    by_cases hy : y = b
    · rw [if_pos hy]; subst hy
      exact ⟨z, cs, fz', hB.hm, hw1, hB.sz, hB.here, (fun hc => by cases hc), hB.fx, hB.whole, (fun _ _ hc => absurd hc hf)⟩
    · rw [if_neg hy]
      by_cases hd : h.get .dead y = .dead
      · rw [hd]; trivial
      · obtain ⟨zy, hmy, _⟩ := (hW.rel y).there hd
        by_cases hs : zy.blk = z.blk
        · obtain ⟨kx, hkx, _, hsx, hfxx, hlex⟩ := hapb y zy hy hmy hd hs
          have hrx := hW.rel y
          rw [hkx] at hrx
          obtain ⟨zx', csx, fzx, hX⟩ := hrx
          have hm2 := hX.hm; rw [hmy] at hm2; cases hm2
          have hpx := hX.hp
          rw [hs, hB.hp] at hpx
          obtain ⟨rfl, he1, rfl⟩ : cs = csx ∧ k.e = kx.e ∧ fz = fzx := by simpa using hpx
          rw [hkx]
          refine ⟨zy, cs, fz', hmy, by rw [hs, hw1, he1], hX.sz, hX.here, ?_, ?_, ?_, ?_⟩
          · intro hc; rw [hsx] at hc; cases hc
          · intro hc; rw [hfxx] at hc; cases hc
          · intro hc; rw [hfxx] at hc; cases hc
          · intro hc; rw [hfxx] at hc; cases hc
        · refine (hW.rel y).mono (Le.refl m) fun z' hm' _ => hw2 _ ?_
          rw [hmy] at hm'; cases hm'; exact hs
  · intro y x zy zx hx hmy hmx hlive
    have hlive : (h.set .dead b (.cells { k with st := true, fz := f })).get .dead x ≠ .dead := hlive
    show Apart ((h.set .dead b (.cells { k with st := true, fz := f })).get .dead y) y x zy zx ((h.set .dead b (.cells { k with st := true, fz := f })).get .dead x)
    rw [Tr.get_set] at hlive
    rw [Tr.get_set, Tr.get_set]
    by_cases hy : y = b
    · rw [if_pos hy]; intro _ hc; cases hc
    · rw [if_neg hy]
      by_cases hxb : x = b
      · subst hxb
        exact hW.alone hb hst hy hmy hmx x zx _ rfl
      · rw [if_neg hxb] at hlive ⊢
        exact hW.ap y x zy zx hx hmy hmx hlive
  · intro j hj hnot
    exact hw2 j fun e => hnot ⟨b, z, hB.hm, e.symm, by rw [hb]; exact hro⟩
  · rintro j hj ⟨y, zy, hmy, hyj, hoy⟩
    have hoy : ownO ((h.set .dead b (.cells { k with st := true, fz := f })).get .dead y) := hoy
    rw [Tr.get_set] at hoy
    by_cases hy : y = b
    · subst hy; exact ⟨y, zy, hmy, hyj, by rw [hb]; exact hro⟩
    · rw [if_neg hy] at hoy; exact ⟨y, zy, hmy, hyj, hoy⟩
  · rintro j hj ⟨y, zy, hmy, hyj, hoy⟩
    have hoy : (h.set .dead b (.cells { k with st := true, fz := f })).get .dead y ≠ .dead := hoy
    rw [Tr.get_set] at hoy
    by_cases hy : y = b
    · subst hy; exact ⟨y, zy, hmy, hyj, by rw [hb]; simp⟩
    · rw [if_neg hy] at hoy; exact ⟨y, zy, hmy, hyj, hoy⟩
theorem liesAt_off {e : TypeId} (hc : P.cellsOf e = 1) (count off n : Nat) (hn : off + n ≤ count) : liesAt P P.depth e count off e n = true := by
  have hd : P.depth = (2 * (P.types.size + Made.depth) + 1) + 1 := rfl
  rw [hd]
  simp only [liesAt, Bool.or_eq_true]
  left
  rw [hd]
  simp [rowAt, hc, hn, sameLayout, Nat.mod_one]
theorem ptrD_some {u : TypeDesc} {e : TypeId} (hu : ptrD u = some e) : u = .pointer e := by cases u <;> first | (cases hu; rfl) | cases hu
theorem ustr_ok (hW : WR P m h nx w) {ts : Array TypeId} {t ty : TypeId} (hts : ts[0]? = some t) {p n : AV} {X N : Value} (hp : VR m p X) (hn : VR m n N) (hr : ustrA P t p n h nx = some r) : DidV P m h w (Builtin.unsafeString_ ts ty #[X, N]) r := by
  obtain ⟨el, hel, hr⟩ := bind_some hr
  obtain ⟨u, hu, hel⟩ := bind_some hel
  have hel := ptrD_some hel
  subst hel
  obtain ⟨k, hk, hr⟩ := bind_some hr
  obtain ⟨kk, rfl⟩ := asN_some hk
  rw [hn.int_inv]
  have hdef : ∀ q : Option Addr, Builtin.unsafeString_ ts ty #[.pointer q, .int kk (.ofNat k)] = (asInt (.int kk (.ofNat k)) >>= _) := fun _ => rfl
  have hmax : IntKind.i64.max = 9223372036854775807 := rfl
  obtain ⟨hbig, hr⟩ : Nat.ble 9223372036854775808 k = false ∧ (bif Nat.beq k 0 then (bif isPtr p then some (⟨.str [], h, nx⟩ : Rs) else none) else bif isU8 P el then (asP p).bind fun a => (loadN h a.b a.o k).bind fun l => (bytesOf l).bind fun bs => (getBk h a.b).bind (ustrBk P el a.b a.o k h nx bs) else none) = some r := by
    cases hb : Nat.ble 9223372036854775808 k with
    | true => have hr : (bif Nat.ble 9223372036854775808 k then none else _) = some r := hr; rw [hb] at hr; cases hr
    | false => have hr : (bif Nat.ble 9223372036854775808 k then none else _) = some r := hr; rw [hb] at hr; exact ⟨rfl, hr⟩
  have hbig : k < 9223372036854775808 := by
    rw [ble_eq] at hbig; have := of_decide_eq_false hbig; omega
  have hneg : ¬ ((k : Int) < 0) := by omega
  have h63 : ¬ ((9223372036854775807 : Int) < (k : Int)) := by omega
  rcases cond_none hr with ⟨h0, hr⟩ | ⟨h0, hr⟩
  · have h0 : k = 0 := Nat.eq_of_beq_eq_true h0
    subst h0
    obtain ⟨hip, hr⟩ := cond_some hr
    cases hr
    refine didV_pure hW (u := .string .empty) ?_ (.str [])
    cases hp <;> first | (cases hip; done) | skip
    · rw [hdef]; simp [hts, asInt, asIntOf, hmax]
    · rw [hdef]; simp [hts, asInt, asIntOf, hmax]
  · have h0 : k ≠ 0 := fun e => by rw [e] at h0; cases h0
    obtain ⟨h8, hr⟩ := cond_some hr
    obtain ⟨q, hq, hr⟩ := bind_some hr
    obtain ⟨l, hl, hr⟩ := bind_some hr
    obtain ⟨bs, hbs, hr⟩ := bind_some hr
    obtain ⟨kb, hkb, hr⟩ := bind_some hr
    obtain ⟨hok, hr⟩ := cond_some hr
    cases hr
    simp only [Bool.and_eq_true, Bool.not_eq_true'] at hok
    obtain ⟨⟨⟨q1, q2⟩, q3⟩, q4⟩ := hok
    have q1 : kb.e = el := Nat.eq_of_beq_eq_true q1
    subst q1
    have hc1 := cellsOf_eq (one_some q4)
    rw [asP_some hq] at hp
    obtain ⟨z, hz, rfl⟩ := hp.ptr_inv
    obtain ⟨z2, us, hz2, hlen, hvl, hcell⟩ := loadN_ok hW hl
    rw [hz] at hz2; cases hz2
    obtain ⟨z3, cs, fz, hB⟩ := hW.bk hkb
    have := hB.hm; rw [hz] at this; cases this
    have hus := bytesOf_ok hbs hvl
    subst hus
    have hbl : bs.length = k := by simpa using hlen
    have hle : q.o + k ≤ kb.n := by
      obtain ⟨k2, hk2, hl2⟩ := bind_some hl
      rw [hkb] at hk2; cases hk2
      obtain ⟨hi, _⟩ := cond_some hl2
      exact Nat.le_of_ble_eq_true hi
    have hsz := hB.sz
    have hlb := Lib.run_loadBytes (P := P) (w := w) bs ⟨z.blk, z.sh + q.o, none⟩ .empty fun j x hj => by
      rw [addr_add]
      exact hcell j _ (by rw [List.getElem?_map, hj]; rfl)
    have hlies := liesAt_off (P := P) hc1 (cs.size / P.cellsOf kb.e) (z.sh + q.o) k (by rw [hc1, Nat.div_one]; omega)
    obtain ⟨fz', hw1⟩ : ∃ fz', (w.freeze ⟨z.blk, z.sh + q.o, none⟩ k).heap[z.blk]? = some (.cells cs kb.e fz') := by
      obtain ⟨lo, hi⟩ := fz
      unfold World.freeze
      rw [if_neg h0]
      refine ⟨if lo == hi then (z.sh + q.o, z.sh + q.o + k) else (min lo (z.sh + q.o), max hi (z.sh + q.o + k)), ?_⟩
      simp [Array.getElem?_modify, hB.hp]
    obtain ⟨g1, g2⟩ := frozen_ok (w' := w.freeze ⟨z.blk, z.sh + q.o, none⟩ k) (f := q.o + k) hW (getBk_some hkb) q2 q3 hB hw1 (fun j hj => by unfold World.freeze; rw [if_neg h0]; simp [Array.getElem?_modify, Ne.symm hj]) (by unfold World.freeze; rw [if_neg h0]; simp) (by unfold World.freeze; rw [if_neg h0]) (by unfold World.freeze; rw [if_neg h0]) (by unfold World.freeze; rw [if_neg h0]) (by omega)
    refine ⟨.string ⟨bs.toArray⟩, _, m, ?_, g1, .str bs, g2⟩
    subst hbl
    rw [hdef]; simp [hts, asInt, asIntOf, hmax, h63, hneg, h0, variablesAt, World.shape?, hB.hp, elemOf, run_underlying hu, hlies, hlb]
end
end Ex
end Go.Proofs.YtajoljoegbeiiaaGreatDoor
