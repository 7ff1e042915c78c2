/-
  The executor: slices.Sorted of a map's keys, met by the shelf's contract.
-/
import Derived.Test.YtajoljoegbeiiaaGreatDoorExS
import Derived.Sort.KeysCollected
import Derived.Sort.Walk0
import Derived.RangeFuncGives
namespace Go.Proofs.YtajoljoegbeiiaaGreatDoor
set_option linter.all false
namespace Ex
open Go.RowKit Go.Maps Go.Sort Go.WideShapes
noncomputable section
def keyS (e : Ent) : Option (List UInt8) := (asS e.1).bind fun s => bif Nat.ble (lenL s) 1000000 then some s else none
def keysL : List Ent → Option (List (List UInt8))
  | [] => some []
  | e :: l => consO (keyS e) (keysL l)
def memS (x : List UInt8) : List (List UInt8) → Bool
  | [] => false
  | y :: l => bif eqS x y then true else memS x l
def nodS : List (List UInt8) → Bool
  | [] => true
  | x :: l => bif memS x l then false else nodS l
def memN (x : Nat) : List Ent → Bool
  | [] => false
  | e :: l => bif Nat.beq x e.2.2 then true else memN x l
def bornOk (cl : Nat) : List Ent → Bool
  | [] => true
  | e :: l => bif Nat.blt e.2.2 cl then (bif memN e.2.2 l then false else bornOk cl l) else false
def insS (x : List UInt8) : List (List UInt8) → List (List UInt8)
  | [] => [x]
  | y :: l => bif ltS y x then y :: insS x l else x :: y :: l
def sortS : List (List UInt8) → List (List UInt8)
  | [] => []
  | x :: l => insS x (sortS l)
def strsA : List (List UInt8) → List AV
  | [] => []
  | x :: l => .str x :: strsA l
def sortRs (tS : TypeId) (h : Hp) (nx : Nat) (ks : List (List UInt8)) : Rs := bif isNilL ks then ⟨.nils, h, nx⟩ else ⟨.slice nx 0 (lenL ks) (lenL ks) false, newCells h nx (strsA (sortS ks)) (lenL ks) tS false, nx + 1⟩
def sortKs (tS : TypeId) (h : Hp) (nx : Nat) (mp : Mp) (ks : List (List UInt8)) : Option Rs := bif nodS ks && bornOk mp.cl mp.es && Nat.ble (lenL ks) 1000000 then some (sortRs tS h nx ks) else none
def sortMp (tS : TypeId) (h : Hp) (nx : Nat) (mp : Mp) : Option Rs := (keysL mp.es).bind (sortKs tS h nx mp)
def sortBk (tS : TypeId) (h : Hp) (nx : Nat) (k : Bk) : Option Rs := bif k.fx && (!k.ro) && Nat.blt 0 k.n then ((asM (k.t.get k.d 0)).bind (getMp h)).bind (sortMp tS h nx) else none
def sortCap (tS : TypeId) (h : Hp) (nx : Nat) (c : List AV) : Option Rs := match c with
  | [.ptr b o] => bif Nat.beq o 0 then (getBk h b).bind (sortBk tS h nx) else none
  | _ => none
def sortArg (g : FuncId) (tS : TypeId) (h : Hp) (nx : Nat) (f : Fn) (a c : List AV) : Option Rs := match f with
  | .func g' => bif Nat.beq g g' && isNilL a then sortCap tS h nx c else none
  | _ => none
/-- slices.Sorted of maps.Keys' function 'g'. -/
def sortedP (g : FuncId) (tS : TypeId) (args : List AV) (h : Hp) (nx : Nat) : Option Rs := match args with
  | [.fn f a c] => sortArg g tS h nx f a c
  | _ => none
end
theorem lt_le (x y : List UInt8) : ltS y x = !decide (x ≤ y) := by
  rw [ltS_eq, bytesLess_eq]
  by_cases h : y < x
  · have : ¬ x ≤ y := fun h' => List.not_lt.2 h' h
    simp [h, this]
  · have : x ≤ y := List.not_lt.1 h
    simp [h, this]
theorem insS_perm (x : List UInt8) : ∀ l, (insS x l).Perm (x :: l)
  | [] => List.Perm.refl _
  | y :: l => by
    show (bif ltS y x then y :: insS x l else x :: y :: l).Perm _
    cases ltS y x with
    | true => exact ((insS_perm x l).cons y).trans (List.Perm.swap x y l)
    | false => exact List.Perm.refl _
theorem sortS_perm : ∀ l, (sortS l).Perm l
  | [] => List.Perm.refl _
  | x :: l => (insS_perm x (sortS l)).trans ((sortS_perm l).cons x)
theorem insS_sorted (x : List UInt8) : ∀ l : List (List UInt8), l.Pairwise (fun a b => leB a b = true) → (insS x l).Pairwise (fun a b => leB a b = true)
  | [], _ => by simp [insS]
  | y :: l, h => by
    obtain ⟨h1, h2⟩ := List.pairwise_cons.1 h
    show (bif ltS y x then y :: insS x l else x :: y :: l).Pairwise _
    rw [lt_le]
    by_cases hxy : x ≤ y
    · simp only [hxy, decide_true, Bool.not_true, cond_false]
      refine List.pairwise_cons.2 ⟨fun z hz => ?_, h⟩
      rcases List.mem_cons.1 hz with rfl | hz
      · simpa [leB] using hxy
      · have := h1 z hz
        simp only [leB, decide_eq_true_eq] at this ⊢
        exact List.le_trans hxy this
    · simp only [hxy, decide_false, Bool.not_false, cond_true]
      refine List.pairwise_cons.2 ⟨fun z hz => ?_, insS_sorted x l h2⟩
      rcases List.mem_cons.1 ((insS_perm x l).mem_iff.1 hz) with rfl | hz
      · rcases List.le_total z y with h' | h'
        · exact absurd h' hxy
        · simpa [leB] using h'
      · exact h1 z hz
theorem sortS_sorted : ∀ l, (sortS l).Pairwise (fun a b => leB a b = true)
  | [] => List.Pairwise.nil
  | x :: l => insS_sorted x _ (sortS_sorted l)
theorem sortS_eq (l : List (List UInt8)) : l.mergeSort leB = sortS l := by
  rw [← mergeSort_of_perm (sortS_perm l)]
  exact List.mergeSort_of_pairwise (sortS_sorted l)
theorem memS_eq (x : List UInt8) : ∀ l, memS x l = true ↔ x ∈ l
  | [] => by simp [memS]
  | y :: l => by
    show (bif eqS x y then true else memS x l) = true ↔ _
    rw [eqS_eq, List.mem_cons, ← memS_eq x l]
    by_cases h : x = y <;> simp [h]
theorem nodS_nodup : ∀ l, nodS l = true → l.Nodup
  | [], _ => List.nodup_nil
  | x :: l, h => by
    have h : (bif memS x l then false else nodS l) = true := h
    cases hm : memS x l with
    | true => rw [hm] at h; cases h
    | false =>
      rw [hm] at h
      refine List.nodup_cons.2 ⟨fun hx => ?_, nodS_nodup l h⟩
      rw [(memS_eq x l).2 hx] at hm; cases hm
theorem memN_eq (x : Nat) : ∀ l : List Ent, memN x l = true ↔ x ∈ l.map (·.2.2)
  | [] => by simp [memN]
  | e :: l => by
    show (bif Nat.beq x e.2.2 then true else memN x l) = true ↔ _
    rw [List.map_cons, List.mem_cons, ← memN_eq x l, beq_eq]
    by_cases h : x = e.2.2 <;> simp [h]
theorem bornOk_ok {cl : Nat} : ∀ l : List Ent, bornOk cl l = true → (∀ e ∈ l, e.2.2 < cl) ∧ (l.map (·.2.2)).Nodup
  | [], _ => ⟨fun e h => (by cases h), List.nodup_nil⟩
  | e :: l, h => by
    have h : (bif Nat.blt e.2.2 cl then (bif memN e.2.2 l then false else bornOk cl l) else false) = true := h
    cases hb : Nat.blt e.2.2 cl with
    | false => rw [hb] at h; cases h
    | true =>
      rw [hb] at h
      have h : (bif memN e.2.2 l then false else bornOk cl l) = true := h
      cases hm : memN e.2.2 l with
      | true => rw [hm] at h; cases h
      | false =>
        rw [hm] at h
        obtain ⟨h1, h2⟩ := bornOk_ok l h
        rw [blt_eq] at hb
        refine ⟨fun x hx => ?_, List.nodup_cons.2 ⟨fun hx => ?_, h2⟩⟩
        · rcases List.mem_cons.1 hx with rfl | hx
          · exact of_decide_eq_true hb
          · exact h1 x hx
        · rw [(memN_eq _ l).2 hx] at hm; cases hm
theorem strs_vr (m : Mz) : ∀ l : List (List UInt8), VRL m (strsA l) (l.map encStr)
  | [] => .nil
  | x :: l => .cons (.str x) (strs_vr m l)
section
variable {P : Program} {m : Mz} {h : Hp} {nx : Nat} {w : World}
/-- The keys of a map's entries. -/
theorem keysL_ok : ∀ {es : List Ent} {ks : List (List UInt8)} {es' : List MapEntry}, keysL es = some ks → ER m es es' → es'.map (·.key) = ks.map encStr ∧ es'.map (·.born) = es.map (·.2.2) ∧ (∀ x ∈ ks, x.length ≤ 1000000) ∧ es'.length = ks.length
  | [], ks, _, h, .nil => by cases h; exact ⟨rfl, rfl, fun x hx => (by cases hx), rfl⟩
  | (k, v, n) :: es, ks, _, h, .cons hk hv hr => by
    obtain ⟨y, ys, h1, h2, rfl⟩ := consO_some (show consO (keyS (k, v, n)) (keysL es) = some ks from h)
    obtain ⟨s, hs, h1⟩ := bind_some h1
    obtain ⟨hle, h1⟩ := cond_some h1
    cases h1
    obtain ⟨g1, g2, g3, g4⟩ := keysL_ok h2 hr
    have hs : k = .str y := asS_some hs
    subst hs
    have := hk.str_inv
    subst this
    rw [lenL_eq] at hle
    refine ⟨by simp only [List.map_cons, g1], by simp only [List.map_cons, g2], fun x hx => ?_, by simp [g4]⟩
    rcases List.mem_cons.1 hx with rfl | hx
    · exact Nat.le_of_ble_eq_true hle
    · exact g3 x hx
/-- Whatever an element is. -/
def anyR : Value → Option (DataW Unit × List MemPlace) := fun _ => some (.nil, [])
theorem nodup_enc {ks : List (List UInt8)} (h : ks.Nodup) : (ks.map encStr).Nodup := (List.pairwise_map.2 (h.imp fun hne e => hne (encStr_inj e)))
theorem keys_own {tK : TypeId} (htK : P.underlying tK = some .string) {b : Nat} {es' : Array MapEntry} {cl : Nat} (hb : w.heap[b]? = some (.map es' cl)) {ks : List (List UInt8)} (hk : es'.toList.map (·.key) = ks.map encStr) (hkl : ∀ x ∈ ks, x.length ≤ 1000000) (hks : ks.length ≤ 1000000) (hnd : ks.Nodup)
    (hborn : ∀ x ∈ es'.toList, x.born < cl) (hbn : (es'.toList.map (·.born)).Nodup) :
    ∃ D : DataW Unit, w.ownsMap P tK anyR b es'.size D ∧ (strKeys D).Perm ks ∧ Maps.size D = ks.length := by
  have hkey : ∀ x ∈ es'.toList, ∃ s : List UInt8, x.key = encStr s ∧ s.length ≤ 1000000 := fun x hx => by
    have : x.key ∈ es'.toList.map (·.key) := List.mem_map.2 ⟨x, hx, rfl⟩
    rw [hk] at this
    obtain ⟨s, hs, e⟩ := List.mem_map.1 this
    exact ⟨s, e.symm, hkl s hs⟩
  have hko : ∀ s : List UInt8, s.length ≤ 1000000 → keyOf P tK (encStr s) = some (.string s) := fun s hs => by
    have : s.length ≤ maxLen := by unfold maxLen; omega
    simp [keyOf, htK, mapKey, encStr, ByteArray.size, this]
  have hrd : ∀ x ∈ es'.toList, ∃ s : List UInt8, x.key = encStr s ∧ WideElems.rd P tK anyR x = some (.string s, .nil) := fun x hx => by
    obtain ⟨s, e, hs⟩ := hkey x hx
    refine ⟨s, e, ?_⟩
    obtain ⟨xk, xv, xb⟩ := x
    have e : xk = encStr s := e
    subst e
    exact WideElems.rd_mk (yv := (DataW.nil, [])) (hko s hs) rfl
  have hlen : es'.toList.length = ks.length := by
    have := congrArg List.length hk
    simpa using this
  refine ⟨_, ⟨es', cl, hb, ⟨?_, ⟨hborn, hbn, ?_⟩, fun x hx => ?_⟩, Nat.le_refl _, rfl⟩, ?_, ?_⟩
  · have : es'.size = ks.length := by rw [← Array.length_toList]; exact hlen
    rw [this]; unfold maxLen; omega
  · rw [hk]; exact nodup_enc hnd
  · obtain ⟨s, _, e⟩ := hrd x hx; exact ⟨_, e⟩
  · show ((_ : List (Lit × DataW Unit)).map fun p => strOf p.1).Perm ks
    refine ((sorted_perm _).map _).trans ?_
    rw [List.map_map]
    have : es'.toList.map ((fun p : Lit × DataW Unit => strOf p.1) ∘ WideElems.rg P tK anyR) = ks := by
      have h2 : es'.toList.map ((fun p : Lit × DataW Unit => strOf p.1) ∘ WideElems.rg P tK anyR) = (es'.toList.map (·.key)).map fun v => match v with | .string s => s.data.toList | _ => [] := by
        rw [List.map_map]
        refine List.map_congr_left fun x hx => ?_
        obtain ⟨s, e, hr⟩ := hrd x hx
        simp [Function.comp, WideElems.rg_of hr, strOf, e, encStr]
      rw [h2, hk, List.map_map]
      have : ((fun v : Value => match v with | .string s => s.data.toList | _ => []) ∘ encStr) = id := by funext x; simp [encStr]
      rw [this, List.map_id]
    rw [this]
  · show (_ : List (Lit × DataW Unit)).length = _
    rw [(sorted_perm _).length_eq, List.length_map, hlen]
/-- slices.Sorted of a map's keys: by what the shelf says of maps.Keys' function and of slices.Sorted. -/
theorem met_sorted (hN : NoNum P) {f g : FuncId} {fn : Func} {c : Code} (hf : P.funcs[f]? = some fn) (hbd : fn.body = some c) {tK tS : TypeId} (htK : P.underlying tK = some .string) (htS : sizeT P tS = some 1)
    (hG : ∀ (Bm b nn : Nat) (D : DataW Unit) (w : World), Bm < w.heap.size → w.cell? ⟨Bm, 0, none⟩ = some (.map (some b)) → w.ownsMap P tK anyR b nn D → SeqGives Fence.wide 2 P g #[.pointer (some ⟨Bm, 0, none⟩)] encStr (fun ss => ss.Perm (strKeys D)) (Maps.size D) w)
    (hS : ∀ (lb : Array Value) (S : List (List UInt8) → Prop) (N : Nat) (w : World), N ≤ maxLen → N * 16 ≤ 140737488355328 → SeqGives Fence.wide 2 P g lb encStr S N w →
      CallsIn Fence.wide 5 P f #[.func (.func g) #[] lb] w fun e w' => ∃ (v : Value) (ss : List (List UInt8)), e = .returned v ∧ S ss ∧ w'.ownsRow w.heap.size tS 1 v ss.length ((ss.mergeSort (fun x y => decide (x ≤ y))).map encStr) ∧ (v = .slice none 0 0 ↔ ss = []) ∧ Below w.heap.size w w') :
    Met P f (sortedP g tS) := by
  refine met_calls hN hf hbd fun args h nx r hr m w Vs hW hv => ?_
  unfold sortedP at hr
  split at hr
  · rename_i fn0 a cc
    unfold sortArg at hr
    split at hr
    · rename_i g'
      obtain ⟨hga, hr1⟩ := cond_some hr
      clear hr
      obtain ⟨hg, ha⟩ := Bool.and_eq_true_iff.1 hga
      have hg := Nat.eq_of_beq_eq_true hg
      subst hg
      have ha : a = [] := by cases a with | nil => rfl | cons _ _ => cases ha
      subst ha
      unfold sortCap at hr1
      split at hr1
      · rename_i b o
        obtain ⟨ho, hr⟩ := cond_some hr1
        clear hr1
        have ho := Nat.eq_of_beq_eq_true ho
        subst ho
        obtain ⟨k, hk, hr⟩ := bind_some hr
        obtain ⟨hok, hr⟩ := cond_some hr
        simp only [Bool.and_eq_true] at hok
        obtain ⟨⟨hfx, hro⟩, hn⟩ := hok
        have hro : k.ro = false := by simpa using hro
        rw [blt_eq] at hn
        have hn : 0 < k.n := of_decide_eq_true hn
        obtain ⟨mp, hmp, hr⟩ := bind_some hr
        obtain ⟨mb, hmb, hmp⟩ := bind_some hmp
        obtain ⟨ks, hks, hr⟩ := bind_some hr
        obtain ⟨hchk, hr⟩ := cond_some hr
        cases hr
        simp only [Bool.and_eq_true] at hchk
        obtain ⟨⟨hnd, hbo⟩, hlen⟩ := hchk
        rw [lenL_eq] at hlen
        have hlen : ks.length ≤ 1000000 := Nat.le_of_ble_eq_true hlen
        have hnd := nodS_nodup _ hnd
        obtain ⟨hb1, hb2⟩ := bornOk_ok _ hbo
        -- the box
        obtain ⟨z, cs, fz, hB⟩ := hW.bk hk
        obtain ⟨hsh, _⟩ := hB.whole hfx hro
        obtain ⟨u, hu, hvu⟩ := hB.here 0 hn
        have hmb : k.t.get k.d 0 = .mapv mb := by
          cases hx : k.t.get k.d 0 <;> rw [hx] at hmb <;> first | (cases hmb; rfl) | cases hmb
        rw [hmb] at hvu
        obtain ⟨zm, hzm, rfl⟩ := hvu.map_inv
        have hcell : w.cell? ⟨z.blk, 0, none⟩ = some (.map (some zm.blk)) := by
          rw [hB.cell]; rw [hsh] at hu; exact hu
        have hblt : z.blk < w.heap.size := (Array.getElem?_eq_some_iff.1 hB.hp).1
        -- the map
        have hrel := hW.rel mb
        have hmap : h.get .dead mb = .map mp.es mp.cl := by
          unfold getMp mpO at hmp
          split at hmp
          · rename_i hx; cases hmp; exact hx
          · cases hmp
        rw [hmap] at hrel
        obtain ⟨zm', es', hzm', hheap, hER⟩ := hrel
        rw [hzm] at hzm'; cases hzm'
        obtain ⟨g1, g2, g3, g4⟩ := keysL_ok hks hER
        obtain ⟨D, hown, hperm, hsize⟩ := keys_own htK hheap g1 g3 hlen hnd (fun x hx => by
          have : x.born ∈ es'.toList.map (·.born) := List.mem_map.2 ⟨x, hx, rfl⟩
          rw [g2] at this
          obtain ⟨e, he, hee⟩ := List.mem_map.1 this
          rw [← hee]; exact hb1 e he) (by rw [g2]; exact hb2)
        -- the arguments
        obtain ⟨A, rfl⟩ : ∃ A, Vs = #[A] := by
          obtain ⟨L, hL⟩ : ∃ L, Vs.toList = L := ⟨_, rfl⟩
          rw [hL] at hv
          cases hv with
          | cons h1 h2 => cases h2 with
            | nil => exact ⟨_, Array.toList_inj.1 hL⟩
        have hA : A = .func (.func g) #[] #[.pointer (some ⟨z.blk, 0, none⟩)] := by
          cases hv with
          | cons h1 _ =>
            cases h1 with
            | fn _ h3 h4 =>
              rename_i a' c'
              obtain ⟨La, hLa⟩ : ∃ L, a'.toList = L := ⟨_, rfl⟩
              obtain ⟨Lc, hLc⟩ : ∃ L, c'.toList = L := ⟨_, rfl⟩
              rw [hLa] at h3; rw [hLc] at h4
              cases h3 with
              | nil => cases h4 with
                | cons h5 h6 => cases h6 with
                  | nil =>
                    obtain ⟨z', hz', rfl⟩ := h5.ptr_inv
                    rw [hB.hm] at hz'; cases hz'
                    have e1 : a' = #[] := Array.toList_inj.1 hLa
                    have e2 := Array.toList_inj.1 hLc
                    rw [e1, hsh] at *
                    subst e2
                    rfl
        subst hA
        refine callsIn_wide.1 ((hS _ _ _ w (by rw [hsize]; unfold maxLen; omega) (by rw [hsize]; omega) (hG z.blk zm.blk _ D w hblt hcell hown)).mono ?_)
        rintro e w' ⟨v, ss, rfl, hp, hrow, hnil, hbel⟩
        have hpk : ss.Perm ks := hp.trans hperm
        have hms : ss.mergeSort (fun x y => decide (x ≤ y)) = sortS ks := (mergeSort_of_perm hpk).trans (sortS_eq ks)
        rw [hms, hpk.length_eq] at hrow
        unfold sortRs
        cases ks with
        | nil =>
          have : ss = [] := List.Perm.eq_nil hpk
          have hv0 := hnil.2 this
          subst hv0
          obtain ⟨h1, h2⟩ := hW.below hbel
          exact ⟨_, m, rfl, h1, .nils, h2⟩
        | cons x ks' =>
          have hne : v ≠ .slice none 0 0 := fun h0 => by
            have := hnil.1 h0
            subst this
            have := hpk.length_eq
            simp at this
          obtain ⟨m', h1, h2, h3⟩ := owned_ok hW hbel htS hrow hne (strs_vr m (sortS (x :: ks')))
          rw [← lenL_eq] at h1 h2 h3
          exact ⟨v, m', rfl, h1, h2, h3⟩
      · cases hr1
    · cases hr
  · cases hr
end
end Ex
end Go.Proofs.YtajoljoegbeiiaaGreatDoor
