/-
  An executor over abstract worlds: closed runs of a program, whatever the tape says: trees, values, memory, numbers.
  (Every definition is small: the kernel copies a body whole whenever it opens it.)
-/
import Derived.WalkKit
namespace Go.Proofs.YtajoljoegbeiiaaGreatDoor
set_option linter.all false
namespace Ex
noncomputable section

/-! ### Trees by numbers: every number has a path of its own -/
inductive Tr (α : Type) where
  | nil
  | node (v : α) (l r : Tr α)
namespace Tr
variable {α : Type}
def pick (v x y : α) (i : Nat) : α := Nat.casesOn i v fun j => Nat.casesOn (Nat.mod j 2) x fun _ => y
noncomputable def get (d : α) (t : Tr α) : Nat → α :=
  Tr.rec (motive := fun _ => Nat → α) (fun _ => d) (fun v _ _ ihl ihr i => Nat.rec (motive := fun _ => α) v (fun j _ => Nat.rec (motive := fun _ => α) (ihl (Nat.div j 2)) (fun _ _ => ihr (Nat.div j 2)) (Nat.mod j 2)) i) t
noncomputable def single (d : α) (f : Nat) : Nat → α → Tr α :=
  Nat.rec (motive := fun _ => Nat → α → Tr α) (fun _ v => node v nil nil)
    (fun _ ih i v => Nat.rec (motive := fun _ => Tr α) (node v nil nil) (fun j _ => Nat.rec (motive := fun _ => Tr α) (node d (ih (Nat.div j 2) v) nil) (fun _ _ => node d nil (ih (Nat.div j 2) v)) (Nat.mod j 2)) i) f
noncomputable def set (d : α) (t : Tr α) : Nat → α → Tr α :=
  Tr.rec (motive := fun _ => Nat → α → Tr α) (fun i v => single d i i v)
    (fun x l r ihl ihr i v => Nat.rec (motive := fun _ => Tr α) (node v l r) (fun j _ => Nat.rec (motive := fun _ => Tr α) (node x (ihl (Nat.div j 2) v) r) (fun _ _ => node x l (ihr (Nat.div j 2) v)) (Nat.mod j 2)) i) t
end Tr

/-! ### Values -/
inductive AV where
  | bool (b : Bool)
  | int (k : IntKind) (z : Int)
  | str (s : List UInt8)
  | ptr (b o : Nat)
  | nilp
  | slice (b o n c : Nat) (ex : Bool)
  | nils
  | mapv (b : Nat)
  | nilm
  | fn (f : Fn) (first captured : List AV)
  | yld (b : Nat)
  | nilf
  | iface (t : TypeId) (v : AV)
  | nili
  | agg (l : List AV)
  | tup (l : List AV)
  | rep (b : UInt8) (n : Nat)
abbrev un : AV := .tup []
def AV.cells (v : AV) : List AV := match v with
  | .agg l => l
  | v => [v]
def asB (v : AV) : Option Bool := match v with | .bool b => some b | _ => none
def asI (v : AV) : Option Int := match v with | .int _ z => some z | _ => none
def asS (v : AV) : Option (List UInt8) := match v with | .str s => some s | _ => none
def asAgg (v : AV) : Option (List AV) := match v with | .agg l => some l | _ => none
def asTup (v : AV) : Option (List AV) := match v with | .tup l => some l | _ => none
structure At where
  b : Nat
  o : Nat
def asP (v : AV) : Option At := match v with | .ptr b o => some ⟨b, o⟩ | _ => none
structure Sl where
  b : Nat
  o : Nat
  n : Nat
  c : Nat
  ex : Bool
def asSl (v : AV) : Option Sl := match v with | .slice b o n c ex => some ⟨b, o, n, c, ex⟩ | _ => none
def natZ (z : Int) : Option Nat := match z with | .ofNat n => some n | .negSucc _ => none
def asN (v : AV) : Option Nat := match v with | .int _ z => natZ z | _ => none
def oneA (v : AV) : Bool := match v with
  | .agg _ | .tup _ => false
  | _ => true
/-- A value without addresses. -/
def ofV : Nat → Value → Option AV
  | 0, _ => none
  | n + 1, v => match v with
    | .bool b => some (.bool b)
    | .int k z => some (.int k z)
    | .string s => some (.str s.data.toList)
    | .pointer none => some .nilp
    | .slice none 0 0 => some .nils
    | .map none => some .nilm
    | .nilFunc => some .nilf
    | .nilIface => some .nili
    | .iface t v => (ofV n v).map (.iface t)
    | .agg cs => (cs.toList.mapM (ofV n)).map .agg
    | .tuple cs => (cs.toList.mapM (ofV n)).map .tup
    | _ => none

/-- A block of cells: 'n' of them ('d' where the tree says nothing); 'ro': it lies in the old world; 'fx': its capacity is known; 'st': a younger version is there; 'anc': elder versions of the same array, 'bnd': how many cells it may share with them; 'fz': so many first cells may be frozen. -/
structure Bk where
  t : Tr AV
  d : AV
  n : Nat
  e : TypeId
  ro : Bool
  fx : Bool
  st : Bool
  anc : List Nat
  bnd : Nat
  fz : Nat
abbrev Ent := AV × AV × Nat
/-- How a piece of code is left. -/
inductive X where
  | nm
  | ret
  | ex (id : Nat)
  | gt (l : Nat)
/-- A range over a function: the frame, the round's variables, the code, where the deferred calls lie; 'rdy': the next round may begin; how it was left. -/
structure Lp where
  fr : Tr AV
  sz : Nat
  ps : List Nat
  assign : Code
  body : Code
  df : Nat
  rdy : Bool
  left : X
inductive AO where
  | cells (b : Bk)
  | map (es : List Ent) (clock : Nat)
  | siter (s : List UInt8) (pos : Nat)
  | loop (l : Lp)
  | deferred
  | dead
abbrev Hp := Tr AO
abbrev Fm := Tr AV
def bkO (o : AO) : Option Bk := match o with | .cells b => some b | _ => none
def getBk (h : Hp) (b : Nat) : Option Bk := bkO (h.get .dead b)
def setBk (h : Hp) (b : Nat) (k : Bk) : Hp := h.set .dead b (.cells k)
structure Mp where
  es : List Ent
  cl : Nat
def mpO (o : AO) : Option Mp := match o with | .map es cl => some ⟨es, cl⟩ | _ => none
def getMp (h : Hp) (b : Nat) : Option Mp := mpO (h.get .dead b)

noncomputable def treeOf (d : AV) (l : List AV) : Nat → Tr AV → Tr AV :=
  List.rec (motive := fun _ => Nat → Tr AV → Tr AV) (fun _ t => t) (fun v _ ih i t => ih (Nat.succ i) (t.set d i v)) l
noncomputable def listOf (d : AV) (t : Tr AV) (n : Nat) : Nat → List AV :=
  Nat.rec (motive := fun _ => Nat → List AV) (fun _ => []) (fun _ ih i => t.get d i :: ih (Nat.succ i)) n
noncomputable def cat {α : Type} (a b : List α) : List α := List.rec (motive := fun _ => List α) b (fun x _ ih => x :: ih) a
noncomputable def lenL {α : Type} (a : List α) : Nat := List.rec (motive := fun _ => Nat) 0 (fun _ _ ih => Nat.succ ih) a
def isNilL {α : Type} (l : List α) : Bool := match l with | [] => true | _ :: _ => false

/-! ### Types -/
def aggD (u : TypeDesc) : Bool := match u with
  | .struct _ | .array _ _ => true
  | _ => false
def aggT (P : Program) (t : TypeId) : Option Bool := (P.underlying t).map aggD
def sizeI (i : TypeInfo) : Nat := i.size
def bytesI (i : TypeInfo) : Nat := i.bytes
def sizeT (P : Program) (t : TypeId) : Option Nat := (P.info? t).map sizeI
def bytesT (P : Program) (t : TypeId) : Option Nat := (P.info? t).map bytesI
def zeroI (i : TypeInfo) : Option AV := i.zero.bind (ofV 10)
def zeroT (P : Program) (t : TypeId) : Option AV := (P.info? t).bind zeroI
def elemD (u : TypeDesc) : Option TypeId := match u with | .slice e => some e | _ => none
/-- A slice type's element type. -/
def elemT (P : Program) (t : TypeId) : Option TypeId := (P.underlying t).bind elemD
def isU8D (u : TypeDesc) : Bool := match u with | .int .u8 => true | _ => false
def isU8 (P : Program) (t : TypeId) : Bool := ((P.underlying t).map isU8D).getD false

/-! ### Memory -/
def newBk (l : List AV) (n : Nat) (e : TypeId) (fx : Bool) : Bk := ⟨treeOf un l 0 .nil, un, n, e, false, fx, false, [], 0, 0⟩
def newCells (h : Hp) (nx : Nat) (l : List AV) (n : Nat) (e : TypeId) (fx : Bool) : Hp := setBk h nx (newBk l n e fx)
def ldIn (i : Nat) (k : Bk) : Option AV := bif Nat.blt i k.n then some (k.t.get k.d i) else none
def loadCell (h : Hp) (b i : Nat) : Option AV := (getBk h b).bind (ldIn i)
def ldNIn (o m : Nat) (k : Bk) : Option (List AV) := bif Nat.ble (Nat.add o m) k.n then some (listOf k.d k.t m o) else none
def loadN (h : Hp) (b o m : Nat) : Option (List AV) := (getBk h b).bind (ldNIn o m)
def loadG (P : Program) (h : Hp) (t : TypeId) (b o : Nat) (g : Bool) : Option AV :=
  bif g then ((sizeT P t).bind (loadN h b o)).map .agg else loadCell h b o
def loadV (P : Program) (h : Hp) (t : TypeId) (b o : Nat) : Option AV := (aggT P t).bind (loadG P h t b o)
def kill : List Nat → Hp → Hp
  | [], h => h
  | b :: l, h => kill l (h.set .dead b .dead)
def Bk.put (k : Bk) (o : Nat) (l : List AV) (anc : List Nat) (bnd : Nat) : Bk := { k with t := treeOf k.d l o k.t, anc := anc, bnd := bnd }
/-- May 'l' be stored from 'o' on? -/
def Bk.mayPut (k : Bk) (o m : Nat) : Bool := (!k.ro) && (!k.st) && Nat.ble (Nat.add o m) k.n && Nat.ble k.fz o
def putIn (h : Hp) (b o : Nat) (l : List AV) (k : Bk) : Hp :=
  bif isNilL k.anc || Nat.ble k.bnd o then setBk h b (k.put o l k.anc k.bnd)
  else setBk (kill k.anc h) b (k.put o l [] 0)
def putOpt (h : Hp) (b o : Nat) (l : List AV) (k : Bk) : Option Hp := bif l.all oneA && k.mayPut o (lenL l) then some (putIn h b o l k) else none
/-- 'l' into the cells from 'o' on. -/
def storeN (h : Hp) (b o : Nat) (l : List AV) : Option Hp := (getBk h b).bind (putOpt h b o l)
def stSz (h : Hp) (b o : Nat) (l : List AV) (n : Nat) : Option Hp := bif Nat.beq (lenL l) n then storeN h b o l else none
def storeV (P : Program) (h : Hp) (t : TypeId) (b o : Nat) (v : AV) : Option Hp := (sizeT P t).bind (stSz h b o v.cells)

/-! ### Numbers and strings -/
/-- Below this number a kind's bits are the number's own. -/
def topK (k : IntKind) : Nat := match k with
  | .i64 | .u64 => 9223372036854775808
  | .i32 | .u32 => 2147483648
  | _ => 128
def wrapN (k : IntKind) (n : Nat) : Int := bif Nat.blt n (topK k) then .ofNat n else k.wrap (.ofNat n)
def wrapZ (k : IntKind) (z : Int) : Int := match z with
  | .ofNat n => wrapN k n
  | .negSucc n => k.wrap (.negSucc n)
def ltZ (a b : Int) : Bool := match a, b with
  | .ofNat a, .ofNat b => Nat.blt a b
  | .ofNat _, .negSucc _ => false
  | .negSucc _, .ofNat _ => true
  | .negSucc a, .negSucc b => Nat.blt b a
def eqZ (a b : Int) : Bool := match a, b with
  | .ofNat a, .ofNat b => Nat.beq a b
  | .ofNat _, .negSucc _ => false
  | .negSucc _, .ofNat _ => false
  | .negSucc a, .negSucc b => Nat.beq a b
def n8 (u : UInt8) : Nat := u.toBitVec.toFin.val
noncomputable def eqS (s : List UInt8) : List UInt8 → Bool :=
  List.rec (motive := fun _ => List UInt8 → Bool) (fun t => isNilL t) (fun a _ ih t => List.casesOn t false fun b t => bif Nat.beq (n8 a) (n8 b) then ih t else false) s
noncomputable def ltS (s : List UInt8) : List UInt8 → Bool :=
  List.rec (motive := fun _ => List UInt8 → Bool) (fun t => !isNilL t) (fun a _ ih t => List.casesOn t false fun b t => bif Nat.blt (n8 a) (n8 b) then true else bif Nat.beq (n8 a) (n8 b) then ih t else false) s
def andG (k : IntKind) (x y : Int) : Int := k.wrap (BitVec.ofInt k.bits x &&& BitVec.ofInt k.bits y).toNat
def orG (k : IntKind) (x y : Int) : Int := k.wrap (BitVec.ofInt k.bits x ||| BitVec.ofInt k.bits y).toNat
def xorG (k : IntKind) (x y : Int) : Int := k.wrap (BitVec.ofInt k.bits x ^^^ BitVec.ofInt k.bits y).toNat
def andNotG (k : IntKind) (x y : Int) : Int := k.wrap (BitVec.ofInt k.bits x &&& ~~~(BitVec.ofInt k.bits y)).toNat
/-- Both small: the numbers' own bits. -/
def bitsF (f : Nat → Nat → Nat) (g : IntKind → Int → Int → Int) (k : IntKind) (x y : Int) : Int := match x, y with
  | .ofNat a, .ofNat b => bif Nat.blt a (topK k) && Nat.blt b (topK k) then .ofNat (f a b) else g k x y
  | x, y => g k x y
def iBool (b : Bool) : Option AV := some (.bool b)
def iInt (k : IntKind) (z : Int) : Option AV := some (.int k z)
abbrev Bin := IntKind → Int → Int → Option AV
def iAdd : Bin := fun k x y => iInt k (wrapZ k (Int.add x y))
def iSub : Bin := fun k x y => iInt k (wrapZ k (Int.sub x y))
def iMul : Bin := fun k x y => iInt k (wrapZ k (Int.mul x y))
def iQuo : Bin := fun k x y => bif eqZ y (.ofNat 0) then none else iInt k (wrapZ k (Int.tdiv x y))
def iRem : Bin := fun k x y => bif eqZ y (.ofNat 0) then none else iInt k (Int.tmod x y)
def iAnd : Bin := fun k x y => iInt k (bitsF Nat.land andG k x y)
def iOr : Bin := fun k x y => iInt k (bitsF Nat.lor orG k x y)
def iXor : Bin := fun k x y => iInt k (bitsF Nat.xor xorG k x y)
def iAndNot : Bin := fun k x y => iInt k (andNotG k x y)
def shlN (k : IntKind) (x : Int) (n : Nat) : Option AV := iInt k (wrapZ k (Int.mul x (Int.ofNat (Nat.pow 2 (Nat.min n k.bits)))))
def shrN (k : IntKind) (x : Int) (n : Nat) : Option AV := match x with
  | .ofNat a => iInt k (.ofNat (Nat.div a (Nat.pow 2 (Nat.min n k.bits))))
  | .negSucc a => iInt k (Int.fdiv (.negSucc a) (Int.ofNat (Nat.pow 2 (Nat.min n k.bits))))
def iEql : Bin := fun _ x y => iBool (eqZ x y)
def iNeq : Bin := fun _ x y => iBool (!eqZ x y)
def iLss : Bin := fun _ x y => iBool (ltZ x y)
def iLeq : Bin := fun _ x y => iBool (!ltZ y x)
def iGtr : Bin := fun _ x y => iBool (ltZ y x)
def iGeq : Bin := fun _ x y => iBool (!ltZ x y)
def iShl : Bin := fun k x y => (natZ y).bind (shlN k x)
def iShr : Bin := fun k x y => (natZ y).bind (shrN k x)
def binI (op : BinOp) : Bin := match op with
  | .add => iAdd | .sub => iSub | .mul => iMul | .quo => iQuo | .rem => iRem | .and => iAnd | .or => iOr | .xor => iXor | .andNot => iAndNot
  | .eql => iEql | .neq => iNeq | .lss => iLss | .leq => iLeq | .gtr => iGtr | .geq => iGeq | .shl => iShl | .shr => iShr
abbrev BinS := List UInt8 → List UInt8 → Option AV
def sAdd : BinS := fun x y => bif Nat.blt (Nat.add (lenL x) (lenL y)) 1073741824 then some (.str (cat x y)) else none
def sEql : BinS := fun x y => iBool (eqS x y)
def sNeq : BinS := fun x y => iBool (!eqS x y)
def sLss : BinS := fun x y => iBool (ltS x y)
def sLeq : BinS := fun x y => iBool (!ltS y x)
def sGtr : BinS := fun x y => iBool (ltS y x)
def sGeq : BinS := fun x y => iBool (!ltS x y)
def sNo : BinS := fun _ _ => none
def binS (op : BinOp) : BinS := match op with
  | .add => sAdd | .eql => sEql | .neq => sNeq | .lss => sLss | .leq => sLeq | .gtr => sGtr | .geq => sGeq
  | _ => sNo
end
end Ex
end Go.Proofs.YtajoljoegbeiiaaGreatDoor
