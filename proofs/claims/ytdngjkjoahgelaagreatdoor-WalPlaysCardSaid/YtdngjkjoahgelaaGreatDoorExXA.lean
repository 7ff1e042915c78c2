/-
  An executor over abstract worlds: closed runs of a program, whatever the tape says: trees, values, memory, numbers.
  (Every definition is small: the kernel copies a body whole whenever it opens it.) The executor: one operation. The executor: code, calls, regions that draw their order.
-/
import Derived.WalkKit
import Derived.Orders
namespace Go.Proofs.YtdngjkjoahgelaaGreatDoor
set_option linter.all false
namespace Ex
noncomputable section

inductive Tr (α : Type) where
  | nil
  | node (v : α) (l r : Tr α)
namespace Tr
variable {α : Type}
def pick (v x y : α) (i : Nat) : α := Nat.casesOn i v fun j => Nat.casesOn (Nat.mod j 2) x fun _ => y
noncomputable def get (d : α) (t : Tr α) : Nat → α :=
  Tr.rec (motive := fun _ => Nat → α) (fun _ => d) (fun v _ _ ihl ihr i => Nat.rec (motive := fun _ => α) v (fun j _ => Nat.rec (motive := fun _ => α) (ihl (Nat.div j 2)) (fun _ _ => ihr (Nat.div j 2)) (Nat.mod j 2)) i) t
noncomputable def single (d : α) (f : Nat) : Nat → α → Tr α :=
  Nat.rec (motive := fun _ => Nat → α → Tr α) (fun _ v => node v nil nil)
    (fun _ ih i v => Nat.rec (motive := fun _ => Tr α) (node v nil nil) (fun j _ => Nat.rec (motive := fun _ => Tr α) (node d (ih (Nat.div j 2) v) nil) (fun _ _ => node d nil (ih (Nat.div j 2) v)) (Nat.mod j 2)) i) f
noncomputable def set (d : α) (t : Tr α) : Nat → α → Tr α :=
  Tr.rec (motive := fun _ => Nat → α → Tr α) (fun i v => single d i i v)
    (fun x l r ihl ihr i v => Nat.rec (motive := fun _ => Tr α) (node v l r) (fun j _ => Nat.rec (motive := fun _ => Tr α) (node x (ihl (Nat.div j 2) v) r) (fun _ _ => node x l (ihr (Nat.div j 2) v)) (Nat.mod j 2)) i) t
end Tr

inductive AV where
  | bool (b : Bool)
  | int (k : IntKind) (z : Int)
  | str (s : List UInt8)
  | ptr (b o : Nat)
  | nilp
  | slice (b o n c : Nat) (ex : Bool)
  | nils
  | mapv (b : Nat)
  | nilm
  | fn (f : Fn) (first captured : List AV)
  | yld (b : Nat)
  | nilf
  | iface (t : TypeId) (v : AV)
  | nili
  | agg (l : List AV)
  | tup (l : List AV)
  | rep (b : UInt8) (n : Nat)
abbrev un : AV := .tup []
def AV.cells (v : AV) : List AV := match v with
  | .agg l => l
  | v => [v]
def asB (v : AV) : Option Bool := match v with | .bool b => some b | _ => none
def asI (v : AV) : Option Int := match v with | .int _ z => some z | _ => none
def asS (v : AV) : Option (List UInt8) := match v with | .str s => some s | _ => none
def asAgg (v : AV) : Option (List AV) := match v with | .agg l => some l | _ => none
def asTup (v : AV) : Option (List AV) := match v with | .tup l => some l | _ => none
structure At where
  b : Nat
  o : Nat
def asP (v : AV) : Option At := match v with | .ptr b o => some ⟨b, o⟩ | _ => none
structure Sl where
  b : Nat
  o : Nat
  n : Nat
  c : Nat
  ex : Bool
def asSl (v : AV) : Option Sl := match v with | .slice b o n c ex => some ⟨b, o, n, c, ex⟩ | _ => none
def natZ (z : Int) : Option Nat := match z with | .ofNat n => some n | .negSucc _ => none
def asN (v : AV) : Option Nat := match v with | .int _ z => natZ z | _ => none
def oneA (v : AV) : Bool := match v with
  | .agg _ | .tup _ => false
  | _ => true
def ofV : Nat → Value → Option AV
  | 0, _ => none
  | n + 1, v => match v with
    | .bool b => some (.bool b)
    | .int k z => some (.int k z)
    | .string s => some (.str s.data.toList)
    | .pointer none => some .nilp
    | .slice none 0 0 => some .nils
    | .map none => some .nilm
    | .nilFunc => some .nilf
    | .nilIface => some .nili
    | .iface t v => (ofV n v).map (.iface t)
    | .agg cs => (cs.toList.mapM (ofV n)).map .agg
    | .tuple cs => (cs.toList.mapM (ofV n)).map .tup
    | _ => none

structure Bk where
  t : Tr AV
  d : AV
  n : Nat
  e : TypeId
  ro : Bool
  fx : Bool
  st : Bool
  anc : List Nat
  bnd : Nat
  fz : Nat
abbrev Ent := AV × AV × Nat
inductive X where
  | nm
  | ret
  | ex (id : Nat)
  | gt (l : Nat)
structure Lp where
  fr : Tr AV
  sz : Nat
  ps : List Nat
  assign : Code
  body : Code
  df : Nat
  rdy : Bool
  left : X
inductive AO where
  | cells (b : Bk)
  | map (es : List Ent) (clock : Nat)
  | siter (s : List UInt8) (pos : Nat)
  | loop (l : Lp)
  | deferred
  | dead
abbrev Hp := Tr AO
abbrev Fm := Tr AV
def bkO (o : AO) : Option Bk := match o with | .cells b => some b | _ => none
def getBk (h : Hp) (b : Nat) : Option Bk := bkO (h.get .dead b)
def setBk (h : Hp) (b : Nat) (k : Bk) : Hp := h.set .dead b (.cells k)
structure Mp where
  es : List Ent
  cl : Nat
def mpO (o : AO) : Option Mp := match o with | .map es cl => some ⟨es, cl⟩ | _ => none
def getMp (h : Hp) (b : Nat) : Option Mp := mpO (h.get .dead b)

noncomputable def treeOf (d : AV) (l : List AV) : Nat → Tr AV → Tr AV :=
  List.rec (motive := fun _ => Nat → Tr AV → Tr AV) (fun _ t => t) (fun v _ ih i t => ih (Nat.succ i) (t.set d i v)) l
noncomputable def listOf (d : AV) (t : Tr AV) (n : Nat) : Nat → List AV :=
  Nat.rec (motive := fun _ => Nat → List AV) (fun _ => []) (fun _ ih i => t.get d i :: ih (Nat.succ i)) n
noncomputable def cat {α : Type} (a b : List α) : List α := List.rec (motive := fun _ => List α) b (fun x _ ih => x :: ih) a
noncomputable def lenL {α : Type} (a : List α) : Nat := List.rec (motive := fun _ => Nat) 0 (fun _ _ ih => Nat.succ ih) a
def isNilL {α : Type} (l : List α) : Bool := match l with | [] => true | _ :: _ => false

def aggD (u : TypeDesc) : Bool := match u with
  | .struct _ | .array _ _ => true
  | _ => false
def aggT (P : Program) (t : TypeId) : Option Bool := (P.underlying t).map aggD
def sizeI (i : TypeInfo) : Nat := i.size
def bytesI (i : TypeInfo) : Nat := i.bytes
def sizeT (P : Program) (t : TypeId) : Option Nat := (P.info? t).map sizeI
def bytesT (P : Program) (t : TypeId) : Option Nat := (P.info? t).map bytesI
def zeroI (i : TypeInfo) : Option AV := i.zero.bind (ofV 10)
def zeroT (P : Program) (t : TypeId) : Option AV := (P.info? t).bind zeroI
def elemD (u : TypeDesc) : Option TypeId := match u with | .slice e => some e | _ => none
def elemT (P : Program) (t : TypeId) : Option TypeId := (P.underlying t).bind elemD
def isU8D (u : TypeDesc) : Bool := match u with | .int .u8 => true | _ => false
def isU8 (P : Program) (t : TypeId) : Bool := ((P.underlying t).map isU8D).getD false

def newBk (l : List AV) (n : Nat) (e : TypeId) (fx : Bool) : Bk := ⟨treeOf un l 0 .nil, un, n, e, false, fx, false, [], 0, 0⟩
def newCells (h : Hp) (nx : Nat) (l : List AV) (n : Nat) (e : TypeId) (fx : Bool) : Hp := setBk h nx (newBk l n e fx)
def ldIn (i : Nat) (k : Bk) : Option AV := bif Nat.blt i k.n then some (k.t.get k.d i) else none
def loadCell (h : Hp) (b i : Nat) : Option AV := (getBk h b).bind (ldIn i)
def ldNIn (o m : Nat) (k : Bk) : Option (List AV) := bif Nat.ble (Nat.add o m) k.n then some (listOf k.d k.t m o) else none
def loadN (h : Hp) (b o m : Nat) : Option (List AV) := (getBk h b).bind (ldNIn o m)
def loadG (P : Program) (h : Hp) (t : TypeId) (b o : Nat) (g : Bool) : Option AV :=
  bif g then ((sizeT P t).bind (loadN h b o)).map .agg else loadCell h b o
def loadV (P : Program) (h : Hp) (t : TypeId) (b o : Nat) : Option AV := (aggT P t).bind (loadG P h t b o)
def kill : List Nat → Hp → Hp
  | [], h => h
  | b :: l, h => kill l (h.set .dead b .dead)
def Bk.put (k : Bk) (o : Nat) (l : List AV) (anc : List Nat) (bnd : Nat) : Bk := { k with t := treeOf k.d l o k.t, anc := anc, bnd := bnd }
def Bk.mayPut (k : Bk) (o m : Nat) : Bool := (!k.ro) && (!k.st) && Nat.ble (Nat.add o m) k.n && Nat.ble k.fz o
def putIn (h : Hp) (b o : Nat) (l : List AV) (k : Bk) : Hp :=
  bif isNilL k.anc || Nat.ble k.bnd o then setBk h b (k.put o l k.anc k.bnd)
  else setBk (kill k.anc h) b (k.put o l [] 0)
def putOpt (h : Hp) (b o : Nat) (l : List AV) (k : Bk) : Option Hp := bif l.all oneA && k.mayPut o (lenL l) then some (putIn h b o l k) else none
def storeN (h : Hp) (b o : Nat) (l : List AV) : Option Hp := (getBk h b).bind (putOpt h b o l)
def stSz (h : Hp) (b o : Nat) (l : List AV) (n : Nat) : Option Hp := bif Nat.beq (lenL l) n then storeN h b o l else none
def storeV (P : Program) (h : Hp) (t : TypeId) (b o : Nat) (v : AV) : Option Hp := (sizeT P t).bind (stSz h b o v.cells)

def topK (k : IntKind) : Nat := match k with
  | .i64 | .u64 => 9223372036854775808
  | .i32 | .u32 => 2147483648
  | _ => 128
def wrapN (k : IntKind) (n : Nat) : Int := bif Nat.blt n (topK k) then .ofNat n else k.wrap (.ofNat n)
def wrapZ (k : IntKind) (z : Int) : Int := match z with
  | .ofNat n => wrapN k n
  | .negSucc n => k.wrap (.negSucc n)
def ltZ (a b : Int) : Bool := match a, b with
  | .ofNat a, .ofNat b => Nat.blt a b
  | .ofNat _, .negSucc _ => false
  | .negSucc _, .ofNat _ => true
  | .negSucc a, .negSucc b => Nat.blt b a
def eqZ (a b : Int) : Bool := match a, b with
  | .ofNat a, .ofNat b => Nat.beq a b
  | .ofNat _, .negSucc _ => false
  | .negSucc _, .ofNat _ => false
  | .negSucc a, .negSucc b => Nat.beq a b
def n8 (u : UInt8) : Nat := u.toBitVec.toFin.val
noncomputable def eqS (s : List UInt8) : List UInt8 → Bool :=
  List.rec (motive := fun _ => List UInt8 → Bool) (fun t => isNilL t) (fun a _ ih t => List.casesOn t false fun b t => bif Nat.beq (n8 a) (n8 b) then ih t else false) s
noncomputable def ltS (s : List UInt8) : List UInt8 → Bool :=
  List.rec (motive := fun _ => List UInt8 → Bool) (fun t => !isNilL t) (fun a _ ih t => List.casesOn t false fun b t => bif Nat.blt (n8 a) (n8 b) then true else bif Nat.beq (n8 a) (n8 b) then ih t else false) s
def andG (k : IntKind) (x y : Int) : Int := k.wrap (BitVec.ofInt k.bits x &&& BitVec.ofInt k.bits y).toNat
def orG (k : IntKind) (x y : Int) : Int := k.wrap (BitVec.ofInt k.bits x ||| BitVec.ofInt k.bits y).toNat
def xorG (k : IntKind) (x y : Int) : Int := k.wrap (BitVec.ofInt k.bits x ^^^ BitVec.ofInt k.bits y).toNat
def andNotG (k : IntKind) (x y : Int) : Int := k.wrap (BitVec.ofInt k.bits x &&& ~~~(BitVec.ofInt k.bits y)).toNat
def bitsF (f : Nat → Nat → Nat) (g : IntKind → Int → Int → Int) (k : IntKind) (x y : Int) : Int := match x, y with
  | .ofNat a, .ofNat b => bif Nat.blt a (topK k) && Nat.blt b (topK k) then .ofNat (f a b) else g k x y
  | x, y => g k x y
def iBool (b : Bool) : Option AV := some (.bool b)
def iInt (k : IntKind) (z : Int) : Option AV := some (.int k z)
abbrev Bin := IntKind → Int → Int → Option AV
def iAdd : Bin := fun k x y => iInt k (wrapZ k (Int.add x y))
def iSub : Bin := fun k x y => iInt k (wrapZ k (Int.sub x y))
def iMul : Bin := fun k x y => iInt k (wrapZ k (Int.mul x y))
def iQuo : Bin := fun k x y => bif eqZ y (.ofNat 0) then none else iInt k (wrapZ k (Int.tdiv x y))
def iRem : Bin := fun k x y => bif eqZ y (.ofNat 0) then none else iInt k (Int.tmod x y)
def iAnd : Bin := fun k x y => iInt k (bitsF Nat.land andG k x y)
def iOr : Bin := fun k x y => iInt k (bitsF Nat.lor orG k x y)
def iXor : Bin := fun k x y => iInt k (bitsF Nat.xor xorG k x y)
def iAndNot : Bin := fun k x y => iInt k (andNotG k x y)
def shlN (k : IntKind) (x : Int) (n : Nat) : Option AV := iInt k (wrapZ k (Int.mul x (Int.ofNat (Nat.pow 2 (Nat.min n k.bits)))))
def shrN (k : IntKind) (x : Int) (n : Nat) : Option AV := match x with
  | .ofNat a => iInt k (.ofNat (Nat.div a (Nat.pow 2 (Nat.min n k.bits))))
  | .negSucc a => iInt k (Int.fdiv (.negSucc a) (Int.ofNat (Nat.pow 2 (Nat.min n k.bits))))
def iEql : Bin := fun _ x y => iBool (eqZ x y)
def iNeq : Bin := fun _ x y => iBool (!eqZ x y)
def iLss : Bin := fun _ x y => iBool (ltZ x y)
def iLeq : Bin := fun _ x y => iBool (!ltZ y x)
def iGtr : Bin := fun _ x y => iBool (ltZ y x)
def iGeq : Bin := fun _ x y => iBool (!ltZ x y)
def iShl : Bin := fun k x y => (natZ y).bind (shlN k x)
def iShr : Bin := fun k x y => (natZ y).bind (shrN k x)
def binI (op : BinOp) : Bin := match op with
  | .add => iAdd | .sub => iSub | .mul => iMul | .quo => iQuo | .rem => iRem | .and => iAnd | .or => iOr | .xor => iXor | .andNot => iAndNot
  | .eql => iEql | .neq => iNeq | .lss => iLss | .leq => iLeq | .gtr => iGtr | .geq => iGeq | .shl => iShl | .shr => iShr
abbrev BinS := List UInt8 → List UInt8 → Option AV
def sAdd : BinS := fun x y => bif Nat.blt (Nat.add (lenL x) (lenL y)) 1073741824 then some (.str (cat x y)) else none
def sEql : BinS := fun x y => iBool (eqS x y)
def sNeq : BinS := fun x y => iBool (!eqS x y)
def sLss : BinS := fun x y => iBool (ltS x y)
def sLeq : BinS := fun x y => iBool (!ltS y x)
def sGtr : BinS := fun x y => iBool (ltS y x)
def sGeq : BinS := fun x y => iBool (!ltS x y)
def sNo : BinS := fun _ _ => none
def binS (op : BinOp) : BinS := match op with
  | .add => sAdd | .eql => sEql | .neq => sNeq | .lss => sLss | .leq => sLeq | .gtr => sGtr | .geq => sGeq
  | _ => sNo
end
end Ex
end Go.Proofs.YtdngjkjoahgelaaGreatDoor

namespace Go.Proofs.YtdngjkjoahgelaaGreatDoor
set_option linter.all false
namespace Ex
noncomputable section
structure Rs where
  v : AV
  h : Hp
  nx : Nat
def pv (h : Hp) (nx : Nat) (v : AV) : Rs := ⟨v, h, nx⟩
def ph (nx : Nat) (h : Hp) : Rs := ⟨un, h, nx⟩
def evA (fr : Fm) (x : Operand) : Option AV := match x with
  | .tmp t => some (fr.get un t)
  | .const v => ofV 10 v
  | .global g => bif Nat.blt g 1000 then some (.ptr g 0) else none
  | .func f => some (.fn (.func f) [] [])
def consO {α : Type} (a : Option α) (l : Option (List α)) : Option (List α) := match a with
  | none => none
  | some a => match l with
    | none => none
    | some l => some (a :: l)
def evL (fr : Fm) (l : List Operand) : Option (List AV) := List.rec (motive := fun _ => Option (List AV)) (some []) (fun x _ ih => consO (evA fr x) ih) l
def partG (P : Program) (t : TypeId) (cs : List AV) (o : Nat) (g : Bool) : Option AV :=
  bif g then (sizeT P t).map fun n => .agg ((cs.drop o).take n) else cs[o]?
def partA (P : Program) (t : TypeId) (cs : List AV) (o : Nat) : Option AV := (aggT P t).bind (partG P t cs o)
def putCells (cs : List AV) (o : Nat) (l : List AV) : List AV := cs.take o ++ (l ++ cs.drop (o + l.length))
structure Pl where
  o : Nat
  n : Nat
def fill1 (cells : List AV) (v : AV) (p : Pl) : Option (List AV) :=
  bif Nat.beq v.cells.length p.n && Nat.ble (Nat.add p.o p.n) cells.length then some (putCells cells p.o v.cells) else none
structure Pt where
  i : Nat
  v : AV
def fillA (place : Nat → Option Pl) : List Pt → List AV → Option (List AV)
  | [], cells => some cells
  | p :: rest, cells => ((place p.i).bind (fill1 cells p.v)).bind (fillA place rest)
def evPt (fr : Fm) (p : Nat × Operand) : Option Pt := (evA fr p.2).map fun v => ⟨p.1, v⟩
def evP (fr : Fm) : List (Nat × Operand) → Option (List Pt)
  | [] => some []
  | p :: l => consO (evPt fr p) (evP fr l)
def placesT (P : Program) : List Field → Option (List Pl)
  | [] => some []
  | f :: fs => consO ((sizeT P f.type).map fun n => ⟨f.offset, n⟩) (placesT P fs)
def nthPl (l : List Pl) (i : Nat) : Option Pl := l[i]?
def rowPl (n i : Nat) : Option Pl := some ⟨i * n, n⟩
def buildS (ps : List Pt) (z : AV) (l : List Pl) : Option AV := (fillA (nthPl l) ps z.cells).map .agg
def buildR (ps : List Pt) (z : AV) (n : Nat) : Option AV := (fillA (rowPl n) ps z.cells).map .agg
def fieldsD (u : TypeDesc) : Option (List Field) := match u with | .struct fs => some fs.toList | _ => none
structure Arr where
  n : Nat
  e : TypeId
def arrD (u : TypeDesc) : Option Arr := match u with | .array n e => some ⟨n, e⟩ | _ => none
def buildU (P : Program) (ps : List Pt) (z : AV) (u : TypeDesc) : Option AV := match fieldsD u with
  | some fs => (placesT P fs).bind (buildS ps z)
  | none => match arrD u with
    | some a => (sizeT P a.e).bind (buildR ps z)
    | none => none
def buildZ (P : Program) (t : TypeId) (ps : List Pt) (z : AV) : Option AV := (P.underlying t).bind (buildU P ps z)
def buildA (P : Program) (t : TypeId) (ps : List Pt) : Option AV := (zeroT P t).bind (buildZ P t ps)
def repL (z : List AV) : Nat → List AV
  | 0 => []
  | n + 1 => z ++ repL z n
def wholeAt (o : Nat) (k : Bk) : Bool := (!k.ro) && (!k.st) && k.fx && Nat.beq k.fz 0 && Nat.blt o k.n
def samePt (h : Hp) (p q : At) : Option Bool :=
  bif Nat.beq p.b q.b then some (Nat.beq p.o q.o)
  else bif ((getBk h p.b).map (wholeAt p.o)).getD false && ((getBk h q.b).map (wholeAt q.o)).getD false then some false else none
abbrev Eq2 := TypeId → AV → AV → Option Bool
def andO (a : Option Bool) (b : Option Bool) : Option Bool := match a with
  | none => none
  | some a => bif a then b else some false
def eqPart (eq : Eq2) (t : TypeId) (x y : Option AV) : Option Bool := match x with
  | none => none
  | some x => match y with
    | none => none
    | some y => eq t x y
def eqFs (P : Program) (eq : Eq2) (xs ys : List AV) : List Field → Option Bool
  | [] => some true
  | f :: fs => bif f.name == "_" then eqFs P eq xs ys fs
    else andO (eqPart eq f.type (partA P f.type xs f.offset) (partA P f.type ys f.offset)) (eqFs P eq xs ys fs)
def eqEs (P : Program) (eq : Eq2) (e : TypeId) (xs ys : List AV) (n : Nat) : Nat → Nat → Option Bool
  | 0, _ => some true
  | m + 1, i => andO (eqPart eq e (partA P e xs (i * n)) (partA P e ys (i * n))) (eqEs P eq e xs ys n m (i + 1))
def eqBool (x y : AV) : Option Bool := match x, y with | .bool a, .bool b => some (a == b) | _, _ => none
def sameK (j k : IntKind) : Bool := decide (j = k)
def eqInt (x y : AV) : Option Bool := match x, y with | .int j a, .int k b => bif sameK j k then some (eqZ a b) else none | _, _ => none
def eqStr (x y : AV) : Option Bool := match x, y with | .str a, .str b => some (eqS a b) | _, _ => none
def eqPtrs (h : Hp) (a o b u : Nat) (n : Nat) : Option Bool := bif Nat.blt 0 n then samePt h ⟨a, o⟩ ⟨b, u⟩ else none
def eqPtr (P : Program) (h : Hp) (e : TypeId) (x y : AV) : Option Bool := match x, y with
  | .nilp, .nilp => some true
  | .nilp, .ptr _ _ => some false
  | .ptr _ _, .nilp => some false
  | .ptr a o, .ptr b u => (sizeT P e).bind (eqPtrs h a o b u)
  | _, _ => none
def eqDyn (eq : Eq2) (t : TypeId) (x y : AV) (i : TypeInfo) : Option Bool := bif i.comparable then eq t x y else none
def eqIfc (P : Program) (eq : Eq2) (x y : AV) : Option Bool := match x, y with
  | .nili, .nili => some true
  | .nili, .iface _ _ => some false
  | .iface _ _, .nili => some false
  | .iface t v, .iface u w => bif Nat.beq t u then (P.info? t).bind (eqDyn eq t v w) else some false
  | _, _ => none
def eqSt (P : Program) (eq : Eq2) (t : TypeId) (fs : List Field) (x y : AV) : Option Bool := match x, y with
  | .agg xs, .agg ys => bif P.stoodInHeld t then none else eqFs P eq xs ys fs
  | _, _ => none
def eqAr (P : Program) (eq : Eq2) (n : Nat) (e : TypeId) (x y : AV) : Option Bool := match x, y with
  | .agg xs, .agg ys => (sizeT P e).bind fun z => eqEs P eq e xs ys z n 0
  | _, _ => none
def eqSl (x y : AV) : Option Bool := match x, y with
  | .nils, .nils => some true
  | .nils, .slice _ _ _ _ _ => some false
  | .slice _ _ _ _ _, .nils => some false
  | _, _ => none
def eqMp (x y : AV) : Option Bool := match x, y with
  | .nilm, .nilm => some true
  | .nilm, .mapv _ => some false
  | .mapv _, .nilm => some false
  | _, _ => none
def eqFn (x y : AV) : Option Bool := match x, y with
  | .nilf, .nilf => some true
  | .nilf, .fn _ _ _ => some false
  | .fn _ _ _, .nilf => some false
  | _, _ => none
def eqU (u : TypeDesc) (P : Program) (h : Hp) (eq : Eq2) (t : TypeId) : AV → AV → Option Bool := match u with
  | .bool => eqBool
  | .int _ => eqInt
  | .string => eqStr
  | .pointer e => eqPtr P h e
  | .interface _ => eqIfc P eq
  | .struct fs => eqSt P eq t fs.toList
  | .array n e => eqAr P eq n e
  | .slice _ => eqSl
  | .map _ _ => eqMp
  | .func _ _ _ => eqFn
  | _ => fun _ _ => none
def eqT (P : Program) (h : Hp) : Nat → Eq2
  | 0, _, _, _ => none
  | d + 1, t, x, y => (P.underlying t).bind fun u => eqU u P h (eqT P h d) t x y
structure Bd where
  l : Nat
  h : Nat
  m : Nat
def bdL (h m : Nat) (l : Nat) : Option Bd := bif Nat.ble l h then some ⟨l, h, m⟩ else none
def bdH (lo : Option AV) (m : Nat) (h : Nat) : Option Bd := bif Nat.ble h m then (match lo with | none => some ⟨0, h, m⟩ | some v => (asN v).bind (bdL h m)) else none
def bdM (lo hi : Option AV) (n : Option Nat) (c m : Nat) : Option Bd := bif Nat.ble m c then (match hi with | none => n.bind (bdH lo m) | some v => (asN v).bind (bdH lo m)) else none
def bounds (lo hi mx : Option AV) (n c : Nat) : Option Bd := match mx with
  | none => bdM lo hi (some n) c c
  | some v => (asN v).bind (bdM lo hi none c)
def cutS (s : List UInt8) (d : Bd) : AV := .str ((s.take d.h).drop d.l)
def cutSl (s : Sl) (ex : Bool) (z : Nat) (d : Bd) : AV :=
  bif Nat.beq d.l d.m then .slice s.b (bif ex then s.o else s.o + d.l * z) 0 0 ex
  else .slice s.b (s.o + d.l * z) (d.h - d.l) (d.m - d.l) ex
def isSomeA (v : Option AV) : Bool := match v with | some _ => true | none => false
def slStr (lo hi mx : Option AV) (x : AV) : Option AV := bif isSomeA mx then none else (asS x).bind fun s => (bounds lo hi none s.length s.length).map (cutS s)
def slSl (lo hi mx : Option AV) (s : Sl) (z : Nat) : Option AV := bif isSomeA mx && Nat.beq s.c 0 && !s.ex then none else (bounds lo hi mx s.n s.c).map (cutSl s (s.ex || isSomeA mx) z)
def slSli (P : Program) (e : TypeId) (lo hi mx : Option AV) (x : AV) : Option AV := match x with
  | .nils => (sizeT P e).bind fun _ => (bounds lo hi mx 0 0).map fun _ => .nils
  | .slice b o n c ex => (sizeT P e).bind (slSl lo hi mx ⟨b, o, n, c, ex⟩)
  | _ => none
def slArr (P : Program) (a : Arr) (lo hi mx : Option AV) (x : AV) : Option AV := (asP x).bind fun p => (sizeT P a.e).bind (slSl lo hi mx ⟨p.b, p.o, a.n, a.n, true⟩)
def slPtr (P : Program) (t : TypeId) (lo hi mx : Option AV) (x : AV) : Option AV := ((P.underlying t).bind arrD).bind fun a => slArr P a lo hi mx x
def slU (u : TypeDesc) (P : Program) (lo hi mx : Option AV) : AV → Option AV := match u with
  | .string => slStr lo hi mx
  | .slice e => slSli P e lo hi mx
  | .array n e => slArr P ⟨n, e⟩ lo hi mx
  | .pointer t => slPtr P t lo hi mx
  | _ => fun _ => none
def sliceA (P : Program) (t : TypeId) (x : AV) (lo hi mx : Option AV) : Option AV := (P.underlying t).bind fun u => slU u P lo hi mx x
def byteA (b : UInt8) : AV := .int .u8 (.ofNat (n8 b))
def bytesA (s : List UInt8) : List AV := List.rec (motive := fun _ => List AV) [] (fun b _ ih => byteA b :: ih) s
def newsA (h : Hp) (z m : Nat) (x : AV) : Option (List AV) := match m with
  | 0 => some []
  | m + 1 => match x with
    | .slice b o _ _ _ => loadN h b o (Nat.mul (Nat.succ m) z)
    | .str s => bif Nat.beq z 1 then some (bytesA (s.take (Nat.succ m))) else none
    | _ => none
def lenA (x : AV) : Option Nat := match x with
  | .nils => some 0
  | .slice _ _ n _ _ => some n
  | .str s => some (lenL s)
  | _ => none
def grown (e : TypeId) (z n : Nat) (cs : List AV) (h : Hp) (nx : Nat) : Rs := ⟨.slice nx 0 n n false, newCells h nx cs (n * z) e false, nx + 1⟩
def eitherOk (e : TypeId) (z : Nat) (s : Sl) (k : Bk) : Bool :=
  (!k.ro) && (!k.st) && Nat.beq k.e e && Nat.ble (s.o + s.c * z) k.n && Nat.ble k.fz (s.o + s.n * z) && Nat.ble k.bnd (s.o + s.n * z)
def elder (p : Nat) (k : Bk) : AO := bif Nat.beq p k.n then .cells { k with st := true } else .dead
def newer (e : TypeId) (z n p o b : Nat) (cs : List AV) (k : Bk) : Bk := ⟨treeOf un cs 0 .nil, un, n * z, e, false, false, false, b :: k.anc, p, Nat.sub k.fz o⟩
def eitherBk (e : TypeId) (z : Nat) (s : Sl) (n : Nat) (cs : List AV) (h : Hp) (nx : Nat) (k : Bk) : Option Rs :=
  bif eitherOk e z s k then some ⟨.slice nx 0 n n false, setBk (h.set .dead s.b (elder (s.o + s.n * z) k)) nx (newer e z n (s.n * z) s.o s.b cs k), nx + 1⟩ else none
def growBk (e : TypeId) (z : Nat) (s : Sl) (n : Nat) (cs : List AV) (h : Hp) (nx : Nat) (k : Bk) : Option Rs :=
  bif s.ex || k.fx then some (grown e z n cs h nx) else eitherBk e z s n cs h nx k
def growSl (e : TypeId) (z : Nat) (s : Sl) (n : Nat) (news : List AV) (h : Hp) (nx : Nat) (old : List AV) : Option Rs := (getBk h s.b).bind (growBk e z s n (cat old news) h nx)
def intoSl (s : Sl) (n : Nat) (nx : Nat) (h : Hp) : Rs := ⟨.slice s.b s.o n s.c s.ex, h, nx⟩
def appSl (e : TypeId) (z m : Nat) (s : Sl) (h : Hp) (nx : Nat) (news : List AV) : Option Rs :=
  bif Nat.ble (s.n + m) s.c then (bif Nat.beq m 0 then some (intoSl s s.n nx h) else (storeN h s.b (s.o + s.n * z) news).map (intoSl s (s.n + m) nx))
  else (newsA h z s.n (.slice s.b s.o s.n s.c s.ex)).bind (growSl e z s (s.n + m) news h nx)
def appNil (e : TypeId) (z m : Nat) (h : Hp) (nx : Nat) (news : List AV) : Option Rs := bif Nat.beq m 0 then some ⟨.nils, h, nx⟩ else some (grown e z m news h nx)
def appTo (s : AV) (e : TypeId) (z m : Nat) (h : Hp) (nx : Nat) : Option (List AV → Option Rs) := match s with
  | .nils => some (appNil e z m h nx)
  | .slice b o n c ex => bif Nat.ble (n + m) 1073741824 then some (appSl e z m ⟨b, o, n, c, ex⟩ h nx) else none
  | _ => none
def elemOk (P : Program) (e : TypeId) (z : Nat) : Bool := ((bytesT P e).map fun b => Nat.ble b 65536).getD false && Nat.blt 0 z && ((zeroT P e).map fun v => Nat.beq (lenL v.cells) z).getD false
def appGo (e : TypeId) (s : AV) (h : Hp) (nx : Nat) (z m : Nat) (news : List AV) : Option Rs := bif news.all oneA then (appTo s e z m h nx).bind fun f => f news else none
def appM (P : Program) (e : TypeId) (s x : AV) (h : Hp) (nx : Nat) (z m : Nat) : Option Rs :=
  bif Nat.ble m 1073741824 && elemOk P e z then (newsA h z m x).bind (appGo e s h nx z m) else none
def appE (P : Program) (s x : AV) (h : Hp) (nx : Nat) (e : TypeId) : Option Rs := (sizeT P e).bind fun z => (lenA x).bind (appM P e s x h nx z)
def appendA (P : Program) (t : TypeId) (s x : AV) (h : Hp) (nx : Nat) : Option Rs := (elemT P t).bind (appE P s x h nx)
def copied (m nx : Nat) (h : Hp) : Rs := ⟨.int .i64 (.ofNat m), h, nx⟩
def copyTo (m : Nat) (d : AV) (h : Hp) (nx : Nat) (news : List AV) : Option Rs := (asSl d).bind fun s => (storeN h s.b s.o news).map (copied m nx)
def copyM (d s : AV) (h : Hp) (nx z m : Nat) : Option Rs := bif Nat.beq m 0 then some (copied 0 nx h) else (newsA h z m s).bind (copyTo m d h nx)
def lenD (x : AV) : Option Nat := match x with
  | .nils => some 0
  | .slice _ _ n _ _ => some n
  | _ => none
def copyE (P : Program) (d s : AV) (h : Hp) (nx : Nat) (e : TypeId) : Option Rs := (sizeT P e).bind fun z => (lenA s).bind fun a => (lenD d).bind fun b => copyM d s h nx z (Nat.min a b)
def copyA (P : Program) (t : TypeId) (d s : AV) (h : Hp) (nx : Nat) : Option Rs := (elemT P t).bind (copyE P d s h nx)
def byteN (k : IntKind) (n : Nat) : Option UInt8 := bif sameK k .u8 && Nat.blt n 256 then some (UInt8.ofNat n) else none
def byteOf (v : AV) : Option UInt8 := match v with | .int k z => (natZ z).bind (byteN k) | _ => none
def bytesOf (l : List AV) : Option (List UInt8) := List.rec (motive := fun _ => Option (List UInt8)) (some []) (fun v _ ih => consO (byteOf v) ih) l
abbrev Conv := Program → AV → Hp → Nat → Option Rs
def cvInt (k : IntKind) : Conv := fun _ x h nx => (asI x).map fun z => pv h nx (.int k (wrapZ k z))
def strRs (h : Hp) (nx : Nat) (s : List UInt8) : Rs := ⟨.str s, h, nx⟩
def repBk (o n : Nat) (h : Hp) (nx : Nat) (k : Bk) : Option Rs := match k.t with
  | .nil => bif Nat.ble (Nat.add o n) k.n then (byteOf k.d).map fun c => ⟨.rep c n, h, nx⟩ else none
  | .node _ _ _ => none
def repSl (n : Nat) (x : AV) (h : Hp) (nx : Nat) : Option Rs := match x with
  | .slice b o _ _ _ => (getBk h b).bind (repBk o n h nx)
  | _ => none
def cvSlN (x : AV) (h : Hp) (nx n : Nat) : Option Rs := bif Nat.blt 65536 n then repSl n x h nx else (newsA h 1 n x).bind fun l => (bytesOf l).map (strRs h nx)
def cvSlStr (P : Program) (e : TypeId) (x : AV) (h : Hp) (nx : Nat) : Option Rs := bif isU8 P e then (lenD x).bind (cvSlN x h nx) else none
def cvStr (src : TypeDesc) : Conv := match src with
  | .string => fun _ x h nx => (asS x).map (strRs h nx)
  | .slice e => fun P x h nx => cvSlStr P e x h nx
  | _ => fun _ _ _ _ => none
def mkBytes (e : TypeId) (h : Hp) (nx : Nat) (s : List UInt8) : Rs := ⟨.slice nx 0 (lenL s) (lenL s) false, newCells h nx (bytesA s) (lenL s) e false, nx + 1⟩
def cvSl (e : TypeId) (src : TypeDesc) : Conv := match src with
  | .string => fun P x h nx => bif isU8 P e && ((sizeT P e).map (Nat.beq 1)).getD false then (asS x).map (mkBytes e h nx) else none
  | _ => fun _ _ _ _ => none
def cvUn0 (t : TypeId) (P : Program) (h : Hp) (p : At) : Bool := ((getBk h p.b).map fun k => Nat.blt p.o k.n).getD false && ((sizeT P t).map fun n => Nat.blt 0 n).getD false
def cvUn (src : TypeDesc) : Conv := match src with
  | .pointer t => fun P x h nx => (asP x).bind fun p => bif cvUn0 t P h p then some ⟨x, h, nx⟩ else none
  | _ => fun _ _ _ _ => none
def cvPt0 (u : TypeId) (P : Program) (p : At) (k : Bk) : Bool := k.fx && (!k.ro) && ((sizeT P u).map fun n => Nat.blt 0 n).getD false && Go.liesAt P P.depth k.e (k.n / P.cellsOf k.e) p.o u 1
def cvPt (u : TypeId) (src : TypeDesc) : Conv := match src with
  | .unsafePointer => fun P x h nx => (asP x).bind fun p => bif ((getBk h p.b).map (cvPt0 u P p)).getD false then some ⟨x, h, nx⟩ else none
  | _ => fun _ _ _ _ => none
def convU (dst : TypeDesc) (src : TypeDesc) : Conv := match dst with
  | .int k => cvInt k
  | .string => cvStr src
  | .slice e => cvSl e src
  | .unsafePointer => cvUn src
  | .pointer u => cvPt u src
  | _ => fun _ _ _ _ => none
def convA (P : Program) (src dst : TypeId) (x : AV) (h : Hp) (nx : Nat) : Option Rs := (P.underlying src).bind fun s => (P.underlying dst).bind fun d => convU d s P x h nx
structure Mt where
  k : TypeId
  e : TypeId
def mapD (u : TypeDesc) : Option Mt := match u with | .map k e => some ⟨k, e⟩ | _ => none
def mapT (P : Program) (t : TypeId) : Option Mt := (P.underlying t).bind mapD
def keyIs (u : TypeDesc) (k : AV) : Bool := match u with
  | .int _ => (match k with | .int _ _ => true | _ => false)
  | .string => (match k with | .str _ => true | _ => false)
  | .bool => (match k with | .bool _ => true | _ => false)
  | _ => false
def sameA (x y : AV) : Option Bool := match x with
  | .int k a => (match y with | .int k' b => bif sameK k k' then some (eqZ a b) else none | _ => none)
  | .str a => (match y with | .str b => some (eqS a b) | _ => none)
  | .bool a => (match y with | .bool b => some (a == b) | _ => none)
  | _ => none
structure Fd where
  i : Nat
  v : AV
def fdStep (e : Ent) (i : Nat) (r : Option (Option Fd)) (b : Bool) : Option (Option Fd) := bif b then some (some ⟨i, e.2.1⟩) else r
def findA (k : AV) : List Ent → Nat → Option (Option Fd)
  | [], _ => some none
  | e :: es, i => (sameA k e.1).bind (fdStep e i (findA k es (i + 1)))
def modA (f : Ent → Ent) : List Ent → Nat → List Ent
  | [], _ => []
  | e :: es, 0 => f e :: es
  | e :: es, i + 1 => e :: modA f es i
def keyOk (k : AV) (m : Mt) (u : TypeDesc) : Option Mt := bif keyIs u k then some m else none
def mapK1 (P : Program) (k : AV) (m : Mt) : Option Mt := (P.underlying m.k).bind (keyOk k m)
def mapK (P : Program) (t : TypeId) (k : AV) : Option Mt := (mapT P t).bind (mapK1 P k)
def mpA (h : Hp) (m : AV) : Option (List Ent) := match m with
  | .nilm => some []
  | .mapv b => (getMp h b).map (·.es)
  | _ => none
def lkOut (ok : Bool) (v : AV) (is : Bool) : AV := bif ok then .tup [v, .bool is] else v
def lkFd (P : Program) (m : Mt) (ok : Bool) (r : Option Fd) : Option AV := match r with
  | some f => some (lkOut ok f.v true)
  | none => (zeroT P m.e).map fun z => lkOut ok z false
def lookupA (P : Program) (t : TypeId) (m k : AV) (ok : Bool) (h : Hp) : Option AV := (mapK P t k).bind fun mt => (mpA h m).bind fun es => (findA k es 0).bind (lkFd P mt ok)
def asM (v : AV) : Option Nat := match v with | .mapv b => some b | _ => none
def setMp (h : Hp) (b : Nat) (es : List Ent) (cl : Nat) : Hp := h.set .dead b (.map es cl)
def upFd (k v : AV) (h : Hp) (b : Nat) (mp : Mp) (r : Option Fd) : Hp := match r with
  | some f => setMp h b (modA (fun e => (k, v, e.2.2)) mp.es f.i) mp.cl
  | none => setMp h b (mp.es ++ [(k, v, mp.cl)]) (mp.cl + 1)
def updateA (P : Program) (t : TypeId) (m k v : AV) (h : Hp) : Option Hp := (mapK P t k).bind fun mt => (asM m).bind fun b => (getMp h b).bind fun mp => (findA k mp.es 0).map (upFd k v h b mp)
def dlFd (h : Hp) (b : Nat) (mp : Mp) (r : Option Fd) : Hp := match r with
  | some f => setMp h b (mp.es.eraseIdx f.i) mp.cl
  | none => setMp h b mp.es mp.cl
def delM (P : Program) (m k : AV) (h : Hp) (mt : Mt) : Option Hp := match m with
  | .nilm => some h
  | .mapv b => (getMp h b).bind fun mp => (findA k mp.es 0).map (dlFd h b mp)
  | _ => none
def deleteA (P : Program) (t : TypeId) (m k : AV) (h : Hp) : Option Hp := (mapK P t k).bind (delM P m k h)
def fieldAtL (fs : List Field) (i : Nat) : Option Field := fs[i]?
def fieldT (P : Program) (t : TypeId) (f : Nat) : Option Field := ((P.underlying t).bind fieldsD).bind fun fs => fieldAtL fs f
def asFail (P : Program) (aT : TypeId) (ok : Bool) : Option AV := bif ok then (zeroT P aT).map fun z => .tup [z, .bool false] else none
def asHold (v : AV) (ok : Bool) : AV := bif ok then .tup [v, .bool true] else v
def asWant (P : Program) (x : AV) (aT : TypeId) (ok : Bool) (ms : Array (String × TypeId)) (i : TypeInfo) : Option AV := match Instr.missingMethod ms i.methods with
  | none => some (asHold x ok)
  | some _ => asFail P aT ok
def ifD (u : TypeDesc) : Option (Array (String × TypeId)) := match u with | .interface ms => some ms | _ => none
def assertU (P : Program) (x : AV) (aT : TypeId) (ok : Bool) (u : TypeDesc) : Option AV := match ifD u with
  | some ms => (match x with
    | .nili => asFail P aT ok
    | .iface t _ => (P.info? t).bind (asWant P x aT ok ms)
    | _ => none)
  | none => match x with
    | .nili => asFail P aT ok
    | .iface t v => bif Nat.beq t aT then some (asHold v ok) else asFail P aT ok
    | _ => none
def assertA (P : Program) (x : AV) (aT : TypeId) (ok : Bool) : Option AV := (P.underlying aT).bind (assertU P x aT ok)
def notIf (u : TypeDesc) : Bool := match u with | .interface _ => false | _ => true
def conc (P : Program) (t : TypeId) : Bool := ((P.underlying t).map notIf).getD false
def ixArr (P : Program) (a : Arr) (x : AV) (j : Nat) : Option AV := bif Nat.blt j a.n then (asAgg x).bind fun cs => (sizeT P a.e).bind fun z => partA P a.e cs (j * z) else none
def ixStr (x : AV) (j : Nat) : Option AV := (asS x).bind fun s => (s[j]?).map byteA
def indexU (u : TypeDesc) (P : Program) (x : AV) (j : Nat) : Option AV := match u with
  | .array n e => ixArr P ⟨n, e⟩ x j
  | .string => ixStr x j
  | _ => none
def indexA (P : Program) (t : TypeId) (x i : AV) : Option AV := (P.underlying t).bind fun u => (asN i).bind (indexU u P x)
def ixAt (b o j n : Nat) (z : Nat) : Option AV := bif Nat.blt j n then some (.ptr b (o + j * z)) else none
def indexAddrU (u : TypeDesc) (P : Program) (x : AV) (j : Nat) : Option AV := match u with
  | .array n e => (asP x).bind fun p => (sizeT P e).bind (ixAt p.b p.o j n)
  | .slice e => (asSl x).bind fun s => (sizeT P e).bind (ixAt s.b s.o j s.n)
  | _ => none
def indexAddrA (P : Program) (t : TypeId) (x i : AV) : Option AV := (P.underlying t).bind fun u => (asN i).bind (indexAddrU u P x)
def strN (x : AV) : Option Nat := match x with
  | .str s => some (lenL s)
  | .rep _ n => some n
  | _ => none
def lenU (u : TypeDesc) (P : Program) (x : AV) (h : Hp) : Option Nat := match u with
  | .string => strN x
  | .array n _ => some n
  | .pointer a => ((P.underlying a).bind arrD).map (·.n)
  | .slice _ => (match x with | .nils => some 0 | .slice _ _ n _ _ => some n | _ => none)
  | .map _ _ => (mpA h x).map lenL
  | _ => none
def lenB (P : Program) (t : TypeId) (x : AV) (h : Hp) : Option Nat := (P.underlying t).bind fun u => lenU u P x h
def capSl (h : Hp) (s : Sl) : Option Nat := bif s.ex || ((getBk h s.b).map (·.fx)).getD false then some s.c else none
def capU (u : TypeDesc) (x : AV) (h : Hp) : Option Nat := match u with
  | .array n _ => some n
  | .slice _ => (match x with | .nils => some 0 | .slice b o n c ex => capSl h ⟨b, o, n, c, ex⟩ | _ => none)
  | _ => none
def capB (P : Program) (t : TypeId) (x : AV) (h : Hp) : Option Nat := (P.underlying t).bind fun u => capU u x h
def max2 (x y : AV) : Option AV := match x, y with
  | .int k x, .int _ y => some (.int k (bif ltZ x y then y else x))
  | .str x, .str y => some (.str (bif ltS x y then y else x))
  | _, _ => none
def min2 (x y : AV) : Option AV := match x, y with
  | .int k x, .int _ y => some (.int k (bif ltZ y x then y else x))
  | .str x, .str y => some (.str (bif ltS y x then y else x))
  | _, _ => none
def foldA (f : AV → AV → Option AV) : List AV → AV → Option AV
  | [], x => some x
  | y :: l, x => (f x y).bind (foldA f l)
def constO (x : Operand) : Bool := match x with | .const _ => true | _ => false
def eqOp (op : BinOp) (r : Option Bool) : Option AV := match op with
  | .eql => r.map .bool
  | .neq => r.map fun b => .bool (!b)
  | _ => none
def binInts (op : BinOp) (k k' : IntKind) (m n : Int) : Option AV := match op with
  | .shl => iShl k m n
  | .shr => iShr k m n
  | op => bif sameK k k' then binI op k m n else none
def guardOk (P : Program) (t : TypeId) (x y : Operand) (a : AV) : Bool := match a with
  | .nili => constO x || constO y
  | .agg _ => !P.eqGuardType P.depth t
  | _ => true
def binEq (P : Program) (op : BinOp) (t : TypeId) (x y : Operand) (h : Hp) (a b : AV) : Option AV := bif guardOk P t x y a then eqOp op (eqT P h 10 t a b) else none
def binA (P : Program) (op : BinOp) (t : TypeId) (x y : Operand) (h : Hp) (a b : AV) : Option AV := match a with
  | .int k m => (match b with | .int k' n => binInts op k k' m n | _ => none)
  | .str s => (match b with | .str u => binS op s u | _ => none)
  | .rep _ _ => none
  | a => binEq P op t x y h a b
def negI (k : IntKind) (n : Int) : AV := .int k (wrapZ k (Int.sub (.ofNat 0) n))
def comI (k : IntKind) (n : Int) : AV := .int k (k.wrap (BitVec.ofInt k.bits (if k.signed then -1 else k.max) ^^^ BitVec.ofInt k.bits n).toNat)
def unA (op : UnOp) (x : AV) : Option AV := match op with
  | .neg => (match x with | .int k n => some (negI k n) | _ => none)
  | .xor => (match x with | .int k n => some (comI k n) | _ => none)
  | .not => (match x with | .bool b => some (.bool (!b)) | _ => none)
  | _ => none
def ustrBk (P : Program) (el : TypeId) (b o m : Nat) (h : Hp) (nx : Nat) (bs : List UInt8) (k : Bk) : Option Rs :=
  bif Nat.beq k.e el && (!k.ro) && (!k.st) && ((sizeT P el).map (Nat.beq 1)).getD false then some ⟨.str bs, setBk h b { k with st := true, fz := o + m }, nx⟩ else none
def isPtr (v : AV) : Bool := match v with | .ptr _ _ => true | .nilp => true | _ => false
def ustrN (P : Program) (p : AV) (h : Hp) (nx : Nat) (el : TypeId) (n : Nat) : Option Rs :=
  bif Nat.ble 9223372036854775808 n then none else bif Nat.beq n 0 then (bif isPtr p then some ⟨.str [], h, nx⟩ else none)
  else bif isU8 P el then (asP p).bind fun a => (loadN h a.b a.o n).bind fun l => (bytesOf l).bind fun bs => (getBk h a.b).bind (ustrBk P el a.b a.o n h nx bs) else none
def ptrD (u : TypeDesc) : Option TypeId := match u with | .pointer e => some e | _ => none
def ustrA (P : Program) (t : TypeId) (p n : AV) (h : Hp) (nx : Nat) : Option Rs := ((P.underlying t).bind ptrD).bind fun el => (asN n).bind (ustrN P p h nx el)
def dataA (x : AV) : Option AV := match x with
  | .nils => some .nilp
  | .slice b o _ c _ => bif Nat.blt 0 c then some (.ptr b o) else none
  | _ => none
abbrev Bi := Program → List TypeId → List AV → Hp → Nat → Option Rs
def bi2 (f : Program → TypeId → AV → AV → Hp → Nat → Option Rs) : Bi := fun P ts vs h nx => match ts with
  | t :: _ => (match vs with | [x, y] => f P t x y h nx | _ => none)
  | [] => none
def intRs (h : Hp) (nx n : Nat) : Rs := ⟨.int .i64 (.ofNat n), h, nx⟩
def bi1 (f : Program → TypeId → AV → Hp → Option Nat) : Bi := fun P ts vs h nx => match ts with
  | t :: _ => (match vs with | [x] => (f P t x h).map (intRs h nx) | _ => none)
  | [] => none
def biFold (f : AV → AV → Option AV) : Bi := fun _ _ vs h nx => match vs with
  | x :: l => (foldA f l x).map (pv h nx)
  | [] => none
def biDel : Bi := bi2 fun P t m k h nx => (deleteA P t m k h).map (ph nx)
def rowV (n z : Nat) (v : AV) : Option (List AV) := bif Nat.beq (lenL v.cells) z then some (repL v.cells n) else none
def rowZ (P : Program) (el : TypeId) (n z : Nat) : Option (List AV) := bif Nat.beq (n * z) 0 then some [] else (zeroT P el).bind (rowV n z)
def clrMp (h : Hp) (nx b : Nat) (mp : Mp) : Rs := ⟨un, setMp h b [] mp.cl, nx⟩
def srcD (u : TypeDesc) : Bool := match u with | .slice _ | .string => true | _ => false
def biApp : Bi := fun P ts vs h nx => match ts with
  | [t, u] => bif ((P.underlying u).map srcD).getD false then bi2 appendA P [t, u] vs h nx else none
  | _ => none
def clrSl (P : Program) (h : Hp) (nx : Nat) (s : Sl) (e : TypeId) (z : Nat) : Option Rs := bif Nat.blt 0 z then (rowZ P e s.n z).bind fun l => (storeN h s.b s.o l).map (ph nx) else none
def clrTo (P : Program) (h : Hp) (nx : Nat) (s : Sl) (u : TypeDesc) : Option Rs := bif Nat.beq s.n 0 then some ⟨un, h, nx⟩ else (elemD u).bind fun e => (sizeT P e).bind (clrSl P h nx s e)
def clrU (P : Program) (x : AV) (h : Hp) (nx : Nat) (u : TypeDesc) : Option Rs := match x with
  | .nilm => some ⟨un, h, nx⟩
  | .nils => some ⟨un, h, nx⟩
  | .mapv b => (getMp h b).map (clrMp h nx b)
  | .slice b o n c ex => clrTo P h nx ⟨b, o, n, c, ex⟩ u
  | _ => none
def biClear : Bi := fun P ts vs h nx => match ts with
  | t :: _ => (match vs with | [x] => (P.underlying t).bind (clrU P x h nx) | _ => none)
  | [] => none
def biData : Bi := fun _ _ vs h nx => match vs with | [x] => (dataA x).map (pv h nx) | _ => none
def builtinA (b : Builtin) : Bi := match b with
  | .append => biApp
  | .copy => bi2 copyA
  | .len => bi1 lenB
  | .cap => bi1 capB
  | .delete => biDel
  | .clear => biClear
  | .unsafeSliceData => biData
  | .unsafeString => bi2 ustrA
  | .max => biFold max2
  | .min => biFold min2
  | _ => fun _ _ _ _ _ => none
abbrev OpR := Program → Fm → Hp → Nat → Option Rs
def oNo : OpR := fun _ _ _ _ => none
def oMove (x : Operand) : OpR := fun _ fr h nx => (evA fr x).map (pv h nx)
def oPick (c a b : Operand) : OpR := fun _ fr h nx => ((evA fr c).bind asB).bind fun t => (evA fr (bif t then a else b)).map (pv h nx)
def mkBox (t : TypeId) (h : Hp) (nx : Nat) (v : AV) : Rs := ⟨.ptr nx 0, newCells h nx v.cells v.cells.length t true, nx + 1⟩
def oAlloc (t : TypeId) : OpR := fun P _ h nx => (zeroT P t).map (mkBox t h nx)
def oBox (t : TypeId) (x : Operand) : OpR := fun _ fr h nx => (evA fr x).map (mkBox t h nx)
def oBuild (t : TypeId) (ps : Array (Nat × Operand)) : OpR := fun P fr h nx => ((evP fr ps.toList).bind (buildA P t)).map (pv h nx)
def mkRow (el : TypeId) (n z : Nat) (h : Hp) (nx : Nat) (cs : List AV) : Rs := ⟨.slice nx 0 n n true, newCells h nx cs (n * z) el true, nx + 1⟩
def bsGo (P : Program) (el : TypeId) (n : Nat) (h : Hp) (nx : Nat) (l : List Pt) (z : Nat) : Option Rs := bif Nat.ble (n * z) 65536 then ((rowZ P el n z).bind (fillA (rowPl z) l)).map (mkRow el n z h nx) else none
def oBuildSlice (t : TypeId) (n : Nat) (ps : Array (Nat × Operand)) : OpR := fun P fr h nx => (elemT P t).bind fun el => (evP fr ps.toList).bind fun l => (sizeT P el).bind (bsGo P el n h nx l)
def oLoad (t : TypeId) (a : Operand) : OpR := fun P fr h nx => ((evA fr a).bind asP).bind fun p => (loadV P h t p.b p.o).map (pv h nx)
def oStore (t : TypeId) (a x : Operand) : OpR := fun P fr h nx => ((evA fr a).bind asP).bind fun p => (evA fr x).bind fun v => (storeV P h t p.b p.o v).map (ph nx)
def thereA (v : AV) : Bool := match v with
  | .ptr _ _ => true
  | .fn (.func _) _ _ => true
  | .iface _ _ => true
  | .slice _ _ _ _ _ => true
  | .nils => true
  | _ => false
def nilC (h : Hp) (nx : Nat) (v : AV) : Option Rs := bif thereA v then some ⟨v, h, nx⟩ else none
def oNil (x : Operand) : OpR := fun _ fr h nx => (evA fr x).bind (nilC h nx)
def oBin (op : BinOp) (t : TypeId) (x y : Operand) (_ : TypeId) : OpR := fun P fr h nx => (evA fr x).bind fun a => (evA fr y).bind fun b => (binA P op t x y h a b).map (pv h nx)
def oUn (op : UnOp) (_ : TypeId) (x : Operand) : OpR := fun _ fr h nx => ((evA fr x).bind (unA op)).map (pv h nx)
def oConv (s d : TypeId) (x : Operand) : OpR := fun P fr h nx => (evA fr x).bind fun a => convA P s d a h nx
def oIfc (t : TypeId) (x : Operand) : OpR := fun P fr h nx => bif conc P t then (evA fr x).map fun v => ⟨.iface t v, h, nx⟩ else none
def oFunc (f : Fn) (a b : Array Operand) : OpR := fun _ fr h nx => (evL fr a.toList).bind fun a => (evL fr b.toList).map fun b => ⟨.fn f a b, h, nx⟩
def mkMap (h : Hp) (nx : Nat) : Rs := ⟨.mapv nx, setMp h nx [] 0, nx + 1⟩
def oMap (t : TypeId) (r : Option Operand) : OpR := fun P fr h nx => match r with
  | none => some (mkMap h nx)
  | some r => (mapT P t).bind fun _ => ((evA fr r).bind asI).map fun _ => mkMap h nx
def mkSl1 (el : TypeId) (l c : Nat) (h : Hp) (nx : Nat) (z : AV) : Option Rs := bif oneA z then some ⟨.slice nx 0 l c true, setBk h nx ⟨.nil, z, c, el, false, true, false, [], 0, 0⟩, nx + 1⟩ else none
def mkSlN (el : TypeId) (l c z : Nat) (h : Hp) (nx : Nat) (cs : List AV) : Rs := ⟨.slice nx 0 l c true, newCells h nx cs (c * z) el true, nx + 1⟩
def msGo (P : Program) (el : TypeId) (l c : Nat) (h : Hp) (nx z : Nat) : Option Rs := bif Nat.beq z 1 then (zeroT P el).bind (mkSl1 el l c h nx) else bif Nat.ble c 65536 then (rowZ P el c z).map (mkSlN el l c z h nx) else none
def msOk (P : Program) (el : TypeId) (l c : Nat) : Bool := Nat.ble l c && Nat.ble c 1073741824 && ((bytesT P el).map fun b => Nat.ble b 65536).getD false
def oMake (t : TypeId) (l c : Operand) : OpR := fun P fr h nx => (elemT P t).bind fun el => ((evA fr l).bind asN).bind fun l => ((evA fr c).bind asN).bind fun c => bif msOk P el l c then (sizeT P el).bind (msGo P el l c h nx) else none
def optA (fr : Fm) (x : Option Operand) : Option (Option AV) := match x with
  | none => some none
  | some x => (evA fr x).map some
def oSlice (t : TypeId) (x : Operand) (lo hi mx : Option Operand) : OpR := fun P fr h nx => (evA fr x).bind fun v => (optA fr lo).bind fun lo => (optA fr hi).bind fun hi => (optA fr mx).bind fun mx => (sliceA P t v lo hi mx).map (pv h nx)
def faGo (P : Program) (p : At) (f : Field) : Option AV := (sizeT P f.type).bind fun n => bif Nat.blt 0 n then some (.ptr p.b (p.o + f.offset)) else none
def oFieldAddr (t : TypeId) (x : Operand) (f : Nat) : OpR := fun P fr h nx => ((evA fr x).bind asP).bind fun p => ((fieldT P t f).bind (faGo P p)).map (pv h nx)
def oField (t : TypeId) (x : Operand) (f : Nat) : OpR := fun P fr h nx => ((evA fr x).bind asAgg).bind fun cs => ((fieldT P t f).bind fun f => partA P f.type cs f.offset).map (pv h nx)
def oIndexAddr (t : TypeId) (x i : Operand) : OpR := fun P fr h nx => (evA fr x).bind fun v => (evA fr i).bind fun j => (indexAddrA P t v j).map (pv h nx)
def oIndex (t : TypeId) (x i : Operand) : OpR := fun P fr h nx => (evA fr x).bind fun v => (evA fr i).bind fun j => (indexA P t v j).map (pv h nx)
def oLookup (t : TypeId) (m k : Operand) (ok : Bool) : OpR := fun P fr h nx => (evA fr m).bind fun m => (evA fr k).bind fun k => (lookupA P t m k ok h).map (pv h nx)
def oUpdate (t : TypeId) (m k v : Operand) : OpR := fun P fr h nx => (evA fr m).bind fun m => (evA fr k).bind fun k => (evA fr v).bind fun v => (updateA P t m k v h).map (ph nx)
def isStrD (u : TypeDesc) : Bool := match u with | .string => true | _ => false
def oAssert (x : Operand) (_ a : TypeId) (ok : Bool) : OpR := fun P fr h nx => ((evA fr x).bind fun v => assertA P v a ok).map (pv h nx)
def nthA (l : List AV) (i : Nat) : Option AV := l[i]?
def oExtract (t : Operand) (i : Nat) : OpR := fun _ fr h nx => (((evA fr t).bind asTup).bind fun l => nthA l i).map (pv h nx)
def oBuiltin (b : Builtin) (args : Array Operand) (ts : Array TypeId) : OpR := fun P fr h nx => (evL fr args.toList).bind fun vs => builtinA b P ts.toList vs h nx
def oCallee (c : Callee) (args : Array Operand) (ts : Array TypeId) : OpR := match c with
  | .builtin b => oBuiltin b args ts
  | _ => oNo
def oCall (c : Call) : OpR := oCallee c.callee c.args c.argTypes
def opA (o : Op) : OpR := match o with
  | .move x => oMove x
  | .assign x => oMove x
  | .pick c a b => oPick c a b
  | .alloc t => oAlloc t
  | .box t x => oBox t x
  | .build t ps => oBuild t ps
  | .buildSlice t n ps => oBuildSlice t n ps
  | .load t a => oLoad t a
  | .store t a x => oStore t a x
  | .nilCheck x => oNil x
  | .binOp op t x y u => oBin op t x y u
  | .unOp op t x => oUn op t x
  | .convert s d x => oConv s d x
  | .makeInterface t x => oIfc t x
  | .makeFunc f a b => oFunc f a b
  | .makeMap t r => oMap t r
  | .makeSlice t l c => oMake t l c
  | .slice t x lo hi mx => oSlice t x lo hi mx
  | .fieldAddr t x f => oFieldAddr t x f
  | .field t x f => oField t x f
  | .indexAddr t x i => oIndexAddr t x i
  | .index t x i => oIndex t x i
  | .lookup t m k ok => oLookup t m k ok
  | .mapUpdate t m k v => oUpdate t m k v
  | .insert t m k v => oUpdate t m k v
  | .typeAssert x t a ok => oAssert x t a ok
  | .extract t i => oExtract t i
  | .call c => oCall c
  | _ => oNo
end
end Ex
end Go.Proofs.YtdngjkjoahgelaaGreatDoor

namespace Go.Proofs.YtdngjkjoahgelaaGreatDoor
set_option linter.all false
namespace Ex
noncomputable section
structure St where
  fr : Fm
  ds : List Nat
  h : Hp
  nx : Nat
inductive Job where
  | code (c : Code)
  | scope (body c : Code)
abbrev Kx := X → St → Bool
structure Cx where
  sz : Nat
  rd : Option Nat
abbrev Self := Job → Cx → St → Kx → Bool
abbrev Prim := FuncId → List AV → Hp → Nat → Option Rs
def fzN (n : Nat) (b : Bool) : Bool := bif Nat.beq n n then b else false
def fzI (z : Int) : Bool → Bool := match z with
  | .ofNat n => fzN n
  | .negSucc n => fzN n
def fz (v : AV) : Bool → Bool := match v with
  | .int _ z => fzI z
  | .str s => fzN (lenL s)
  | .rep _ n => fzN n
  | .ptr x y => fzN (Nat.add x y)
  | .slice x y z u _ => fzN (Nat.add (Nat.add x y) (Nat.add z u))
  | .bool c => fun b => bif c then b else b
  | _ => fun b => b
def isNode (h : Hp) (b : Bool) : Bool := match h with
  | .nil => b
  | .node _ _ _ => b
def putD (σ : St) (sz : Nat) (v : AV) (d : Nat) : Option St := bif Nat.blt d sz then some { σ with fr := σ.fr.set un d v } else none
def putA (σ : St) (sz : Nat) (dst : Option Tmp) (v : AV) : Option St := match dst with
  | none => some σ
  | some d => putD σ sz v d
def yieldA (want : Bool) (v : AV) : Bool := match v with
  | .bool b => b == want
  | _ => false
def wantAt (ops : Array Oper) (fr : Fm) (g : Nat × Bool) : Bool := match (ops[g.1]?).bind (·.dst) with
  | none => false
  | some d => yieldA g.2 (fr.get un d)
def wantA (ops : Array Oper) (o : Oper) (fr : Fm) : Bool := match o.guard with
  | none => true
  | some g => wantAt ops fr g
inductive Plan where
  | done
  | fl (i : Nat) (o : Oper) (r : Plan)
  | ef (i : Nat) (o : Oper) (r : Plan)
def isIntD (u : TypeDesc) : Bool := match u with | .int _ => true | _ => false
def isMapD (u : TypeDesc) : Bool := match u with | .map _ _ => true | _ => false
def isU (P : Program) (f : TypeDesc → Bool) (t : TypeId) : Bool := ((P.underlying t).map f).getD false
def plainConv (P : Program) (s d : TypeId) : Bool := (isU P isIntD s && isU P isIntD d) || (isU P isStrD s && isU P isStrD d)
def plainCall (P : Program) (c : Call) : Bool := match c.callee with
  | .builtin .len => ((c.argTypes[0]?).map fun t => !isU P isMapD t).getD false
  | _ => false
def floatO (P : Program) (o : Op) : Bool := match o with
  | .move _ | .assign _ | .pick .. | .load .. | .unOp .. | .makeInterface .. | .makeFunc .. | .slice .. | .fieldAddr .. | .field .. | .indexAddr .. | .index .. | .extract .. | .typeAssert .. | .nilCheck _ | .build .. => true
  | .binOp _ t _ _ _ => !(aggT P t).getD true
  | .convert s d _ => plainConv P s d
  | .call c => plainCall P c
  | _ => false
def flOk (P : Program) (ops : Array Oper) (listed : Array Bool) (i : Nat) : Bool := ((ops[i]?).map fun o => floatO P o.op && Region.free .any ops listed i).getD false
def mkFl (i : Nat) (o : Option Oper) (r : Option Plan) : Option Plan := o.bind fun o => r.map (.fl i o)
def mkEf (i : Nat) (o : Option Oper) (r : Option Plan) : Option Plan := o.bind fun o => r.map (.ef i o)
def planGo (P : Program) (ops : Array Oper) : Nat → Array Bool → Option Plan
  | 0, listed => (match Region.ready .any ops listed with | [] => some .done | _ => none)
  | n + 1, listed => match Region.ready .any ops listed with
    | [] => some .done
    | rs => match rs.find? (flOk P ops listed) with
      | some i => mkFl i ops[i]? (planGo P ops n (listed.setIfInBounds i true))
      | none => match rs with
        | [i] => mkEf i ops[i]? (planGo P ops n (listed.setIfInBounds i true))
        | _ => none
def noDefer (o : Oper) : Bool := match o.op with | .defer _ => false | _ => true
def planOf (P : Program) (ops : Array Oper) : Option Plan := bif Region.noSelect ops && ops.all noDefer then planGo P ops ops.size (Array.replicate ops.size false) else none
def eqAV : Nat → AV → AV → Bool
  | 0, _, _ => false
  | n + 1, x, y => match x, y with
    | .bool a, .bool b => a == b
    | .int j a, .int k b => sameK j k && eqZ a b
    | .str a, .str b => eqS a b
    | .ptr a b, .ptr c d => Nat.beq a c && Nat.beq b d
    | .nilp, .nilp => true
    | .slice a b c d e, .slice a' b' c' d' e' => (e || Nat.blt 0 d) && Nat.beq a a' && Nat.beq b b' && Nat.beq c c' && Nat.beq d d' && (e == e')
    | .nils, .nils => true
    | .mapv a, .mapv b => Nat.beq a b
    | .nilm, .nilm => true
    | .nilf, .nilf => true
    | .yld a, .yld b => Nat.beq a b
    | .fn f a b, .fn g c d => decide (f = g) && Nat.beq a.length c.length && Nat.beq b.length d.length && (a.zip c).all (fun p => eqAV n p.1 p.2) && (b.zip d).all (fun p => eqAV n p.1 p.2)
    | .iface t a, .iface u b => Nat.beq t u && eqAV n a b
    | .nili, .nili => true
    | .agg a, .agg b => Nat.beq a.length b.length && (a.zip b).all fun p => eqAV n p.1 p.2
    | _, _ => false
structure Hd where
  i : Nat
  b : Nat
  c : Nat
  v : AV
abbrev Held := List Hd
def waitsOn (o : Oper) (i : Nat) : Bool := o.after.any fun e => Region.binds .any e && Nat.beq e.on i
def sameC (v : AV) (u : AV) : Bool := eqAV 6 u v
def held1 (o : Oper) (h : Hp) (d : Hd) : Bool := bif waitsOn o d.i then true else ((loadCell h d.b d.c).map (sameC d.v)).getD false
def heldB (o : Oper) (h : Hp) (hd : Held) : Bool := hd.all (held1 o h)
def heldsOf (i b : Nat) : Nat → List AV → Held → Held
  | _, [], l => l
  | o, v :: vs, l => ⟨i, b, o, v⟩ :: heldsOf i b (o + 1) vs l
def resCell (P : Program) (h : Hp) (t : TypeId) (v : AV) : Option AV := (asP v).bind fun p => loadV P h t p.b p.o
def res1 (P : Program) (fr : Fm) (h : Hp) (r : ResultVar) : Option AV := match r with
  | .tmp t => some (fr.get un t)
  | .cell a t => resCell P h t (fr.get un a)
def resA (P : Program) (fr : Fm) (h : Hp) : List ResultVar → Option (List AV)
  | [] => some []
  | r :: l => consO (res1 P fr h r) (resA P fr h l)
def resV (vs : List AV) : AV := match vs with
  | [] => .tup []
  | v :: l => bif isNilL l then v else .tup (v :: l)
def isDef (o : AO) : Bool := match o with | .deferred => true | _ => false
def takeDs : List Nat → Hp → Option Hp
  | [], h => some h
  | d :: ds, h => bif isDef (h.get .dead d) then takeDs ds (h.set .dead d .dead) else none
def leaveH (P : Program) (fn : Func) (k : Rs → Bool) (σ : St) (h : Hp) : Bool := ((resA P σ.fr h fn.results.toList).map fun vs => k ⟨resV vs, h, σ.nx⟩).getD false
def leave (P : Program) (fn : Func) (k : Rs → Bool) (σ : St) : Bool := ((takeDs σ.ds σ.h).map (leaveH P fn k σ)).getD false
def leaveX (P : Program) (fn : Func) (k : Rs → Bool) (x : X) : St → Bool := match x with
  | .nm => leave P fn k
  | .ret => leave P fn k
  | _ => fun _ => false
def enter (P : Program) (self : Self) (args : List AV) (h : Hp) (nx : Nat) (k : Rs → Bool) (fn : Func) (c : Code) : Bool :=
  bif Nat.ble (lenL args) fn.ntmps then self (.code c) ⟨fn.ntmps, none⟩ ⟨treeOf un args 0 .nil, [], h, nx⟩ (leaveX P fn k) else false
def enterF (P : Program) (self : Self) (args : List AV) (h : Hp) (nx : Nat) (k : Rs → Bool) (fn : Func) : Bool := match fn.body with
  | none => false
  | some c => enter P self args h nx k fn c
def enterO (P : Program) (self : Self) (args : List AV) (h : Hp) (nx : Nat) (k : Rs → Bool) (fn : Option Func) : Bool := match fn with
  | none => false
  | some fn => enterF P self args h nx k fn
def took (k : Rs → Bool) (r : Rs) : Bool := fz r.v (isNode r.h (k r))
def callK (P : Program) (prim : Prim) (self : Self) (f : FuncId) (args : List AV) (h : Hp) (nx : Nat) (k : Rs → Bool) : Bool := match prim f args h nx with
  | some r => took k r
  | none => enterO P self args h nx k P.funcs[f]?
def applyFn (P : Program) (prim : Prim) (self : Self) (first cap args : List AV) (h : Hp) (nx : Nat) (k : Rs → Bool) (f : Fn) : Bool := match f with
  | .func f => callK P prim self f (cat first (cat args cap)) h nx k
  | _ => false
def lpO (o : AO) : Option Lp := match o with | .loop l => some l | _ => none
def getLp (h : Hp) (l : Nat) : Option Lp := lpO (h.get .dead l)
def setLp (h : Hp) (l : Nat) (x : Lp) : Hp := h.set .dead l (.loop x)
def setPs : List Nat → List AV → Nat → Fm → Option Fm
  | [], [], _, fr => some fr
  | p :: ps, v :: vs, sz, fr => bif Nat.blt p sz then setPs ps vs sz (fr.set un p v) else none
  | _, _, _, _ => none
def isNm (x : X) : Bool := match x with | .nm => true | _ => false
def rdEnd2 (k : Rs → Bool) (l : Nat) (x : X) (σ : St) (lp : Lp) : Bool := bif isNilL σ.ds then k ⟨.bool (isNm x), setLp σ.h l { lp with rdy := isNm x, left := x }, σ.nx⟩ else false
def rdEnd (k : Rs → Bool) (l : Nat) (x : X) (σ : St) : Bool := ((getLp σ.h l).map (rdEnd2 k l x σ)).getD false
def rdBody2 (self : Self) (body : Code) (k : Rs → Bool) (l : Nat) (cx : Cx) (σ : St) (lp : Lp) : Bool := bif lp.rdy && isNm lp.left then self (.code body) cx ⟨σ.fr, σ.ds, setLp σ.h l { lp with rdy := false }, σ.nx⟩ (rdEnd k l) else false
def rdBody (self : Self) (body : Code) (k : Rs → Bool) (l : Nat) (cx : Cx) (σ : St) : Bool := ((getLp σ.h l).map (rdBody2 self body k l cx σ)).getD false
def rdAssign (self : Self) (body : Code) (k : Rs → Bool) (l : Nat) (cx : Cx) (x : X) : St → Bool := match x with
  | .nm => rdBody self body k l cx
  | _ => fun _ => false
def round2 (self : Self) (h : Hp) (nx : Nat) (k : Rs → Bool) (l : Nat) (lp : Lp) (fr : Fm) : Bool := self (.code lp.assign) ⟨lp.sz, some l⟩ ⟨fr, [], h, nx⟩ (rdAssign self lp.body k l ⟨lp.sz, some l⟩)
def round1 (self : Self) (args : List AV) (h : Hp) (nx : Nat) (k : Rs → Bool) (l : Nat) (lp : Lp) : Bool := ((setPs lp.ps args lp.sz lp.fr).map (round2 self h nx k l lp)).getD false
def roundK (self : Self) (args : List AV) (h : Hp) (nx : Nat) (k : Rs → Bool) (l : Nat) : Bool := ((getLp h l).map (round1 self args h nx k l)).getD false
def applyK (P : Program) (prim : Prim) (self : Self) (args : List AV) (h : Hp) (nx : Nat) (k : Rs → Bool) (f : AV) : Bool := match f with
  | .fn f first cap => applyFn P prim self first cap args h nx k f
  | .yld l => roundK self args h nx k l
  | _ => false
structure Mh where
  f : FuncId
  v : AV
def methPtr (P : Program) (f : FuncId) (h : Hp) (e : TypeId) (v : AV) : Option Mh := (asP v).bind fun p => (loadV P h e p.b p.o).map fun u => ⟨f, u⟩
def methF (P : Program) (t : TypeId) (v : AV) (h : Hp) (fp : FuncId × Bool) : Option Mh := match (P.underlying t).bind ptrD with
  | some e => bif fp.2 then some ⟨fp.1, v⟩ else methPtr P fp.1 h e v
  | none => bif fp.2 then none else (P.underlying t).map fun _ => ⟨fp.1, v⟩
def methM (P : Program) (t : TypeId) (v : AV) (h : Hp) (m : Method) : Option Mh := bif m.path.isEmpty then m.func.bind (methF P t v h) else none
def methN (name : String) (i : TypeInfo) : Option Method := i.methods.find? (·.name == name)
def methT (P : Program) (t : TypeId) (name : String) : Option Method := (P.info? t).bind (methN name)
def methA (P : Program) (t : TypeId) (v : AV) (name : String) (h : Hp) : Option Mh := (methT P t name).bind (methM P t v h)
def contO (k : St → Bool) (v : AV) (σ : Option St) : Bool := match σ with
  | some σ => fz v (k σ)
  | none => false
def fin (sz : Nat) (σ : St) (dst : Option Tmp) (k : St → Bool) (r : Rs) : Bool := contO k r.v (putA ⟨σ.fr, σ.ds, r.h, r.nx⟩ sz dst r.v)
def finO (sz : Nat) (σ : St) (dst : Option Tmp) (k : St → Bool) (r : Option Rs) : Bool := match r with
  | some r => fin sz σ dst k r
  | none => false
def callVal (P : Program) (prim : Prim) (self : Self) (vs : List AV) (σ : St) (k : Rs → Bool) (f : Option AV) : Bool := match f with
  | some f => applyK P prim self vs σ.h σ.nx k f
  | none => false
def callMh (P : Program) (prim : Prim) (self : Self) (vs : List AV) (σ : St) (k : Rs → Bool) (m : Option Mh) : Bool := match m with
  | some m => callK P prim self m.f (m.v :: vs) σ.h σ.nx k
  | none => false
def callInv (P : Program) (prim : Prim) (self : Self) (name : String) (vs : List AV) (σ : St) (k : Rs → Bool) (r : AV) : Bool := match r with
  | .iface t v => callMh P prim self vs σ k (methA P t v name σ.h)
  | _ => false
def callWith (P : Program) (prim : Prim) (self : Self) (c : Callee) (o : Op) (sz : Nat) (dst : Option Tmp) (σ : St) (k : St → Bool) (vs : List AV) : Bool := match c with
  | .value f => callVal P prim self vs σ (fin sz σ dst k) (evA σ.fr f)
  | .invoke r name => ((evA σ.fr r).map (callInv P prim self name vs σ (fin sz σ dst k))).getD false
  | .builtin _ => finO sz σ dst k (opA o P σ.fr σ.h σ.nx)
def callC (P : Program) (prim : Prim) (self : Self) (c : Call) (sz : Nat) (dst : Option Tmp) (σ : St) (k : St → Bool) : Bool := ((evL σ.fr c.args.toList).map (callWith P prim self c.callee (.call c) sz dst σ k)).getD false
def isCall (o : Op) : Option Call := match o with | .call c => some c | _ => none
def operK (P : Program) (prim : Prim) (self : Self) (o : Oper) (sz : Nat) (σ : St) (k : St → Bool) : Bool := match isCall o.op with
  | some c => callC P prim self c sz o.dst σ k
  | none => finO sz σ o.dst k (opA o.op P σ.fr σ.h σ.nx)
def skipK (σ : St) (sz : Nat) (dst : Option Tmp) (k : St → Bool) : Bool := contO k un (putA σ sz dst un)
def ops1 (P : Program) (prim : Prim) (self : Self) (ops : Array Oper) (sz : Nat) (o : Oper) (σ : St) (k : St → Bool) : Bool :=
  bif wantA ops o σ.fr then operK P prim self o sz σ k else skipK σ sz o.dst k
def opsK (P : Program) (prim : Prim) (self : Self) (ops : Array Oper) (sz : Nat) (l : List Oper) : St → Kx → Bool :=
  List.rec (motive := fun _ => St → Kx → Bool) (fun σ k => k .nm σ) (fun o _ ih σ k => ops1 P prim self ops sz o σ fun σ' => ih σ' k) l
def isLoad (o : Op) : Option (TypeId × Operand) := match o with | .load t a => some (t, a) | _ => none
def heldL (P : Program) (i : Nat) (fr : Fm) (v : AV) (hd : Held) (l : TypeId × Operand) : Held := match (evA fr l.2).bind asP with
  | some p => heldsOf i p.b p.o (bif (aggT P l.1).getD false then v.cells else [v]) hd
  | none => hd
def heldO (P : Program) (i : Nat) (o : Oper) (fr : Fm) (v : AV) (hd : Held) : Held := match isLoad o.op with
  | some l => heldL P i fr v hd l
  | none => hd
def flGo (P : Program) (i : Nat) (o : Oper) (sz : Nat) (hd : Held) (σ : St) (k : Held → St → Bool) (r : Rs) : Bool := contO (k (heldO P i o σ.fr r.v hd)) r.v (putA σ sz o.dst r.v)
def nilA (v : AV) : Bool := match v with
  | .nilp => true
  | .nili => true
  | .nils => true
  | .nilm => true
  | .nilf => true
  | _ => false
def numA (v : AV) : Bool := match v with
  | .bool _ => true
  | .int _ _ => true
  | .str _ => true
  | _ => false
def numI (v : AV) : Bool := match v with
  | .iface _ v => numA v
  | v => numA v
def dryV (x y : Option AV) : Bool := match x with
  | none => false
  | some a => match y with
    | none => false
    | some b => numI a || nilA a || nilA b
def dryO (fr : Fm) (o : Op) : Bool := match o with
  | .binOp _ _ x y _ => dryV (evA fr x) (evA fr y)
  | _ => true
def flK (P : Program) (ops : Array Oper) (i : Nat) (o : Oper) (sz : Nat) (hd : Held) (σ : St) (k : Held → St → Bool) : Bool :=
  bif wantA ops o σ.fr then (bif dryO σ.fr o.op then ((opA o.op P σ.fr σ.h σ.nx).map (flGo P i o sz hd σ k)).getD false else false) else skipK σ sz o.dst (k hd)
def efK (P : Program) (prim : Prim) (self : Self) (ops : Array Oper) (o : Oper) (sz : Nat) (hd : Held) (σ : St) (k : Held → St → Bool) : Bool :=
  ops1 P prim self ops sz o σ fun σ' => bif heldB o σ'.h hd then k hd σ' else false
def drawK (P : Program) (prim : Prim) (self : Self) (ops : Array Oper) (sz : Nat) : Plan → Kx → Held → St → Bool
  | .done, k, _, σ => k .nm σ
  | .fl i o r, k, hd, σ => flK P ops i o sz hd σ (drawK P prim self ops sz r k)
  | .ef _ o r, k, hd, σ => efK P prim self ops o sz hd σ (drawK P prim self ops sz r k)
def drawO (P : Program) (prim : Prim) (self : Self) (ops : Array Oper) (sz : Nat) (σ : St) (k : Kx) (p : Option Plan) : Bool := match p with
  | some p => drawK P prim self ops sz p k [] σ
  | none => false
abbrev Stp := Program → Prim → Self → Cx → St → Kx → Bool
def sSkip : Stp := fun _ _ _ _ σ k => k .nm σ
def sRegion (ops : Array Oper) (draw : Bool) : Stp := fun P prim self cx σ k => bif draw then drawO P prim self ops cx.sz σ k (planOf P ops) else opsK P prim self ops cx.sz ops.toList σ k
def thenX (self : Self) (b : Code) (cx : Cx) (k : Kx) (x : X) : St → Bool := match x with
  | .nm => fun σ => self (.code b) cx σ k
  | x => k x
def sSeq (a b : Code) : Stp := fun _ _ self cx σ k => self (.code a) cx σ (thenX self b cx k)
def condB (self : Self) (a b : Code) (cx : Cx) (σ : St) (k : Kx) (v : AV) : Bool := match v with
  | .bool t => bif t then self (.code a) cx σ k else self (.code b) cx σ k
  | _ => false
def sCond (c : Operand) (a b : Code) : Stp := fun _ _ self cx σ k => ((evA σ.fr c).map (condB self a b cx σ k)).getD false
def blockX (id : Nat) (k : Kx) (x : X) : St → Bool := match x with
  | .ex i => fun σ => bif Nat.beq i id then k .nm σ else k (.ex i) σ
  | x => k x
def sBlock (id : Nat) (b : Code) : Stp := fun _ _ self cx σ k => self (.code b) cx σ (blockX id k)
def sLoop (b : Code) : Stp := fun _ _ self cx σ k => self (.code b) cx σ (thenX self (.loop b) cx k)
def sExit (id : Nat) : Stp := fun _ _ _ _ σ k => k (.ex id) σ
def scopeX (self : Self) (body : Code) (cx : Cx) (k : Kx) (x : X) : St → Bool := match x with
  | .gt l => fun σ => (match findLabel body l with
    | some rest => self (.scope body rest) cx σ k
    | none => k (.gt l) σ)
  | x => k x
def sScope (body c : Code) : Stp := fun _ _ self cx σ k => self (.code c) cx σ (scopeX self body cx k)
def sGoto (l : Nat) : Stp := fun _ _ _ _ σ k => k (.gt l) σ
def sRet : Stp := fun _ _ _ _ σ k => k .ret σ
def rfEnd2 (self : Self) (cx : Cx) (σ : St) (k : Kx) (l : Nat) (r : Rs) (lp : Lp) : Bool := bif lp.rdy || !isNm lp.left then k lp.left ⟨σ.fr, σ.ds, r.h.set .dead l .dead, r.nx⟩ else false
def rfEnd (self : Self) (cx : Cx) (σ : St) (k : Kx) (l : Nat) (r : Rs) : Bool := ((getLp r.h l).map (rfEnd2 self cx σ k l r)).getD false
def rfFn (P : Program) (self : Self) (first cap args : List AV) (h : Hp) (nx : Nat) (k : Rs → Bool) (f : Fn) : Bool := match f with
  | .func f => enterO P self (cat first (cat args cap)) h nx k P.funcs[f]?
  | _ => false
def rfGo (P : Program) (self : Self) (cx : Cx) (k : Kx) (l : Nat) (σ : St) (f : AV) : Bool := match f with
  | .fn f first cap => rfFn P self first cap [.yld l] σ.h σ.nx (rfEnd self cx σ k l) f
  | _ => false
def rfOut (P : Program) (self : Self) (ps : List Nat) (assign body : Code) (cx : Cx) (σ : St) (k : Kx) (f : AV) : Bool :=
  rfGo P self cx k (σ.nx + 1) ⟨σ.fr, σ.nx :: σ.ds, setLp (σ.h.set .dead σ.nx .deferred) (σ.nx + 1) ⟨σ.fr, cx.sz, ps, assign, body, σ.nx, true, .nm⟩, σ.nx + 2⟩ f
def rfIn (P : Program) (self : Self) (ps : List Nat) (assign body : Code) (cx : Cx) (σ : St) (k : Kx) (f : AV) (lp : Lp) : Bool :=
  rfGo P self cx k σ.nx ⟨σ.fr, σ.ds, setLp σ.h σ.nx ⟨σ.fr, cx.sz, ps, assign, body, lp.df, true, .nm⟩, σ.nx + 1⟩ f
def rfK (P : Program) (self : Self) (ps : List Nat) (assign body : Code) (cx : Cx) (σ : St) (k : Kx) (f : AV) : Bool := match cx.rd with
  | none => rfOut P self ps assign body cx σ k f
  | some l => ((getLp σ.h l).map (rfIn P self ps assign body cx σ k f)).getD false
def sRange (g : Operand) (ps : Array Tmp) (assign body : Code) : Stp := fun P _ self cx σ k => ((evA σ.fr g).map (rfK P self ps.toList assign body cx σ k)).getD false
def stNo : Stp := fun _ _ _ _ _ _ => false
def stepC (c : Code) : Stp := match c with
  | .skip => sSkip
  | .label _ => sSkip
  | .region _ ops draw => sRegion ops draw
  | .seq a b => sSeq a b
  | .cond c a b => sCond c a b
  | .block id b => sBlock id b
  | .loop b => sLoop b
  | .exit id => sExit id
  | .scope b => sScope b b
  | .goto l => sGoto l
  | .ret => sRet
  | .rangeFunc g ps assign body => sRange g ps assign body
  | .refuse _ => stNo
def step (j : Job) : Stp := match j with
  | .code c => stepC c
  | .scope body c => sScope body c
def run (P : Program) (prim : Prim) (n : Nat) : Self := Nat.rec (motive := fun _ => Self) (fun _ _ _ _ => false) (fun _ ih j => step j P prim ih) n
end
end Ex
end Go.Proofs.YtdngjkjoahgelaaGreatDoor
