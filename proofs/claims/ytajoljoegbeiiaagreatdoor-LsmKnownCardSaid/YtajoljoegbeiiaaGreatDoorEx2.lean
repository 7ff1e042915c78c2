/-
  The executor: one operation.
-/
import Derived.Test.YtajoljoegbeiiaaGreatDoorEx1
namespace Go.Proofs.YtajoljoegbeiiaaGreatDoor
set_option linter.all false
namespace Ex
noncomputable section
/-- A value and a heap, and the next block's number. -/
structure Rs where
  v : AV
  h : Hp
  nx : Nat
def pv (h : Hp) (nx : Nat) (v : AV) : Rs := ⟨v, h, nx⟩
def ph (nx : Nat) (h : Hp) : Rs := ⟨un, h, nx⟩
def evA (fr : Fm) (x : Operand) : Option AV := match x with
  | .tmp t => some (fr.get un t)
  | .const v => ofV 10 v
  | .global g => bif Nat.blt g 1000 then some (.ptr g 0) else none
  | .func f => some (.fn (.func f) [] [])
def consO {α : Type} (a : Option α) (l : Option (List α)) : Option (List α) := match a with
  | none => none
  | some a => match l with
    | none => none
    | some l => some (a :: l)
def evL (fr : Fm) (l : List Operand) : Option (List AV) := List.rec (motive := fun _ => Option (List AV)) (some []) (fun x _ ih => consO (evA fr x) ih) l
/-! ### Aggregates -/
def partG (P : Program) (t : TypeId) (cs : List AV) (o : Nat) (g : Bool) : Option AV :=
  bif g then (sizeT P t).map fun n => .agg ((cs.drop o).take n) else cs[o]?
def partA (P : Program) (t : TypeId) (cs : List AV) (o : Nat) : Option AV := (aggT P t).bind (partG P t cs o)
def putCells (cs : List AV) (o : Nat) (l : List AV) : List AV := cs.take o ++ (l ++ cs.drop (o + l.length))
structure Pl where
  o : Nat
  n : Nat
/-- One part laid. -/
def fill1 (cells : List AV) (v : AV) (p : Pl) : Option (List AV) :=
  bif Nat.beq v.cells.length p.n && Nat.ble (Nat.add p.o p.n) cells.length then some (putCells cells p.o v.cells) else none
structure Pt where
  i : Nat
  v : AV
/-- 'place': where part number i lies, and its size. -/
def fillA (place : Nat → Option Pl) : List Pt → List AV → Option (List AV)
  | [], cells => some cells
  | p :: rest, cells => ((place p.i).bind (fill1 cells p.v)).bind (fillA place rest)
def evPt (fr : Fm) (p : Nat × Operand) : Option Pt := (evA fr p.2).map fun v => ⟨p.1, v⟩
def evP (fr : Fm) : List (Nat × Operand) → Option (List Pt)
  | [] => some []
  | p :: l => consO (evPt fr p) (evP fr l)
def placesT (P : Program) : List Field → Option (List Pl)
  | [] => some []
  | f :: fs => consO ((sizeT P f.type).map fun n => ⟨f.offset, n⟩) (placesT P fs)
def nthPl (l : List Pl) (i : Nat) : Option Pl := l[i]?
def rowPl (n i : Nat) : Option Pl := some ⟨i * n, n⟩
def buildS (ps : List Pt) (z : AV) (l : List Pl) : Option AV := (fillA (nthPl l) ps z.cells).map .agg
def buildR (ps : List Pt) (z : AV) (n : Nat) : Option AV := (fillA (rowPl n) ps z.cells).map .agg
def fieldsD (u : TypeDesc) : Option (List Field) := match u with | .struct fs => some fs.toList | _ => none
structure Arr where
  n : Nat
  e : TypeId
def arrD (u : TypeDesc) : Option Arr := match u with | .array n e => some ⟨n, e⟩ | _ => none
def buildU (P : Program) (ps : List Pt) (z : AV) (u : TypeDesc) : Option AV := match fieldsD u with
  | some fs => (placesT P fs).bind (buildS ps z)
  | none => match arrD u with
    | some a => (sizeT P a.e).bind (buildR ps z)
    | none => none
def buildZ (P : Program) (t : TypeId) (ps : List Pt) (z : AV) : Option AV := (P.underlying t).bind (buildU P ps z)
def buildA (P : Program) (t : TypeId) (ps : List Pt) : Option AV := (zeroT P t).bind (buildZ P t ps)
def repL (z : List AV) : Nat → List AV
  | 0 => []
  | n + 1 => z ++ repL z n
/-! ### Equality -/
/-- Are two places one? Known of one block, or of two that are whole of their own. -/
def wholeAt (o : Nat) (k : Bk) : Bool := (!k.ro) && (!k.st) && k.fx && Nat.beq k.fz 0 && Nat.blt o k.n
def samePt (h : Hp) (p q : At) : Option Bool :=
  bif Nat.beq p.b q.b then some (Nat.beq p.o q.o)
  else bif ((getBk h p.b).map (wholeAt p.o)).getD false && ((getBk h q.b).map (wholeAt q.o)).getD false then some false else none
abbrev Eq2 := TypeId → AV → AV → Option Bool
def andO (a : Option Bool) (b : Option Bool) : Option Bool := match a with
  | none => none
  | some a => bif a then b else some false
def eqPart (eq : Eq2) (t : TypeId) (x y : Option AV) : Option Bool := match x with
  | none => none
  | some x => match y with
    | none => none
    | some y => eq t x y
def eqFs (P : Program) (eq : Eq2) (xs ys : List AV) : List Field → Option Bool
  | [] => some true
  | f :: fs => bif f.name == "_" then eqFs P eq xs ys fs
    else andO (eqPart eq f.type (partA P f.type xs f.offset) (partA P f.type ys f.offset)) (eqFs P eq xs ys fs)
def eqEs (P : Program) (eq : Eq2) (e : TypeId) (xs ys : List AV) (n : Nat) : Nat → Nat → Option Bool
  | 0, _ => some true
  | m + 1, i => andO (eqPart eq e (partA P e xs (i * n)) (partA P e ys (i * n))) (eqEs P eq e xs ys n m (i + 1))
def eqBool (x y : AV) : Option Bool := match x, y with | .bool a, .bool b => some (a == b) | _, _ => none
def sameK (j k : IntKind) : Bool := decide (j = k)
def eqInt (x y : AV) : Option Bool := match x, y with | .int j a, .int k b => bif sameK j k then some (eqZ a b) else none | _, _ => none
def eqStr (x y : AV) : Option Bool := match x, y with | .str a, .str b => some (eqS a b) | _, _ => none
def eqPtrs (h : Hp) (a o b u : Nat) (n : Nat) : Option Bool := bif Nat.blt 0 n then samePt h ⟨a, o⟩ ⟨b, u⟩ else none
def eqPtr (P : Program) (h : Hp) (e : TypeId) (x y : AV) : Option Bool := match x, y with
  | .nilp, .nilp => some true
  | .nilp, .ptr _ _ => some false
  | .ptr _ _, .nilp => some false
  | .ptr a o, .ptr b u => (sizeT P e).bind (eqPtrs h a o b u)
  | _, _ => none
def eqDyn (eq : Eq2) (t : TypeId) (x y : AV) (i : TypeInfo) : Option Bool := bif i.comparable then eq t x y else none
def eqIfc (P : Program) (eq : Eq2) (x y : AV) : Option Bool := match x, y with
  | .nili, .nili => some true
  | .nili, .iface _ _ => some false
  | .iface _ _, .nili => some false
  | .iface t v, .iface u w => bif Nat.beq t u then (P.info? t).bind (eqDyn eq t v w) else some false
  | _, _ => none
def eqSt (P : Program) (eq : Eq2) (t : TypeId) (fs : List Field) (x y : AV) : Option Bool := match x, y with
  | .agg xs, .agg ys => bif P.stoodInHeld t then none else eqFs P eq xs ys fs
  | _, _ => none
def eqAr (P : Program) (eq : Eq2) (n : Nat) (e : TypeId) (x y : AV) : Option Bool := match x, y with
  | .agg xs, .agg ys => (sizeT P e).bind fun z => eqEs P eq e xs ys z n 0
  | _, _ => none
def eqSl (x y : AV) : Option Bool := match x, y with
  | .nils, .nils => some true
  | .nils, .slice _ _ _ _ _ => some false
  | .slice _ _ _ _ _, .nils => some false
  | _, _ => none
def eqMp (x y : AV) : Option Bool := match x, y with
  | .nilm, .nilm => some true
  | .nilm, .mapv _ => some false
  | .mapv _, .nilm => some false
  | _, _ => none
def eqFn (x y : AV) : Option Bool := match x, y with
  | .nilf, .nilf => some true
  | .nilf, .fn _ _ _ => some false
  | .fn _ _ _, .nilf => some false
  | _, _ => none
def eqU (u : TypeDesc) (P : Program) (h : Hp) (eq : Eq2) (t : TypeId) : AV → AV → Option Bool := match u with
  | .bool => eqBool
  | .int _ => eqInt
  | .string => eqStr
  | .pointer e => eqPtr P h e
  | .interface _ => eqIfc P eq
  | .struct fs => eqSt P eq t fs.toList
  | .array n e => eqAr P eq n e
  | .slice _ => eqSl
  | .map _ _ => eqMp
  | .func _ _ _ => eqFn
  | _ => fun _ _ => none
/-- '==' by the type. -/
def eqT (P : Program) (h : Hp) : Nat → Eq2
  | 0, _, _, _ => none
  | d + 1, t, x, y => (P.underlying t).bind fun u => eqU u P h (eqT P h d) t x y
/-! ### Slices -/
structure Bd where
  l : Nat
  h : Nat
  m : Nat
def bdL (h m : Nat) (l : Nat) : Option Bd := bif Nat.ble l h then some ⟨l, h, m⟩ else none
def bdH (lo : Option AV) (m : Nat) (h : Nat) : Option Bd := bif Nat.ble h m then (match lo with | none => some ⟨0, h, m⟩ | some v => (asN v).bind (bdL h m)) else none
def bdM (lo hi : Option AV) (n : Option Nat) (c m : Nat) : Option Bd := bif Nat.ble m c then (match hi with | none => n.bind (bdH lo m) | some v => (asN v).bind (bdH lo m)) else none
/-- low, high, max out of operands, against a length and a capacity -/
def bounds (lo hi mx : Option AV) (n c : Nat) : Option Bd := match mx with
  | none => bdM lo hi (some n) c c
  | some v => (asN v).bind (bdM lo hi none c)
def cutS (s : List UInt8) (d : Bd) : AV := .str ((s.take d.h).drop d.l)
def cutSl (s : Sl) (ex : Bool) (z : Nat) (d : Bd) : AV :=
  bif Nat.beq d.l d.m then .slice s.b (bif ex then s.o else s.o + d.l * z) 0 0 ex
  else .slice s.b (s.o + d.l * z) (d.h - d.l) (d.m - d.l) ex
def isSomeA (v : Option AV) : Bool := match v with | some _ => true | none => false
def slStr (lo hi mx : Option AV) (x : AV) : Option AV := bif isSomeA mx then none else (asS x).bind fun s => (bounds lo hi none s.length s.length).map (cutS s)
def slSl (lo hi mx : Option AV) (s : Sl) (z : Nat) : Option AV := bif isSomeA mx && Nat.beq s.c 0 && !s.ex then none else (bounds lo hi mx s.n s.c).map (cutSl s (s.ex || isSomeA mx) z)
def slSli (P : Program) (e : TypeId) (lo hi mx : Option AV) (x : AV) : Option AV := match x with
  | .nils => (sizeT P e).bind fun _ => (bounds lo hi mx 0 0).map fun _ => .nils
  | .slice b o n c ex => (sizeT P e).bind (slSl lo hi mx ⟨b, o, n, c, ex⟩)
  | _ => none
def slArr (P : Program) (a : Arr) (lo hi mx : Option AV) (x : AV) : Option AV := (asP x).bind fun p => (sizeT P a.e).bind (slSl lo hi mx ⟨p.b, p.o, a.n, a.n, true⟩)
def slPtr (P : Program) (t : TypeId) (lo hi mx : Option AV) (x : AV) : Option AV := ((P.underlying t).bind arrD).bind fun a => slArr P a lo hi mx x
def slU (u : TypeDesc) (P : Program) (lo hi mx : Option AV) : AV → Option AV := match u with
  | .string => slStr lo hi mx
  | .slice e => slSli P e lo hi mx
  | .array n e => slArr P ⟨n, e⟩ lo hi mx
  | .pointer t => slPtr P t lo hi mx
  | _ => fun _ => none
def sliceA (P : Program) (t : TypeId) (x : AV) (lo hi mx : Option AV) : Option AV := (P.underlying t).bind fun u => slU u P lo hi mx x
def byteA (b : UInt8) : AV := .int .u8 (.ofNat (n8 b))
def bytesA (s : List UInt8) : List AV := List.rec (motive := fun _ => List AV) [] (fun b _ ih => byteA b :: ih) s
/-- The first 'm' elements' cells of what is appended or copied. -/
def newsA (h : Hp) (z m : Nat) (x : AV) : Option (List AV) := match m with
  | 0 => some []
  | m + 1 => match x with
    | .slice b o _ _ _ => loadN h b o (Nat.mul (Nat.succ m) z)
    | .str s => bif Nat.beq z 1 then some (bytesA (s.take (Nat.succ m))) else none
    | _ => none
def lenA (x : AV) : Option Nat := match x with
  | .nils => some 0
  | .slice _ _ n _ _ => some n
  | .str s => some (lenL s)
  | _ => none
def grown (e : TypeId) (z n : Nat) (cs : List AV) (h : Hp) (nx : Nat) : Rs := ⟨.slice nx 0 n n false, newCells h nx cs (n * z) e false, nx + 1⟩
/-- May the old array be written behind the slice? -/
def eitherOk (e : TypeId) (z : Nat) (s : Sl) (k : Bk) : Bool :=
  (!k.ro) && (!k.st) && Nat.beq k.e e && Nat.ble (s.o + s.c * z) k.n && Nat.ble k.fz (s.o + s.n * z) && Nat.ble k.bnd (s.o + s.n * z)
/-- The elder version: only to be read from now on; or gone. -/
def elder (p : Nat) (k : Bk) : AO := bif Nat.beq p k.n then .cells { k with st := true } else .dead
def newer (e : TypeId) (z n p o b : Nat) (cs : List AV) (k : Bk) : Bk := ⟨treeOf un cs 0 .nil, un, n * z, e, false, false, false, b :: k.anc, p, Nat.sub k.fz o⟩
/-- It may be that the old array has room, or has none. -/
def eitherBk (e : TypeId) (z : Nat) (s : Sl) (n : Nat) (cs : List AV) (h : Hp) (nx : Nat) (k : Bk) : Option Rs :=
  bif eitherOk e z s k then some ⟨.slice nx 0 n n false, setBk (h.set .dead s.b (elder (s.o + s.n * z) k)) nx (newer e z n (s.n * z) s.o s.b cs k), nx + 1⟩ else none
def growBk (e : TypeId) (z : Nat) (s : Sl) (n : Nat) (cs : List AV) (h : Hp) (nx : Nat) (k : Bk) : Option Rs :=
  bif s.ex || k.fx then some (grown e z n cs h nx) else eitherBk e z s n cs h nx k
def growSl (e : TypeId) (z : Nat) (s : Sl) (n : Nat) (news : List AV) (h : Hp) (nx : Nat) (old : List AV) : Option Rs := (getBk h s.b).bind (growBk e z s n (cat old news) h nx)
def intoSl (s : Sl) (n : Nat) (nx : Nat) (h : Hp) : Rs := ⟨.slice s.b s.o n s.c s.ex, h, nx⟩
def appSl (e : TypeId) (z m : Nat) (s : Sl) (h : Hp) (nx : Nat) (news : List AV) : Option Rs :=
  bif Nat.ble (s.n + m) s.c then (bif Nat.beq m 0 then some (intoSl s s.n nx h) else (storeN h s.b (s.o + s.n * z) news).map (intoSl s (s.n + m) nx))
  else (newsA h z s.n (.slice s.b s.o s.n s.c s.ex)).bind (growSl e z s (s.n + m) news h nx)
def appNil (e : TypeId) (z m : Nat) (h : Hp) (nx : Nat) (news : List AV) : Option Rs := bif Nat.beq m 0 then some ⟨.nils, h, nx⟩ else some (grown e z m news h nx)
def appTo (s : AV) (e : TypeId) (z m : Nat) (h : Hp) (nx : Nat) : Option (List AV → Option Rs) := match s with
  | .nils => some (appNil e z m h nx)
  | .slice b o n c ex => bif Nat.ble (n + m) 1073741824 then some (appSl e z m ⟨b, o, n, c, ex⟩ h nx) else none
  | _ => none
/-- An element type that slices may be made of: its zero value has its size. -/
def elemOk (P : Program) (e : TypeId) (z : Nat) : Bool := ((bytesT P e).map fun b => Nat.ble b 65536).getD false && Nat.blt 0 z && ((zeroT P e).map fun v => Nat.beq (lenL v.cells) z).getD false
def appGo (e : TypeId) (s : AV) (h : Hp) (nx : Nat) (z m : Nat) (news : List AV) : Option Rs := bif news.all oneA then (appTo s e z m h nx).bind fun f => f news else none
def appM (P : Program) (e : TypeId) (s x : AV) (h : Hp) (nx : Nat) (z m : Nat) : Option Rs :=
  bif Nat.ble m 1073741824 && elemOk P e z then (newsA h z m x).bind (appGo e s h nx z m) else none
def appE (P : Program) (s x : AV) (h : Hp) (nx : Nat) (e : TypeId) : Option Rs := (sizeT P e).bind fun z => (lenA x).bind (appM P e s x h nx z)
def appendA (P : Program) (t : TypeId) (s x : AV) (h : Hp) (nx : Nat) : Option Rs := (elemT P t).bind (appE P s x h nx)
def copied (m nx : Nat) (h : Hp) : Rs := ⟨.int .i64 (.ofNat m), h, nx⟩
def copyTo (m : Nat) (d : AV) (h : Hp) (nx : Nat) (news : List AV) : Option Rs := (asSl d).bind fun s => (storeN h s.b s.o news).map (copied m nx)
def copyM (d s : AV) (h : Hp) (nx z m : Nat) : Option Rs := bif Nat.beq m 0 then some (copied 0 nx h) else (newsA h z m s).bind (copyTo m d h nx)
def lenD (x : AV) : Option Nat := match x with
  | .nils => some 0
  | .slice _ _ n _ _ => some n
  | _ => none
def copyE (P : Program) (d s : AV) (h : Hp) (nx : Nat) (e : TypeId) : Option Rs := (sizeT P e).bind fun z => (lenA s).bind fun a => (lenD d).bind fun b => copyM d s h nx z (Nat.min a b)
def copyA (P : Program) (t : TypeId) (d s : AV) (h : Hp) (nx : Nat) : Option Rs := (elemT P t).bind (copyE P d s h nx)
def byteN (k : IntKind) (n : Nat) : Option UInt8 := bif sameK k .u8 && Nat.blt n 256 then some (UInt8.ofNat n) else none
def byteOf (v : AV) : Option UInt8 := match v with | .int k z => (natZ z).bind (byteN k) | _ => none
def bytesOf (l : List AV) : Option (List UInt8) := List.rec (motive := fun _ => Option (List UInt8)) (some []) (fun v _ ih => consO (byteOf v) ih) l
abbrev Conv := Program → AV → Hp → Nat → Option Rs
def cvInt (k : IntKind) : Conv := fun _ x h nx => (asI x).map fun z => pv h nx (.int k (wrapZ k z))
def strRs (h : Hp) (nx : Nat) (s : List UInt8) : Rs := ⟨.str s, h, nx⟩
/-- A long text of one byte: its length alone is known. -/
def repBk (o n : Nat) (h : Hp) (nx : Nat) (k : Bk) : Option Rs := match k.t with
  | .nil => bif Nat.ble (Nat.add o n) k.n then (byteOf k.d).map fun c => ⟨.rep c n, h, nx⟩ else none
  | .node _ _ _ => none
def repSl (n : Nat) (x : AV) (h : Hp) (nx : Nat) : Option Rs := match x with
  | .slice b o _ _ _ => (getBk h b).bind (repBk o n h nx)
  | _ => none
def cvSlN (x : AV) (h : Hp) (nx n : Nat) : Option Rs := bif Nat.blt 65536 n then repSl n x h nx else (newsA h 1 n x).bind fun l => (bytesOf l).map (strRs h nx)
def cvSlStr (P : Program) (e : TypeId) (x : AV) (h : Hp) (nx : Nat) : Option Rs := bif isU8 P e then (lenD x).bind (cvSlN x h nx) else none
def cvStr (src : TypeDesc) : Conv := match src with
  | .string => fun _ x h nx => (asS x).map (strRs h nx)
  | .slice e => fun P x h nx => cvSlStr P e x h nx
  | _ => fun _ _ _ _ => none
def mkBytes (e : TypeId) (h : Hp) (nx : Nat) (s : List UInt8) : Rs := ⟨.slice nx 0 (lenL s) (lenL s) false, newCells h nx (bytesA s) (lenL s) e false, nx + 1⟩
def cvSl (e : TypeId) (src : TypeDesc) : Conv := match src with
  | .string => fun P x h nx => bif isU8 P e && ((sizeT P e).map (Nat.beq 1)).getD false then (asS x).map (mkBytes e h nx) else none
  | _ => fun _ _ _ _ => none
def cvUn0 (t : TypeId) (P : Program) (h : Hp) (p : At) : Bool := ((getBk h p.b).map fun k => Nat.blt p.o k.n).getD false && ((sizeT P t).map fun n => Nat.blt 0 n).getD false
def cvUn (src : TypeDesc) : Conv := match src with
  | .pointer t => fun P x h nx => (asP x).bind fun p => bif cvUn0 t P h p then some ⟨x, h, nx⟩ else none
  | _ => fun _ _ _ _ => none
def cvPt0 (u : TypeId) (P : Program) (p : At) (k : Bk) : Bool := k.fx && (!k.ro) && ((sizeT P u).map fun n => Nat.blt 0 n).getD false && Go.liesAt P P.depth k.e (k.n / P.cellsOf k.e) p.o u 1
def cvPt (u : TypeId) (src : TypeDesc) : Conv := match src with
  | .unsafePointer => fun P x h nx => (asP x).bind fun p => bif ((getBk h p.b).map (cvPt0 u P p)).getD false then some ⟨x, h, nx⟩ else none
  | _ => fun _ _ _ _ => none
def convU (dst : TypeDesc) (src : TypeDesc) : Conv := match dst with
  | .int k => cvInt k
  | .string => cvStr src
  | .slice e => cvSl e src
  | .unsafePointer => cvUn src
  | .pointer u => cvPt u src
  | _ => fun _ _ _ _ => none
def convA (P : Program) (src dst : TypeId) (x : AV) (h : Hp) (nx : Nat) : Option Rs := (P.underlying src).bind fun s => (P.underlying dst).bind fun d => convU d s P x h nx
/-! ### Maps -/
structure Mt where
  k : TypeId
  e : TypeId
def mapD (u : TypeDesc) : Option Mt := match u with | .map k e => some ⟨k, e⟩ | _ => none
def mapT (P : Program) (t : TypeId) : Option Mt := (P.underlying t).bind mapD
/-- Is a value of a key type that is plain a value of it? -/
def keyIs (u : TypeDesc) (k : AV) : Bool := match u with
  | .int _ => (match k with | .int _ _ => true | _ => false)
  | .string => (match k with | .str _ => true | _ => false)
  | .bool => (match k with | .bool _ => true | _ => false)
  | _ => false
def sameA (x y : AV) : Option Bool := match x with
  | .int k a => (match y with | .int k' b => bif sameK k k' then some (eqZ a b) else none | _ => none)
  | .str a => (match y with | .str b => some (eqS a b) | _ => none)
  | .bool a => (match y with | .bool b => some (a == b) | _ => none)
  | _ => none
structure Fd where
  i : Nat
  v : AV
def fdStep (e : Ent) (i : Nat) (r : Option (Option Fd)) (b : Bool) : Option (Option Fd) := bif b then some (some ⟨i, e.2.1⟩) else r
def findA (k : AV) : List Ent → Nat → Option (Option Fd)
  | [], _ => some none
  | e :: es, i => (sameA k e.1).bind (fdStep e i (findA k es (i + 1)))
def modA (f : Ent → Ent) : List Ent → Nat → List Ent
  | [], _ => []
  | e :: es, 0 => f e :: es
  | e :: es, i + 1 => e :: modA f es i
def keyOk (k : AV) (m : Mt) (u : TypeDesc) : Option Mt := bif keyIs u k then some m else none
def mapK1 (P : Program) (k : AV) (m : Mt) : Option Mt := (P.underlying m.k).bind (keyOk k m)
def mapK (P : Program) (t : TypeId) (k : AV) : Option Mt := (mapT P t).bind (mapK1 P k)
def mpA (h : Hp) (m : AV) : Option (List Ent) := match m with
  | .nilm => some []
  | .mapv b => (getMp h b).map (·.es)
  | _ => none
def lkOut (ok : Bool) (v : AV) (is : Bool) : AV := bif ok then .tup [v, .bool is] else v
def lkFd (P : Program) (m : Mt) (ok : Bool) (r : Option Fd) : Option AV := match r with
  | some f => some (lkOut ok f.v true)
  | none => (zeroT P m.e).map fun z => lkOut ok z false
def lookupA (P : Program) (t : TypeId) (m k : AV) (ok : Bool) (h : Hp) : Option AV := (mapK P t k).bind fun mt => (mpA h m).bind fun es => (findA k es 0).bind (lkFd P mt ok)
def asM (v : AV) : Option Nat := match v with | .mapv b => some b | _ => none
def setMp (h : Hp) (b : Nat) (es : List Ent) (cl : Nat) : Hp := h.set .dead b (.map es cl)
def upFd (k v : AV) (h : Hp) (b : Nat) (mp : Mp) (r : Option Fd) : Hp := match r with
  | some f => setMp h b (modA (fun e => (k, v, e.2.2)) mp.es f.i) mp.cl
  | none => setMp h b (mp.es ++ [(k, v, mp.cl)]) (mp.cl + 1)
def updateA (P : Program) (t : TypeId) (m k v : AV) (h : Hp) : Option Hp := (mapK P t k).bind fun mt => (asM m).bind fun b => (getMp h b).bind fun mp => (findA k mp.es 0).map (upFd k v h b mp)
def dlFd (h : Hp) (b : Nat) (mp : Mp) (r : Option Fd) : Hp := match r with
  | some f => setMp h b (mp.es.eraseIdx f.i) mp.cl
  | none => setMp h b mp.es mp.cl
def delM (P : Program) (m k : AV) (h : Hp) (mt : Mt) : Option Hp := match m with
  | .nilm => some h
  | .mapv b => (getMp h b).bind fun mp => (findA k mp.es 0).map (dlFd h b mp)
  | _ => none
def deleteA (P : Program) (t : TypeId) (m k : AV) (h : Hp) : Option Hp := (mapK P t k).bind (delM P m k h)
/-! ### The rest -/
def fieldAtL (fs : List Field) (i : Nat) : Option Field := fs[i]?
def fieldT (P : Program) (t : TypeId) (f : Nat) : Option Field := ((P.underlying t).bind fieldsD).bind fun fs => fieldAtL fs f
def asFail (P : Program) (aT : TypeId) (ok : Bool) : Option AV := bif ok then (zeroT P aT).map fun z => .tup [z, .bool false] else none
def asHold (v : AV) (ok : Bool) : AV := bif ok then .tup [v, .bool true] else v
def asWant (P : Program) (x : AV) (aT : TypeId) (ok : Bool) (ms : Array (String × TypeId)) (i : TypeInfo) : Option AV := match Instr.missingMethod ms i.methods with
  | none => some (asHold x ok)
  | some _ => asFail P aT ok
def ifD (u : TypeDesc) : Option (Array (String × TypeId)) := match u with | .interface ms => some ms | _ => none
def assertU (P : Program) (x : AV) (aT : TypeId) (ok : Bool) (u : TypeDesc) : Option AV := match ifD u with
  | some ms => (match x with
    | .nili => asFail P aT ok
    | .iface t _ => (P.info? t).bind (asWant P x aT ok ms)
    | _ => none)
  | none => match x with
    | .nili => asFail P aT ok
    | .iface t v => bif Nat.beq t aT then some (asHold v ok) else asFail P aT ok
    | _ => none
def assertA (P : Program) (x : AV) (aT : TypeId) (ok : Bool) : Option AV := (P.underlying aT).bind (assertU P x aT ok)
def notIf (u : TypeDesc) : Bool := match u with | .interface _ => false | _ => true
def conc (P : Program) (t : TypeId) : Bool := ((P.underlying t).map notIf).getD false
def ixArr (P : Program) (a : Arr) (x : AV) (j : Nat) : Option AV := bif Nat.blt j a.n then (asAgg x).bind fun cs => (sizeT P a.e).bind fun z => partA P a.e cs (j * z) else none
def ixStr (x : AV) (j : Nat) : Option AV := (asS x).bind fun s => (s[j]?).map byteA
def indexU (u : TypeDesc) (P : Program) (x : AV) (j : Nat) : Option AV := match u with
  | .array n e => ixArr P ⟨n, e⟩ x j
  | .string => ixStr x j
  | _ => none
def indexA (P : Program) (t : TypeId) (x i : AV) : Option AV := (P.underlying t).bind fun u => (asN i).bind (indexU u P x)
def ixAt (b o j n : Nat) (z : Nat) : Option AV := bif Nat.blt j n then some (.ptr b (o + j * z)) else none
def indexAddrU (u : TypeDesc) (P : Program) (x : AV) (j : Nat) : Option AV := match u with
  | .array n e => (asP x).bind fun p => (sizeT P e).bind (ixAt p.b p.o j n)
  | .slice e => (asSl x).bind fun s => (sizeT P e).bind (ixAt s.b s.o j s.n)
  | _ => none
def indexAddrA (P : Program) (t : TypeId) (x i : AV) : Option AV := (P.underlying t).bind fun u => (asN i).bind (indexAddrU u P x)
def strN (x : AV) : Option Nat := match x with
  | .str s => some (lenL s)
  | .rep _ n => some n
  | _ => none
def lenU (u : TypeDesc) (P : Program) (x : AV) (h : Hp) : Option Nat := match u with
  | .string => strN x
  | .array n _ => some n
  | .pointer a => ((P.underlying a).bind arrD).map (·.n)
  | .slice _ => (match x with | .nils => some 0 | .slice _ _ n _ _ => some n | _ => none)
  | .map _ _ => (mpA h x).map lenL
  | _ => none
def lenB (P : Program) (t : TypeId) (x : AV) (h : Hp) : Option Nat := (P.underlying t).bind fun u => lenU u P x h
def capSl (h : Hp) (s : Sl) : Option Nat := bif s.ex || ((getBk h s.b).map (·.fx)).getD false then some s.c else none
def capU (u : TypeDesc) (x : AV) (h : Hp) : Option Nat := match u with
  | .array n _ => some n
  | .slice _ => (match x with | .nils => some 0 | .slice b o n c ex => capSl h ⟨b, o, n, c, ex⟩ | _ => none)
  | _ => none
def capB (P : Program) (t : TypeId) (x : AV) (h : Hp) : Option Nat := (P.underlying t).bind fun u => capU u x h
def max2 (x y : AV) : Option AV := match x, y with
  | .int k x, .int _ y => some (.int k (bif ltZ x y then y else x))
  | .str x, .str y => some (.str (bif ltS x y then y else x))
  | _, _ => none
def min2 (x y : AV) : Option AV := match x, y with
  | .int k x, .int _ y => some (.int k (bif ltZ y x then y else x))
  | .str x, .str y => some (.str (bif ltS y x then y else x))
  | _, _ => none
def foldA (f : AV → AV → Option AV) : List AV → AV → Option AV
  | [], x => some x
  | y :: l, x => (f x y).bind (foldA f l)
def constO (x : Operand) : Bool := match x with | .const _ => true | _ => false
def eqOp (op : BinOp) (r : Option Bool) : Option AV := match op with
  | .eql => r.map .bool
  | .neq => r.map fun b => .bool (!b)
  | _ => none
def binInts (op : BinOp) (k k' : IntKind) (m n : Int) : Option AV := match op with
  | .shl => iShl k m n
  | .shr => iShr k m n
  | op => bif sameK k k' then binI op k m n else none
/-- May two values of the type be held against each other (two nil interfaces, neither of them written out, may not)? -/
def guardOk (P : Program) (t : TypeId) (x y : Operand) (a : AV) : Bool := match a with
  | .nili => constO x || constO y
  | .agg _ => !P.eqGuardType P.depth t
  | _ => true
def binEq (P : Program) (op : BinOp) (t : TypeId) (x y : Operand) (h : Hp) (a b : AV) : Option AV := bif guardOk P t x y a then eqOp op (eqT P h 10 t a b) else none
def binA (P : Program) (op : BinOp) (t : TypeId) (x y : Operand) (h : Hp) (a b : AV) : Option AV := match a with
  | .int k m => (match b with | .int k' n => binInts op k k' m n | _ => none)
  | .str s => (match b with | .str u => binS op s u | _ => none)
  | .rep _ _ => none
  | a => binEq P op t x y h a b
def negI (k : IntKind) (n : Int) : AV := .int k (wrapZ k (Int.sub (.ofNat 0) n))
def comI (k : IntKind) (n : Int) : AV := .int k (k.wrap (BitVec.ofInt k.bits (if k.signed then -1 else k.max) ^^^ BitVec.ofInt k.bits n).toNat)
def unA (op : UnOp) (x : AV) : Option AV := match op with
  | .neg => (match x with | .int k n => some (negI k n) | _ => none)
  | .xor => (match x with | .int k n => some (comI k n) | _ => none)
  | .not => (match x with | .bool b => some (.bool (!b)) | _ => none)
  | _ => none
def ustrBk (P : Program) (el : TypeId) (b o m : Nat) (h : Hp) (nx : Nat) (bs : List UInt8) (k : Bk) : Option Rs :=
  bif Nat.beq k.e el && (!k.ro) && (!k.st) && ((sizeT P el).map (Nat.beq 1)).getD false then some ⟨.str bs, setBk h b { k with st := true, fz := o + m }, nx⟩ else none
def isPtr (v : AV) : Bool := match v with | .ptr _ _ => true | .nilp => true | _ => false
def ustrN (P : Program) (p : AV) (h : Hp) (nx : Nat) (el : TypeId) (n : Nat) : Option Rs :=
  bif Nat.ble 9223372036854775808 n then none else bif Nat.beq n 0 then (bif isPtr p then some ⟨.str [], h, nx⟩ else none)
  else bif isU8 P el then (asP p).bind fun a => (loadN h a.b a.o n).bind fun l => (bytesOf l).bind fun bs => (getBk h a.b).bind (ustrBk P el a.b a.o n h nx bs) else none
def ptrD (u : TypeDesc) : Option TypeId := match u with | .pointer e => some e | _ => none
/-- unsafe.String of bytes: they are frozen. -/
def ustrA (P : Program) (t : TypeId) (p n : AV) (h : Hp) (nx : Nat) : Option Rs := ((P.underlying t).bind ptrD).bind fun el => (asN n).bind (ustrN P p h nx el)
def dataA (x : AV) : Option AV := match x with
  | .nils => some .nilp
  | .slice b o _ c _ => bif Nat.blt 0 c then some (.ptr b o) else none
  | _ => none
abbrev Bi := Program → List TypeId → List AV → Hp → Nat → Option Rs
def bi2 (f : Program → TypeId → AV → AV → Hp → Nat → Option Rs) : Bi := fun P ts vs h nx => match ts with
  | t :: _ => (match vs with | [x, y] => f P t x y h nx | _ => none)
  | [] => none
def intRs (h : Hp) (nx n : Nat) : Rs := ⟨.int .i64 (.ofNat n), h, nx⟩
def bi1 (f : Program → TypeId → AV → Hp → Option Nat) : Bi := fun P ts vs h nx => match ts with
  | t :: _ => (match vs with | [x] => (f P t x h).map (intRs h nx) | _ => none)
  | [] => none
def biFold (f : AV → AV → Option AV) : Bi := fun _ _ vs h nx => match vs with
  | x :: l => (foldA f l x).map (pv h nx)
  | [] => none
def biDel : Bi := bi2 fun P t m k h nx => (deleteA P t m k h).map (ph nx)
def rowV (n z : Nat) (v : AV) : Option (List AV) := bif Nat.beq (lenL v.cells) z then some (repL v.cells n) else none
def rowZ (P : Program) (el : TypeId) (n z : Nat) : Option (List AV) := bif Nat.beq (n * z) 0 then some [] else (zeroT P el).bind (rowV n z)
def clrMp (h : Hp) (nx b : Nat) (mp : Mp) : Rs := ⟨un, setMp h b [] mp.cl, nx⟩
def srcD (u : TypeDesc) : Bool := match u with | .slice _ | .string => true | _ => false
def intD (u : TypeDesc) : Bool := match u with | .int _ => true | _ => false
def zerosGo (e : TypeId) (z n : Nat) (h : Hp) (nx : Nat) (zs old : List AV) : Rs := grown e z n (cat old zs) h nx
def zerosRow (s : Sl) (m : Nat) (h : Hp) (nx : Nat) (e : TypeId) (z : Nat) (zs : List AV) : Option Rs := (newsA h z s.n (.slice s.b s.o s.n s.c s.ex)).map (zerosGo e z (s.n + m) h nx zs)
def zerosE (P : Program) (s : Sl) (m : Nat) (h : Hp) (nx : Nat) (e : TypeId) (z : Nat) : Option Rs :=
  bif s.ex && Nat.blt 0 m && Nat.blt s.c (s.n + m) && Nat.ble (s.n + m) 1073741824 && elemOk P e z && Nat.ble (m * z) 65536 then (rowZ P e m z).bind (zerosRow s m h nx e z) else none
def zerosT (P : Program) (s : Sl) (m : Nat) (h : Hp) (nx : Nat) (e : TypeId) : Option Rs := (sizeT P e).bind (zerosE P s m h nx e)
def zerosN (P : Program) (t : TypeId) (h : Hp) (nx : Nat) (s : Sl) (m : Nat) : Option Rs := (elemT P t).bind (zerosT P s m h nx)
def zerosS (P : Program) (t : TypeId) (x : AV) (h : Hp) (nx : Nat) (s : Sl) : Option Rs := (asN x).bind (zerosN P t h nx s)
/-- 'append(s, make(S, n)...)': a number stands in the slice's place; s has no room. -/
def zerosA (P : Program) (t : TypeId) (s x : AV) (h : Hp) (nx : Nat) : Option Rs := (asSl s).bind (zerosS P t x h nx)
def biApp : Bi := fun P ts vs h nx => match ts with
  | [t, u] => bif ((P.underlying u).map srcD).getD false then bi2 appendA P [t, u] vs h nx else bif ((P.underlying u).map intD).getD false then bi2 zerosA P [t, u] vs h nx else none
  | _ => none
def clrSl (P : Program) (h : Hp) (nx : Nat) (s : Sl) (e : TypeId) (z : Nat) : Option Rs := bif Nat.blt 0 z then (rowZ P e s.n z).bind fun l => (storeN h s.b s.o l).map (ph nx) else none
def clrTo (P : Program) (h : Hp) (nx : Nat) (s : Sl) (u : TypeDesc) : Option Rs := bif Nat.beq s.n 0 then some ⟨un, h, nx⟩ else (elemD u).bind fun e => (sizeT P e).bind (clrSl P h nx s e)
def clrU (P : Program) (x : AV) (h : Hp) (nx : Nat) (u : TypeDesc) : Option Rs := match x with
  | .nilm => some ⟨un, h, nx⟩
  | .nils => some ⟨un, h, nx⟩
  | .mapv b => (getMp h b).map (clrMp h nx b)
  | .slice b o n c ex => clrTo P h nx ⟨b, o, n, c, ex⟩ u
  | _ => none
def biClear : Bi := fun P ts vs h nx => match ts with
  | t :: _ => (match vs with | [x] => (P.underlying t).bind (clrU P x h nx) | _ => none)
  | [] => none
def biData : Bi := fun _ _ vs h nx => match vs with | [x] => (dataA x).map (pv h nx) | _ => none
def builtinA (b : Builtin) : Bi := match b with
  | .append => biApp
  | .copy => bi2 copyA
  | .len => bi1 lenB
  | .cap => bi1 capB
  | .delete => biDel
  | .clear => biClear
  | .unsafeSliceData => biData
  | .unsafeString => bi2 ustrA
  | .max => biFold max2
  | .min => biFold min2
  | _ => fun _ _ _ _ _ => none
/-! ### One operation that is no call of a function -/
abbrev OpR := Program → Fm → Hp → Nat → Option Rs
def oNo : OpR := fun _ _ _ _ => none
def oMove (x : Operand) : OpR := fun _ fr h nx => (evA fr x).map (pv h nx)
def oPick (c a b : Operand) : OpR := fun _ fr h nx => ((evA fr c).bind asB).bind fun t => (evA fr (bif t then a else b)).map (pv h nx)
def mkBox (t : TypeId) (h : Hp) (nx : Nat) (v : AV) : Rs := ⟨.ptr nx 0, newCells h nx v.cells v.cells.length t true, nx + 1⟩
def oAlloc (t : TypeId) : OpR := fun P _ h nx => (zeroT P t).map (mkBox t h nx)
def oBox (t : TypeId) (x : Operand) : OpR := fun _ fr h nx => (evA fr x).map (mkBox t h nx)
def oBuild (t : TypeId) (ps : Array (Nat × Operand)) : OpR := fun P fr h nx => ((evP fr ps.toList).bind (buildA P t)).map (pv h nx)
def mkRow (el : TypeId) (n z : Nat) (h : Hp) (nx : Nat) (cs : List AV) : Rs := ⟨.slice nx 0 n n true, newCells h nx cs (n * z) el true, nx + 1⟩
def bsGo (P : Program) (el : TypeId) (n : Nat) (h : Hp) (nx : Nat) (l : List Pt) (z : Nat) : Option Rs := bif Nat.ble (n * z) 65536 then ((rowZ P el n z).bind (fillA (rowPl z) l)).map (mkRow el n z h nx) else none
def oBuildSlice (t : TypeId) (n : Nat) (ps : Array (Nat × Operand)) : OpR := fun P fr h nx => (elemT P t).bind fun el => (evP fr ps.toList).bind fun l => (sizeT P el).bind (bsGo P el n h nx l)
def oLoad (t : TypeId) (a : Operand) : OpR := fun P fr h nx => ((evA fr a).bind asP).bind fun p => (loadV P h t p.b p.o).map (pv h nx)
def oStore (t : TypeId) (a x : Operand) : OpR := fun P fr h nx => ((evA fr a).bind asP).bind fun p => (evA fr x).bind fun v => (storeV P h t p.b p.o v).map (ph nx)
def thereA (v : AV) : Bool := match v with
  | .ptr _ _ => true
  | .fn (.func _) _ _ => true
  | .iface _ _ => true
  | .slice _ _ _ _ _ => true
  | .nils => true
  | _ => false
def nilC (h : Hp) (nx : Nat) (v : AV) : Option Rs := bif thereA v then some ⟨v, h, nx⟩ else none
def oNil (x : Operand) : OpR := fun _ fr h nx => (evA fr x).bind (nilC h nx)
def oBin (op : BinOp) (t : TypeId) (x y : Operand) (_ : TypeId) : OpR := fun P fr h nx => (evA fr x).bind fun a => (evA fr y).bind fun b => (binA P op t x y h a b).map (pv h nx)
def oUn (op : UnOp) (_ : TypeId) (x : Operand) : OpR := fun _ fr h nx => ((evA fr x).bind (unA op)).map (pv h nx)
def oConv (s d : TypeId) (x : Operand) : OpR := fun P fr h nx => (evA fr x).bind fun a => convA P s d a h nx
def oIfc (t : TypeId) (x : Operand) : OpR := fun P fr h nx => bif conc P t then (evA fr x).map fun v => ⟨.iface t v, h, nx⟩ else none
def oFunc (f : Fn) (a b : Array Operand) : OpR := fun _ fr h nx => (evL fr a.toList).bind fun a => (evL fr b.toList).map fun b => ⟨.fn f a b, h, nx⟩
def mkMap (h : Hp) (nx : Nat) : Rs := ⟨.mapv nx, setMp h nx [] 0, nx + 1⟩
def oMap (t : TypeId) (r : Option Operand) : OpR := fun P fr h nx => match r with
  | none => some (mkMap h nx)
  | some r => (mapT P t).bind fun _ => ((evA fr r).bind asI).map fun _ => mkMap h nx
def mkSl1 (el : TypeId) (l c : Nat) (h : Hp) (nx : Nat) (z : AV) : Option Rs := bif oneA z then some ⟨.slice nx 0 l c true, setBk h nx ⟨.nil, z, c, el, false, true, false, [], 0, 0⟩, nx + 1⟩ else none
def mkSlN (el : TypeId) (l c z : Nat) (h : Hp) (nx : Nat) (cs : List AV) : Rs := ⟨.slice nx 0 l c true, newCells h nx cs (c * z) el true, nx + 1⟩
def msGo (P : Program) (el : TypeId) (l c : Nat) (h : Hp) (nx z : Nat) : Option Rs := bif Nat.beq z 1 then (zeroT P el).bind (mkSl1 el l c h nx) else bif Nat.ble c 65536 then (rowZ P el c z).map (mkSlN el l c z h nx) else none
def msOk (P : Program) (el : TypeId) (l c : Nat) : Bool := Nat.ble l c && Nat.ble c 1073741824 && ((bytesT P el).map fun b => Nat.ble b 65536).getD false
def oMake (t : TypeId) (l c : Operand) : OpR := fun P fr h nx => (elemT P t).bind fun el => ((evA fr l).bind asN).bind fun l => ((evA fr c).bind asN).bind fun c => bif msOk P el l c then (sizeT P el).bind (msGo P el l c h nx) else none
def optA (fr : Fm) (x : Option Operand) : Option (Option AV) := match x with
  | none => some none
  | some x => (evA fr x).map some
def oSlice (t : TypeId) (x : Operand) (lo hi mx : Option Operand) : OpR := fun P fr h nx => (evA fr x).bind fun v => (optA fr lo).bind fun lo => (optA fr hi).bind fun hi => (optA fr mx).bind fun mx => (sliceA P t v lo hi mx).map (pv h nx)
def faGo (P : Program) (p : At) (f : Field) : Option AV := (sizeT P f.type).bind fun n => bif Nat.blt 0 n then some (.ptr p.b (p.o + f.offset)) else none
def oFieldAddr (t : TypeId) (x : Operand) (f : Nat) : OpR := fun P fr h nx => ((evA fr x).bind asP).bind fun p => ((fieldT P t f).bind (faGo P p)).map (pv h nx)
def oField (t : TypeId) (x : Operand) (f : Nat) : OpR := fun P fr h nx => ((evA fr x).bind asAgg).bind fun cs => ((fieldT P t f).bind fun f => partA P f.type cs f.offset).map (pv h nx)
def oIndexAddr (t : TypeId) (x i : Operand) : OpR := fun P fr h nx => (evA fr x).bind fun v => (evA fr i).bind fun j => (indexAddrA P t v j).map (pv h nx)
def oIndex (t : TypeId) (x i : Operand) : OpR := fun P fr h nx => (evA fr x).bind fun v => (evA fr i).bind fun j => (indexA P t v j).map (pv h nx)
def oLookup (t : TypeId) (m k : Operand) (ok : Bool) : OpR := fun P fr h nx => (evA fr m).bind fun m => (evA fr k).bind fun k => (lookupA P t m k ok h).map (pv h nx)
def oUpdate (t : TypeId) (m k v : Operand) : OpR := fun P fr h nx => (evA fr m).bind fun m => (evA fr k).bind fun k => (evA fr v).bind fun v => (updateA P t m k v h).map (ph nx)
def isStrD (u : TypeDesc) : Bool := match u with | .string => true | _ => false
def oAssert (x : Operand) (_ a : TypeId) (ok : Bool) : OpR := fun P fr h nx => ((evA fr x).bind fun v => assertA P v a ok).map (pv h nx)
def nthA (l : List AV) (i : Nat) : Option AV := l[i]?
def oExtract (t : Operand) (i : Nat) : OpR := fun _ fr h nx => (((evA fr t).bind asTup).bind fun l => nthA l i).map (pv h nx)
def oBuiltin (b : Builtin) (args : Array Operand) (ts : Array TypeId) : OpR := fun P fr h nx => (evL fr args.toList).bind fun vs => builtinA b P ts.toList vs h nx
def oCallee (c : Callee) (args : Array Operand) (ts : Array TypeId) : OpR := match c with
  | .builtin b => oBuiltin b args ts
  | _ => oNo
def oCall (c : Call) : OpR := oCallee c.callee c.args c.argTypes
def opA (o : Op) : OpR := match o with
  | .move x => oMove x
  | .assign x => oMove x
  | .pick c a b => oPick c a b
  | .alloc t => oAlloc t
  | .box t x => oBox t x
  | .build t ps => oBuild t ps
  | .buildSlice t n ps => oBuildSlice t n ps
  | .load t a => oLoad t a
  | .store t a x => oStore t a x
  | .nilCheck x => oNil x
  | .binOp op t x y u => oBin op t x y u
  | .unOp op t x => oUn op t x
  | .convert s d x => oConv s d x
  | .makeInterface t x => oIfc t x
  | .makeFunc f a b => oFunc f a b
  | .makeMap t r => oMap t r
  | .makeSlice t l c => oMake t l c
  | .slice t x lo hi mx => oSlice t x lo hi mx
  | .fieldAddr t x f => oFieldAddr t x f
  | .field t x f => oField t x f
  | .indexAddr t x i => oIndexAddr t x i
  | .index t x i => oIndex t x i
  | .lookup t m k ok => oLookup t m k ok
  | .mapUpdate t m k v => oUpdate t m k v
  | .insert t m k v => oUpdate t m k v
  | .typeAssert x t a ok => oAssert x t a ok
  | .extract t i => oExtract t i
  | .call c => oCall c
  | _ => oNo
end
end Ex
end Go.Proofs.YtajoljoegbeiiaaGreatDoor
