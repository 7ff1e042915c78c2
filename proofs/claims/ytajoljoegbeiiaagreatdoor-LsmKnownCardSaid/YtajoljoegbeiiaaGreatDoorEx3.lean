/-
  The executor: code, calls, regions that draw their order.
-/
import Derived.Test.YtajoljoegbeiiaaGreatDoorEx2
import Derived.Orders
namespace Go.Proofs.YtajoljoegbeiiaaGreatDoor
set_option linter.all false
namespace Ex
noncomputable section
/-- A frame's slots, its marks; the heap; the next block. -/
structure St where
  fr : Fm
  ds : List Nat
  h : Hp
  nx : Nat
inductive Job where
  | code (c : Code)
  | scope (body c : Code)
abbrev Kx := X → St → Bool
/-- A frame's size; the loop whose round it is. -/
structure Cx where
  sz : Nat
  rd : Option Nat
abbrev Self := Job → Cx → St → Kx → Bool
/-- What a function's call may end in: each of the results must do. -/
abbrev Prim := FuncId → List AV → Hp → Nat → Option (List Rs)
/-! ### Looks at numbers and strings, so that they are reckoned now -/
def fzN (n : Nat) (b : Bool) : Bool := bif Nat.beq n n then b else false
def fzI (z : Int) : Bool → Bool := match z with
  | .ofNat n => fzN n
  | .negSucc n => fzN n
def fz (v : AV) : Bool → Bool := match v with
  | .int _ z => fzI z
  | .str s => fzN (lenL s)
  | .rep _ n => fzN n
  | .ptr x y => fzN (Nat.add x y)
  | .slice x y z u _ => fzN (Nat.add (Nat.add x y) (Nat.add z u))
  | .bool c => fun b => bif c then b else b
  | _ => fun b => b
def isNode (h : Hp) (b : Bool) : Bool := match h with
  | .nil => b
  | .node _ _ _ => b
def putD (σ : St) (sz : Nat) (v : AV) (d : Nat) : Option St := bif Nat.blt d sz then some { σ with fr := σ.fr.set un d v } else none
def putA (σ : St) (sz : Nat) (dst : Option Tmp) (v : AV) : Option St := match dst with
  | none => some σ
  | some d => putD σ sz v d
def yieldA (want : Bool) (v : AV) : Bool := match v with
  | .bool b => b == want
  | _ => false
def wantAt (ops : Array Oper) (fr : Fm) (g : Nat × Bool) : Bool := match (ops[g.1]?).bind (·.dst) with
  | none => false
  | some d => yieldA g.2 (fr.get un d)
def wantA (ops : Array Oper) (o : Oper) (fr : Fm) : Bool := match o.guard with
  | none => true
  | some g => wantAt ops fr g
/-! ### Plans for a region that draws its order -/
inductive Plan where
  | done
  | fl (i : Nat) (o : Oper) (r : Plan)
  | ef (i : Nat) (o : Oper) (ps : List Oper) (r : Plan)
  | al (i : Nat) (o : Oper) (ps : List Oper) (r : Plan)
def isIntD (u : TypeDesc) : Bool := match u with | .int _ => true | _ => false
def isMapD (u : TypeDesc) : Bool := match u with | .map _ _ => true | _ => false
def isU (P : Program) (f : TypeDesc → Bool) (t : TypeId) : Bool := ((P.underlying t).map f).getD false
def plainConv (P : Program) (s d : TypeId) : Bool := (isU P isIntD s && isU P isIntD d) || (isU P isStrD s && isU P isStrD d)
def plainCall (P : Program) (c : Call) : Bool := match c.callee with
  | .builtin .len => ((c.argTypes[0]?).map fun t => !isU P isMapD t).getD false
  | .builtin .max => Nat.beq c.args.size 2
  | .builtin .min => Nat.beq c.args.size 2
  | _ => false
/-- May be carried out at any time: no world is asked, but for a load's cells. -/
def floatO (P : Program) (o : Op) : Bool := match o with
  | .move _ | .assign _ | .pick .. | .load .. | .unOp .. | .makeInterface .. | .makeFunc .. | .slice .. | .fieldAddr .. | .field .. | .indexAddr .. | .index .. | .extract .. | .typeAssert .. | .nilCheck _ | .build .. => true
  | .binOp _ _ _ _ _ => true
  | .convert s d _ => plainConv P s d
  | .call c => plainCall P c
  | _ => false
def flOk (P : Program) (ops : Array Oper) (listed : Array Bool) (i : Nat) : Bool := ((ops[i]?).map fun o => floatO P o.op && Region.free .any ops listed i).getD false
def mkFl (i : Nat) (o : Option Oper) (r : Option Plan) : Option Plan := o.bind fun o => r.map (.fl i o)
def mkEf (i : Nat) (o : Option Oper) (ps : List Oper) (r : Option Plan) : Option Plan := o.bind fun o => r.map (.ef i o ps)
def mkAl (i : Nat) (o : Option Oper) (ps : List Oper) (r : Option Plan) : Option Plan := o.bind fun o => r.map (.al i o ps)
/-- Operations that lay one new block and ask for no other. -/
def newOp (o : Op) : Bool := match o with
  | .alloc _ => true
  | .buildSlice _ _ _ => true
  | _ => false
/-- A new block that nothing asks for but what waits for it: it may be laid at any time, and is laid last of all that is ready. -/
def alOk (ops : Array Oper) (listed : Array Bool) (i : Nat) : Bool := ((ops[i]?).map fun o => newOp o.op && Region.free .any ops listed i && o.guard.isNone).getD false
def waitsOn (o : Oper) (i : Nat) : Bool := o.after.any fun e => Region.binds .any e && Nat.beq e.on i
/-- What waits for one of 'ps' waits for each of 'cs'. -/
def sepAt (ps cs : List Nat) (o : Oper) : Bool := ps.all fun e => !waitsOn o e || cs.all (waitsOn o)
def sepOk (ops : Array Oper) (listed : Array Bool) (ps cs : List Nat) : Bool := (List.range ops.size).all fun j => listed.getD j true || ((ops[j]?).map (sepAt ps cs)).getD true
def opersOf (ops : Array Oper) (ps : List Nat) : List Oper := ps.filterMap (ops[·]?)
def planGo (P : Program) (ops : Array Oper) : Nat → Array Bool → Option Plan
  | 0, listed => (match Region.ready .any ops listed with | [] => some .done | _ => none)
  | n + 1, listed => match Region.ready .any ops listed with
    | [] => some .done
    | rs => match rs.find? (flOk P ops listed) with
      | some i => mkFl i ops[i]? (planGo P ops n (listed.setIfInBounds i true))
      | none => match rs.filter (fun i => !alOk ops listed i) with
        | [i] => bif sepOk ops listed (rs.filter (alOk ops listed)) [i] then mkEf i ops[i]? (opersOf ops (rs.filter (alOk ops listed))) (planGo P ops n (listed.setIfInBounds i true)) else none
        | [] => (match rs with
          | [] => none
          | i :: t => bif sepOk ops listed (i :: t) (i :: t) then mkAl i ops[i]? (opersOf ops (i :: t)) (planGo P ops n (listed.setIfInBounds i true)) else none)
        | _ => none
def noDefer (o : Oper) : Bool := match o.op with | .defer _ => false | _ => true
def planOf (P : Program) (ops : Array Oper) : Option Plan := bif Region.noSelect ops && ops.all noDefer then planGo P ops ops.size (Array.replicate ops.size false) else none
def eqAV : Nat → AV → AV → Bool
  | 0, _, _ => false
  | n + 1, x, y => match x, y with
    | .bool a, .bool b => a == b
    | .int j a, .int k b => sameK j k && eqZ a b
    | .str a, .str b => eqS a b
    | .ptr a b, .ptr c d => Nat.beq a c && Nat.beq b d
    | .nilp, .nilp => true
    | .slice a b c d e, .slice a' b' c' d' e' => (e || Nat.blt 0 d) && Nat.beq a a' && Nat.beq b b' && Nat.beq c c' && Nat.beq d d' && (e == e')
    | .nils, .nils => true
    | .mapv a, .mapv b => Nat.beq a b
    | .nilm, .nilm => true
    | .nilf, .nilf => true
    | .yld a, .yld b => Nat.beq a b
    | .fn f a b, .fn g c d => decide (f = g) && Nat.beq a.length c.length && Nat.beq b.length d.length && (a.zip c).all (fun p => eqAV n p.1 p.2) && (b.zip d).all (fun p => eqAV n p.1 p.2)
    | .iface t a, .iface u b => Nat.beq t u && eqAV n a b
    | .nili, .nili => true
    | .agg a, .agg b => Nat.beq a.length b.length && (a.zip b).all fun p => eqAV n p.1 p.2
    | _, _ => false
/-- A cell that an operation read: as long as one may come that need not wait for it, it must stay as it is. -/
structure Hd where
  i : Nat
  b : Nat
  c : Nat
  v : AV
abbrev Held := List Hd
def sameC (v : AV) (u : AV) : Bool := eqAV 6 u v
def held1 (o : Oper) (h : Hp) (d : Hd) : Bool := bif waitsOn o d.i then true else ((loadCell h d.b d.c).map (sameC d.v)).getD false
def heldB (o : Oper) (h : Hp) (hd : Held) : Bool := hd.all (held1 o h)
def heldsOf (i b : Nat) : Nat → List AV → Held → Held
  | _, [], l => l
  | o, v :: vs, l => ⟨i, b, o, v⟩ :: heldsOf i b (o + 1) vs l
/-! ### Calls -/
def resCell (P : Program) (h : Hp) (t : TypeId) (v : AV) : Option AV := (asP v).bind fun p => loadV P h t p.b p.o
def res1 (P : Program) (fr : Fm) (h : Hp) (r : ResultVar) : Option AV := match r with
  | .tmp t => some (fr.get un t)
  | .cell a t => resCell P h t (fr.get un a)
def resA (P : Program) (fr : Fm) (h : Hp) : List ResultVar → Option (List AV)
  | [] => some []
  | r :: l => consO (res1 P fr h r) (resA P fr h l)
def resV (vs : List AV) : AV := match vs with
  | [] => .tup []
  | v :: l => bif isNilL l then v else .tup (v :: l)
def isDef (o : AO) : Bool := match o with | .deferred => true | _ => false
/-- The marks of the ranges over functions are taken away. -/
def takeDs : List Nat → Hp → Option Hp
  | [], h => some h
  | d :: ds, h => bif isDef (h.get .dead d) then takeDs ds (h.set .dead d .dead) else none
def leaveH (P : Program) (fn : Func) (k : Rs → Bool) (σ : St) (h : Hp) : Bool := ((resA P σ.fr h fn.results.toList).map fun vs => k ⟨resV vs, h, σ.nx⟩).getD false
def leave (P : Program) (fn : Func) (k : Rs → Bool) (σ : St) : Bool := ((takeDs σ.ds σ.h).map (leaveH P fn k σ)).getD false
def leaveX (P : Program) (fn : Func) (k : Rs → Bool) (x : X) : St → Bool := match x with
  | .nm => leave P fn k
  | .ret => leave P fn k
  | _ => fun _ => false
def enter (P : Program) (self : Self) (args : List AV) (h : Hp) (nx : Nat) (k : Rs → Bool) (fn : Func) (c : Code) : Bool :=
  bif Nat.ble (lenL args) fn.ntmps then self (.code c) ⟨fn.ntmps, none⟩ ⟨treeOf un args 0 .nil, [], h, nx⟩ (leaveX P fn k) else false
def enterF (P : Program) (self : Self) (args : List AV) (h : Hp) (nx : Nat) (k : Rs → Bool) (fn : Func) : Bool := match fn.body with
  | none => false
  | some c => enter P self args h nx k fn c
def enterO (P : Program) (self : Self) (args : List AV) (h : Hp) (nx : Nat) (k : Rs → Bool) (fn : Option Func) : Bool := match fn with
  | none => false
  | some fn => enterF P self args h nx k fn
def took (k : Rs → Bool) (r : Rs) : Bool := fz r.v (isNode r.h (k r))
def tookL (k : Rs → Bool) (l : List Rs) : Bool := List.rec (motive := fun _ => Bool) true (fun r _ ih => bif took k r then ih else false) l
def callK (P : Program) (prim : Prim) (self : Self) (f : FuncId) (args : List AV) (h : Hp) (nx : Nat) (k : Rs → Bool) : Bool := match prim f args h nx with
  | some rs => tookL k rs
  | none => enterO P self args h nx k P.funcs[f]?
def applyFn (P : Program) (prim : Prim) (self : Self) (first cap args : List AV) (h : Hp) (nx : Nat) (k : Rs → Bool) (f : Fn) : Bool := match f with
  | .func f => callK P prim self f (cat first (cat args cap)) h nx k
  | _ => false
def lpO (o : AO) : Option Lp := match o with | .loop l => some l | _ => none
def getLp (h : Hp) (l : Nat) : Option Lp := lpO (h.get .dead l)
def setLp (h : Hp) (l : Nat) (x : Lp) : Hp := h.set .dead l (.loop x)
def setPs : List Nat → List AV → Nat → Fm → Option Fm
  | [], [], _, fr => some fr
  | p :: ps, v :: vs, sz, fr => bif Nat.blt p sz then setPs ps vs sz (fr.set un p v) else none
  | _, _, _, _ => none
def isNm (x : X) : Bool := match x with | .nm => true | _ => false
/-- A round is over. -/
def rdEnd2 (k : Rs → Bool) (l : Nat) (x : X) (σ : St) (lp : Lp) : Bool := bif isNilL σ.ds then k ⟨.bool (isNm x), setLp σ.h l { lp with rdy := isNm x, left := x }, σ.nx⟩ else false
def rdEnd (k : Rs → Bool) (l : Nat) (x : X) (σ : St) : Bool := ((getLp σ.h l).map (rdEnd2 k l x σ)).getD false
def rdBody2 (self : Self) (body : Code) (k : Rs → Bool) (l : Nat) (cx : Cx) (σ : St) (lp : Lp) : Bool := bif lp.rdy && isNm lp.left then self (.code body) cx ⟨σ.fr, σ.ds, setLp σ.h l { lp with rdy := false }, σ.nx⟩ (rdEnd k l) else false
def rdBody (self : Self) (body : Code) (k : Rs → Bool) (l : Nat) (cx : Cx) (σ : St) : Bool := ((getLp σ.h l).map (rdBody2 self body k l cx σ)).getD false
def rdAssign (self : Self) (body : Code) (k : Rs → Bool) (l : Nat) (cx : Cx) (x : X) : St → Bool := match x with
  | .nm => rdBody self body k l cx
  | _ => fun _ => false
def round2 (self : Self) (h : Hp) (nx : Nat) (k : Rs → Bool) (l : Nat) (lp : Lp) (fr : Fm) : Bool := self (.code lp.assign) ⟨lp.sz, some l⟩ ⟨fr, [], h, nx⟩ (rdAssign self lp.body k l ⟨lp.sz, some l⟩)
def round1 (self : Self) (args : List AV) (h : Hp) (nx : Nat) (k : Rs → Bool) (l : Nat) (lp : Lp) : Bool := ((setPs lp.ps args lp.sz lp.fr).map (round2 self h nx k l lp)).getD false
/-- A round of a range over a function. -/
def roundK (self : Self) (args : List AV) (h : Hp) (nx : Nat) (k : Rs → Bool) (l : Nat) : Bool := ((getLp h l).map (round1 self args h nx k l)).getD false
/-- A function value called. -/
def applyK (P : Program) (prim : Prim) (self : Self) (args : List AV) (h : Hp) (nx : Nat) (k : Rs → Bool) (f : AV) : Bool := match f with
  | .fn f first cap => applyFn P prim self first cap args h nx k f
  | .yld l => roundK self args h nx k l
  | _ => false
structure Mh where
  f : FuncId
  v : AV
def methPtr (P : Program) (f : FuncId) (h : Hp) (e : TypeId) (v : AV) : Option Mh := (asP v).bind fun p => (loadV P h e p.b p.o).map fun u => ⟨f, u⟩
def methF (P : Program) (t : TypeId) (v : AV) (h : Hp) (fp : FuncId × Bool) : Option Mh := match (P.underlying t).bind ptrD with
  | some e => bif fp.2 then some ⟨fp.1, v⟩ else methPtr P fp.1 h e v
  | none => bif fp.2 then none else (P.underlying t).map fun _ => ⟨fp.1, v⟩
def methM (P : Program) (t : TypeId) (v : AV) (h : Hp) (m : Method) : Option Mh := bif m.path.isEmpty then m.func.bind (methF P t v h) else none
def methN (name : String) (i : TypeInfo) : Option Method := i.methods.find? (·.name == name)
def methT (P : Program) (t : TypeId) (name : String) : Option Method := (P.info? t).bind (methN name)
def methA (P : Program) (t : TypeId) (v : AV) (name : String) (h : Hp) : Option Mh := (methT P t name).bind (methM P t v h)
def contO (k : St → Bool) (v : AV) (σ : Option St) : Bool := match σ with
  | some σ => fz v (k σ)
  | none => false
def fin (sz : Nat) (σ : St) (dst : Option Tmp) (k : St → Bool) (r : Rs) : Bool := contO k r.v (putA ⟨σ.fr, σ.ds, r.h, r.nx⟩ sz dst r.v)
def finO (sz : Nat) (σ : St) (dst : Option Tmp) (k : St → Bool) (r : Option Rs) : Bool := match r with
  | some r => fin sz σ dst k r
  | none => false
def callVal (P : Program) (prim : Prim) (self : Self) (vs : List AV) (σ : St) (k : Rs → Bool) (f : Option AV) : Bool := match f with
  | some f => applyK P prim self vs σ.h σ.nx k f
  | none => false
def callMh (P : Program) (prim : Prim) (self : Self) (vs : List AV) (σ : St) (k : Rs → Bool) (m : Option Mh) : Bool := match m with
  | some m => callK P prim self m.f (m.v :: vs) σ.h σ.nx k
  | none => false
def callInv (P : Program) (prim : Prim) (self : Self) (name : String) (vs : List AV) (σ : St) (k : Rs → Bool) (r : AV) : Bool := match r with
  | .iface t v => callMh P prim self vs σ k (methA P t v name σ.h)
  | _ => false
def callWith (P : Program) (prim : Prim) (self : Self) (c : Callee) (o : Op) (sz : Nat) (dst : Option Tmp) (σ : St) (k : St → Bool) (vs : List AV) : Bool := match c with
  | .value f => callVal P prim self vs σ (fin sz σ dst k) (evA σ.fr f)
  | .invoke r name => ((evA σ.fr r).map (callInv P prim self name vs σ (fin sz σ dst k))).getD false
  | .builtin _ => finO sz σ dst k (opA o P σ.fr σ.h σ.nx)
def callC (P : Program) (prim : Prim) (self : Self) (c : Call) (sz : Nat) (dst : Option Tmp) (σ : St) (k : St → Bool) : Bool := ((evL σ.fr c.args.toList).map (callWith P prim self c.callee (.call c) sz dst σ k)).getD false
def isCall (o : Op) : Option Call := match o with | .call c => some c | _ => none
/-- One operation. -/
def operK (P : Program) (prim : Prim) (self : Self) (o : Oper) (sz : Nat) (σ : St) (k : St → Bool) : Bool := match isCall o.op with
  | some c => callC P prim self c sz o.dst σ k
  | none => finO sz σ o.dst k (opA o.op P σ.fr σ.h σ.nx)
def skipK (σ : St) (sz : Nat) (dst : Option Tmp) (k : St → Bool) : Bool := contO k un (putA σ sz dst un)
def ops1 (P : Program) (prim : Prim) (self : Self) (ops : Array Oper) (sz : Nat) (o : Oper) (σ : St) (k : St → Bool) : Bool :=
  bif wantA ops o σ.fr then operK P prim self o sz σ k else skipK σ sz o.dst k
def opsK (P : Program) (prim : Prim) (self : Self) (ops : Array Oper) (sz : Nat) (l : List Oper) : St → Kx → Bool :=
  List.rec (motive := fun _ => St → Kx → Bool) (fun σ k => k .nm σ) (fun o _ ih σ k => ops1 P prim self ops sz o σ fun σ' => ih σ' k) l
def isLoad (o : Op) : Option (TypeId × Operand) := match o with | .load t a => some (t, a) | _ => none
def heldL (P : Program) (i : Nat) (fr : Fm) (v : AV) (hd : Held) (l : TypeId × Operand) : Held := match (evA fr l.2).bind asP with
  | some p => heldsOf i p.b p.o (bif (aggT P l.1).getD false then v.cells else [v]) hd
  | none => hd
def heldO (P : Program) (i : Nat) (o : Oper) (fr : Fm) (v : AV) (hd : Held) : Held := match isLoad o.op with
  | some l => heldL P i fr v hd l
  | none => hd
def flGo (P : Program) (i : Nat) (o : Oper) (sz : Nat) (hd : Held) (σ : St) (k : Held → St → Bool) (r : Rs) : Bool := contO (k (heldO P i o σ.fr r.v hd)) r.v (putA σ sz o.dst r.v)
def nilA (v : AV) : Bool := match v with
  | .nilp => true
  | .nili => true
  | .nils => true
  | .nilm => true
  | .nilf => true
  | _ => false
def numA (v : AV) : Bool := match v with
  | .bool _ => true
  | .int _ _ => true
  | .str _ => true
  | _ => false
def numI (v : AV) : Bool := match v with
  | .iface _ v => numA v
  | v => numA v
/-- An aggregate of plain cells. -/
def flatA (v : AV) : Bool := match v with
  | .agg l => l.all fun c => numA c || nilA c
  | _ => false
/-- Values that are held against each other without a look at the world. -/
def dryV (x y : Option AV) : Bool := match x with
  | none => false
  | some a => match y with
    | none => false
    | some b => numI a || nilA a || nilA b || flatA a
def dryO (fr : Fm) (o : Op) : Bool := match o with
  | .binOp _ _ x y _ => dryV (evA fr x) (evA fr y)
  | _ => true
def flK (P : Program) (ops : Array Oper) (i : Nat) (o : Oper) (sz : Nat) (hd : Held) (σ : St) (k : Held → St → Bool) : Bool :=
  bif wantA ops o σ.fr then (bif dryO σ.fr o.op then ((opA o.op P σ.fr σ.h σ.nx).map (flGo P i o sz hd σ k)).getD false else false) else skipK σ sz o.dst (k hd)
def efK (P : Program) (prim : Prim) (self : Self) (ops : Array Oper) (o : Oper) (sz : Nat) (hd : Held) (σ : St) (k : Held → St → Bool) : Bool :=
  ops1 P prim self ops sz o σ fun σ' => bif heldB o σ'.h hd then k hd σ' else false
def isSomeR (r : Option Rs) : Bool := match r with | some _ => true | none => false
def newsOk (P : Program) (σ : St) (ps : List Oper) : Bool := ps.all fun o => isSomeR (opA o.op P σ.fr σ.h σ.nx)
def drawK (P : Program) (prim : Prim) (self : Self) (ops : Array Oper) (sz : Nat) : Plan → Kx → Held → St → Bool
  | .done, k, _, σ => k .nm σ
  | .fl i o r, k, hd, σ => flK P ops i o sz hd σ (drawK P prim self ops sz r k)
  | .ef _ o ps r, k, hd, σ => bif newsOk P σ ps then efK P prim self ops o sz hd σ (drawK P prim self ops sz r k) else false
  | .al _ o ps r, k, hd, σ => bif newsOk P σ ps then finO sz σ o.dst (drawK P prim self ops sz r k hd) (opA o.op P σ.fr σ.h σ.nx) else false
def drawO (P : Program) (prim : Prim) (self : Self) (ops : Array Oper) (sz : Nat) (σ : St) (k : Kx) (p : Option Plan) : Bool := match p with
  | some p => drawK P prim self ops sz p k [] σ
  | none => false
/-! ### Code -/
abbrev Stp := Program → Prim → Self → Cx → St → Kx → Bool
def sSkip : Stp := fun _ _ _ _ σ k => k .nm σ
def sRegion (ops : Array Oper) (draw : Bool) : Stp := fun P prim self cx σ k => bif draw then drawO P prim self ops cx.sz σ k (planOf P ops) else opsK P prim self ops cx.sz ops.toList σ k
def thenX (self : Self) (b : Code) (cx : Cx) (k : Kx) (x : X) : St → Bool := match x with
  | .nm => fun σ => self (.code b) cx σ k
  | x => k x
def sSeq (a b : Code) : Stp := fun _ _ self cx σ k => self (.code a) cx σ (thenX self b cx k)
def condB (self : Self) (a b : Code) (cx : Cx) (σ : St) (k : Kx) (v : AV) : Bool := match v with
  | .bool t => bif t then self (.code a) cx σ k else self (.code b) cx σ k
  | _ => false
def sCond (c : Operand) (a b : Code) : Stp := fun _ _ self cx σ k => ((evA σ.fr c).map (condB self a b cx σ k)).getD false
def blockX (id : Nat) (k : Kx) (x : X) : St → Bool := match x with
  | .ex i => fun σ => bif Nat.beq i id then k .nm σ else k (.ex i) σ
  | x => k x
def sBlock (id : Nat) (b : Code) : Stp := fun _ _ self cx σ k => self (.code b) cx σ (blockX id k)
def sLoop (b : Code) : Stp := fun _ _ self cx σ k => self (.code b) cx σ (thenX self (.loop b) cx k)
def sExit (id : Nat) : Stp := fun _ _ _ _ σ k => k (.ex id) σ
def scopeX (self : Self) (body : Code) (cx : Cx) (k : Kx) (x : X) : St → Bool := match x with
  | .gt l => fun σ => (match findLabel body l with
    | some rest => self (.scope body rest) cx σ k
    | none => k (.gt l) σ)
  | x => k x
def sScope (body c : Code) : Stp := fun _ _ self cx σ k => self (.code c) cx σ (scopeX self body cx k)
def sGoto (l : Nat) : Stp := fun _ _ _ _ σ k => k (.gt l) σ
def sRet : Stp := fun _ _ _ _ σ k => k .ret σ
/-- Behind a range over a function. -/
def rfEnd2 (self : Self) (cx : Cx) (σ : St) (k : Kx) (l : Nat) (r : Rs) (lp : Lp) : Bool := bif lp.rdy || !isNm lp.left then k lp.left ⟨σ.fr, σ.ds, r.h.set .dead l .dead, r.nx⟩ else false
def rfEnd (self : Self) (cx : Cx) (σ : St) (k : Kx) (l : Nat) (r : Rs) : Bool := ((getLp r.h l).map (rfEnd2 self cx σ k l r)).getD false
def rfFn (P : Program) (self : Self) (first cap args : List AV) (h : Hp) (nx : Nat) (k : Rs → Bool) (f : Fn) : Bool := match f with
  | .func f => enterO P self (cat first (cat args cap)) h nx k P.funcs[f]?
  | _ => false
def rfGo (P : Program) (self : Self) (cx : Cx) (k : Kx) (l : Nat) (σ : St) (f : AV) : Bool := match f with
  | .fn f first cap => rfFn P self first cap [.yld l] σ.h σ.nx (rfEnd self cx σ k l) f
  | _ => false
def rfOut (P : Program) (self : Self) (ps : List Nat) (assign body : Code) (cx : Cx) (σ : St) (k : Kx) (f : AV) : Bool :=
  rfGo P self cx k (σ.nx + 1) ⟨σ.fr, σ.nx :: σ.ds, setLp (σ.h.set .dead σ.nx .deferred) (σ.nx + 1) ⟨σ.fr, cx.sz, ps, assign, body, σ.nx, true, .nm⟩, σ.nx + 2⟩ f
def rfIn (P : Program) (self : Self) (ps : List Nat) (assign body : Code) (cx : Cx) (σ : St) (k : Kx) (f : AV) (lp : Lp) : Bool :=
  rfGo P self cx k σ.nx ⟨σ.fr, σ.ds, setLp σ.h σ.nx ⟨σ.fr, cx.sz, ps, assign, body, lp.df, true, .nm⟩, σ.nx + 1⟩ f
def rfK (P : Program) (self : Self) (ps : List Nat) (assign body : Code) (cx : Cx) (σ : St) (k : Kx) (f : AV) : Bool := match cx.rd with
  | none => rfOut P self ps assign body cx σ k f
  | some l => ((getLp σ.h l).map (rfIn P self ps assign body cx σ k f)).getD false
def sRange (g : Operand) (ps : Array Tmp) (assign body : Code) : Stp := fun P _ self cx σ k => ((evA σ.fr g).map (rfK P self ps.toList assign body cx σ k)).getD false
def stNo : Stp := fun _ _ _ _ _ _ => false
def stepC (c : Code) : Stp := match c with
  | .skip => sSkip
  | .label _ => sSkip
  | .region _ ops draw => sRegion ops draw
  | .seq a b => sSeq a b
  | .cond c a b => sCond c a b
  | .block id b => sBlock id b
  | .loop b => sLoop b
  | .exit id => sExit id
  | .scope b => sScope b b
  | .goto l => sGoto l
  | .ret => sRet
  | .rangeFunc g ps assign body => sRange g ps assign body
  | .refuse _ => stNo
def step (j : Job) : Stp := match j with
  | .code c => stepC c
  | .scope body c => sScope body c
def run (P : Program) (prim : Prim) (n : Nat) : Self := Nat.rec (motive := fun _ => Self) (fun _ _ _ _ => false) (fun _ ih j => step j P prim ih) n
end
end Ex
end Go.Proofs.YtajoljoegbeiiaaGreatDoor
