/-
  The executor, fast: what the code says is looked at once (closed terms: the kernel keeps what they come to), values are taken apart by recursors whose cases are closed. Small parts. The executor, fast: operands and operations. What is known of an operation is kept in a closed box; what is not known is handed on. The executor, fast: an operation in its frame, calls, regions, code; it is the executor (runF_eq). The executor, fast: a region's plan, out of lists of what is left (planF_eq). The executor, fast: regions, code; it is the executor (runF_eq); a run's prims as a list.
-/
import Derived.Test.YtajoljoegbeiiaaGreatDoorExS
import Derived.Test.YtajoljoegbeiiaaGreatDoorExT
namespace Go.Proofs.YtajoljoegbeiiaaGreatDoor
set_option linter.all false
namespace Ex
open Go.RowKit
noncomputable section
abbrev KA := AV → Bool
def optK (o : Option AV) (c : KA) : Bool := @Option.rec.{1,0} AV (fun _ => KA → Bool) (fun _ => false) (fun a c => c a) o c
def bK (t : Bool) (x : Bool) : Bool := @Bool.rec.{1} (fun _ => Bool) false x t
/-! ### Paths -/
inductive Pa where
  | here
  | lf (p : Pa)
  | rt (p : Pa)
def paN (n : Nat) : Nat → Pa := Nat.rec (motive := fun _ => Nat → Pa) (fun _ => .here)
  (fun _ ih i => Nat.rec (motive := fun _ => Pa) .here (fun j _ => Nat.rec (motive := fun _ => Pa) (.lf (ih (Nat.div j 2))) (fun _ _ => .rt (ih (Nat.div j 2))) (Nat.mod j 2)) i) n
def pathOf (i : Nat) : Pa := paN i i
def lfT (t : Tr AV) : Tr AV := @Tr.rec.{1} AV (fun _ => Tr AV) .nil (fun _ l _ _ _ => l) t
def rtT (t : Tr AV) : Tr AV := @Tr.rec.{1} AV (fun _ => Tr AV) .nil (fun _ _ r _ _ => r) t
def vaT (t : Tr AV) (d : AV) : AV := @Tr.rec.{1} AV (fun _ => AV → AV) (fun d => d) (fun v _ _ _ _ _ => v) t d
def getP (p : Pa) : Tr AV → AV → AV := @Pa.rec.{1} (fun _ => Tr AV → AV → AV) vaT (fun _ ih t => ih (lfT t)) (fun _ ih t => ih (rtT t)) p
abbrev SetT := Tr AV → AV → AV → Tr AV
def setHere (t : Tr AV) (v d : AV) : Tr AV := @Tr.rec.{1} AV (fun _ => AV → Tr AV) (fun v => .node v .nil .nil) (fun _ l r _ _ v => .node v l r) t v
def setLf (ih : SetT) (t : Tr AV) (v d : AV) : Tr AV := @Tr.rec.{1} AV (fun _ => SetT → AV → AV → Tr AV) (fun ih v d => .node d (ih .nil v d) .nil) (fun x l r _ _ ih v d => .node x (ih l v d) r) t ih v d
def setRt (ih : SetT) (t : Tr AV) (v d : AV) : Tr AV := @Tr.rec.{1} AV (fun _ => SetT → AV → AV → Tr AV) (fun ih v d => .node d .nil (ih .nil v d)) (fun x l r _ _ ih v d => .node x l (ih r v d)) t ih v d
def setP (p : Pa) : SetT := @Pa.rec.{1} (fun _ => SetT) setHere (fun _ ih => setLf ih) (fun _ ih => setRt ih) p
/-! The same of heaps. -/
def lfH (t : Hp) : Hp := @Tr.rec.{1} AO (fun _ => Tr AO) .nil (fun _ l _ _ _ => l) t
def rtH (t : Hp) : Hp := @Tr.rec.{1} AO (fun _ => Tr AO) .nil (fun _ _ r _ _ => r) t
def vaH (t : Hp) : AO := @Tr.rec.{1} AO (fun _ => AO) .dead (fun v _ _ _ _ => v) t
def getPH (p : Pa) : Hp → AO := @Pa.rec.{1} (fun _ => Hp → AO) vaH (fun _ ih t => ih (lfH t)) (fun _ ih t => ih (rtH t)) p
def getH (h : Hp) (b : Nat) : AO := getPH (pathOf b) h
abbrev SetH := Hp → AO → Hp
def setHereH (t : Hp) (v : AO) : Hp := @Tr.rec.{1} AO (fun _ => AO → Hp) (fun v => .node v .nil .nil) (fun _ l r _ _ v => .node v l r) t v
def setLfH (ih : SetH) (t : Hp) (v : AO) : Hp := @Tr.rec.{1} AO (fun _ => SetH → AO → Hp) (fun ih v => .node .dead (ih .nil v) .nil) (fun x l r _ _ ih v => .node x (ih l v) r) t ih v
def setRtH (ih : SetH) (t : Hp) (v : AO) : Hp := @Tr.rec.{1} AO (fun _ => SetH → AO → Hp) (fun ih v => .node .dead .nil (ih .nil v)) (fun x l r _ _ ih v => .node x l (ih r v)) t ih v
def setPH (p : Pa) : SetH := @Pa.rec.{1} (fun _ => SetH) setHereH (fun _ ih => setLfH ih) (fun _ ih => setRtH ih) p
def setH (h : Hp) (b : Nat) (x : AO) : Hp := setPH (pathOf b) h x
def tree0 (l : List AV) : Nat → Tr AV → Tr AV := @List.rec.{1,0} AV (fun _ => Nat → Tr AV → Tr AV) (fun _ t => t) (fun v _ ih i t => ih (Nat.succ i) (setP (pathOf i) t v un)) l
/-! ### Numbers -/
def addF (a b : Int) : Int := @Int.rec.{1} (fun _ => Int → Int) (fun a b => @Int.rec.{1} (fun _ => Nat → Int) (fun b a => .ofNat (Nat.add a b)) (fun b a => Int.add (.ofNat a) (.negSucc b)) b a) (fun a b => Int.add (.negSucc a) b) a b
def subNF (a b : Nat) : Int := @Bool.rec.{1} (fun _ => Int) (Int.sub (.ofNat a) (.ofNat b)) (.ofNat (Nat.sub a b)) (Nat.ble b a)
def subF (a b : Int) : Int := @Int.rec.{1} (fun _ => Int → Int) (fun a b => @Int.rec.{1} (fun _ => Nat → Int) (fun b a => subNF a b) (fun b a => Int.sub (.ofNat a) (.negSucc b)) b a) (fun a b => Int.sub (.negSucc a) b) a b
def mulF (a b : Int) : Int := @Int.rec.{1} (fun _ => Int → Int) (fun a b => @Int.rec.{1} (fun _ => Nat → Int) (fun b a => .ofNat (Nat.mul a b)) (fun b a => Int.mul (.ofNat a) (.negSucc b)) b a) (fun a b => Int.mul (.negSucc a) b) a b
def ltF (a b : Int) : Bool := @Int.rec.{1} (fun _ => Int → Bool) (fun a b => @Int.rec.{1} (fun _ => Nat → Bool) (fun b a => Nat.blt a b) (fun _ _ => false) b a) (fun a b => @Int.rec.{1} (fun _ => Nat → Bool) (fun _ _ => true) (fun b a => Nat.blt b a) b a) a b
def eqF (a b : Int) : Bool := @Int.rec.{1} (fun _ => Int → Bool) (fun a b => @Int.rec.{1} (fun _ => Nat → Bool) (fun b a => Nat.beq a b) (fun _ _ => false) b a) (fun a b => @Int.rec.{1} (fun _ => Nat → Bool) (fun _ _ => false) (fun b a => Nat.beq a b) b a) a b
def wrapNF (k : IntKind) (n : Nat) : Int := @Bool.rec.{1} (fun _ => Int) (k.wrap (.ofNat n)) (.ofNat n) (Nat.blt n (topK k))
def wrapF (k : IntKind) (z : Int) : Int := @Int.rec.{1} (fun _ => IntKind → Int) (fun n k => wrapNF k n) (fun n k => k.wrap (.negSucc n)) z k
def natZK (z : Int) (c : Nat → Bool) : Bool := @Int.rec.{1} (fun _ => (Nat → Bool) → Bool) (fun n c => c n) (fun _ _ => false) z c
def fzNF (n : Nat) (b : Bool) : Bool := @Bool.rec.{1} (fun _ => Bool) false b (Nat.beq n n)
def fzIF (z : Int) (b : Bool) : Bool := @Int.rec.{1} (fun _ => Bool → Bool) (fun n b => fzNF n b) (fun n b => fzNF n b) z b
def notF (b : Bool) : Bool := @Bool.rec.{1} (fun _ => Bool) true false b
/-! ### Values taken apart -/
def fzF (v : AV) (x : Bool) : Bool := @AV.rec.{1} (fun _ => (Bool) → Bool) (fun _ => Unit) (fun b x => @Bool.rec.{1} (fun _ => Bool) x x b) (fun _ z x => fzIF z x) (fun s x => fzNF (lenL s) x) (fun b o x => fzNF (Nat.add b o) x) (fun x => x) (fun b o n c _ x => fzNF (Nat.add (Nat.add b o) (Nat.add n c)) x) (fun x => x) (fun _ x => x) (fun x => x) (fun _ _ _ _ _ x => x) (fun _ x => x) (fun x => x) (fun _ _ _ x => x) (fun x => x) (fun _ _ x => x) (fun _ _ x => x) (fun _ n x => fzNF n x) () (fun _ _ _ _ => ()) v x
def boolK (v : AV) (c : Bool → Bool) : Bool := @AV.rec.{1} (fun _ => (Bool → Bool) → Bool) (fun _ => Unit) (fun b c => c b) (fun _ _ _ => false) (fun _ _ => false) (fun _ _ _ => false) (fun _ => false) (fun _ _ _ _ _ _ => false) (fun _ => false) (fun _ _ => false) (fun _ => false) (fun _ _ _ _ _ _ => false) (fun _ _ => false) (fun _ => false) (fun _ _ _ _ => false) (fun _ => false) (fun _ _ _ => false) (fun _ _ _ => false) (fun _ _ _ => false) () (fun _ _ _ _ => ()) v c
def intK (v : AV) (c : IntKind → Int → Bool) : Bool := @AV.rec.{1} (fun _ => (IntKind → Int → Bool) → Bool) (fun _ => Unit) (fun _ _ => false) (fun k z c => c k z) (fun _ _ => false) (fun _ _ _ => false) (fun _ => false) (fun _ _ _ _ _ _ => false) (fun _ => false) (fun _ _ => false) (fun _ => false) (fun _ _ _ _ _ _ => false) (fun _ _ => false) (fun _ => false) (fun _ _ _ _ => false) (fun _ => false) (fun _ _ _ => false) (fun _ _ _ => false) (fun _ _ _ => false) () (fun _ _ _ _ => ()) v c
def natK (v : AV) (c : Nat → Bool) : Bool := @AV.rec.{1} (fun _ => (Nat → Bool) → Bool) (fun _ => Unit) (fun _ _ => false) (fun _ z c => natZK z c) (fun _ _ => false) (fun _ _ _ => false) (fun _ => false) (fun _ _ _ _ _ _ => false) (fun _ => false) (fun _ _ => false) (fun _ => false) (fun _ _ _ _ _ _ => false) (fun _ _ => false) (fun _ => false) (fun _ _ _ _ => false) (fun _ => false) (fun _ _ _ => false) (fun _ _ _ => false) (fun _ _ _ => false) () (fun _ _ _ _ => ()) v c
def ptrK (v : AV) (c : Nat → Nat → Bool) : Bool := @AV.rec.{1} (fun _ => (Nat → Nat → Bool) → Bool) (fun _ => Unit) (fun _ _ => false) (fun _ _ _ => false) (fun _ _ => false) (fun b o c => c b o) (fun _ => false) (fun _ _ _ _ _ _ => false) (fun _ => false) (fun _ _ => false) (fun _ => false) (fun _ _ _ _ _ _ => false) (fun _ _ => false) (fun _ => false) (fun _ _ _ _ => false) (fun _ => false) (fun _ _ _ => false) (fun _ _ _ => false) (fun _ _ _ => false) () (fun _ _ _ _ => ()) v c
def strK (v : AV) (c : List UInt8 → Bool) : Bool := @AV.rec.{1} (fun _ => (List UInt8 → Bool) → Bool) (fun _ => Unit) (fun _ _ => false) (fun _ _ _ => false) (fun s c => c s) (fun _ _ _ => false) (fun _ => false) (fun _ _ _ _ _ _ => false) (fun _ => false) (fun _ _ => false) (fun _ => false) (fun _ _ _ _ _ _ => false) (fun _ _ => false) (fun _ => false) (fun _ _ _ _ => false) (fun _ => false) (fun _ _ _ => false) (fun _ _ _ => false) (fun _ _ _ => false) () (fun _ _ _ _ => ()) v c
def aggK (v : AV) (c : List AV → Bool) : Bool := @AV.rec.{1} (fun _ => (List AV → Bool) → Bool) (fun _ => Unit) (fun _ _ => false) (fun _ _ _ => false) (fun _ _ => false) (fun _ _ _ => false) (fun _ => false) (fun _ _ _ _ _ _ => false) (fun _ => false) (fun _ _ => false) (fun _ => false) (fun _ _ _ _ _ _ => false) (fun _ _ => false) (fun _ => false) (fun _ _ _ _ => false) (fun _ => false) (fun l _ c => c l) (fun _ _ _ => false) (fun _ _ _ => false) () (fun _ _ _ _ => ()) v c
def tupK (v : AV) (c : List AV → Bool) : Bool := @AV.rec.{1} (fun _ => (List AV → Bool) → Bool) (fun _ => Unit) (fun _ _ => false) (fun _ _ _ => false) (fun _ _ => false) (fun _ _ _ => false) (fun _ => false) (fun _ _ _ _ _ _ => false) (fun _ => false) (fun _ _ => false) (fun _ => false) (fun _ _ _ _ _ _ => false) (fun _ _ => false) (fun _ => false) (fun _ _ _ _ => false) (fun _ => false) (fun _ _ _ => false) (fun l _ c => c l) (fun _ _ _ => false) () (fun _ _ _ _ => ()) v c
def slK (v : AV) (c : Nat → Nat → Nat → Nat → Bool → Bool) : Bool := @AV.rec.{1} (fun _ => (Nat → Nat → Nat → Nat → Bool → Bool) → Bool) (fun _ => Unit) (fun _ _ => false) (fun _ _ _ => false) (fun _ _ => false) (fun _ _ _ => false) (fun _ => false) (fun b o n c1 ex c => c b o n c1 ex) (fun _ => false) (fun _ _ => false) (fun _ => false) (fun _ _ _ _ _ _ => false) (fun _ _ => false) (fun _ => false) (fun _ _ _ _ => false) (fun _ => false) (fun _ _ _ => false) (fun _ _ _ => false) (fun _ _ _ => false) () (fun _ _ _ _ => ()) v c
def lenSK (v : AV) (c : Nat → Bool) : Bool := @AV.rec.{1} (fun _ => (Nat → Bool) → Bool) (fun _ => Unit) (fun _ _ => false) (fun _ _ _ => false) (fun _ _ => false) (fun _ _ _ => false) (fun _ => false) (fun _ _ n _ _ c => c n) (fun c => c 0) (fun _ _ => false) (fun _ => false) (fun _ _ _ _ _ _ => false) (fun _ _ => false) (fun _ => false) (fun _ _ _ _ => false) (fun _ => false) (fun _ _ _ => false) (fun _ _ _ => false) (fun _ _ _ => false) () (fun _ _ _ _ => ()) v c
def lenTK (v : AV) (c : Nat → Bool) : Bool := @AV.rec.{1} (fun _ => (Nat → Bool) → Bool) (fun _ => Unit) (fun _ _ => false) (fun _ _ _ => false) (fun s c => c (lenL s)) (fun _ _ _ => false) (fun _ => false) (fun _ _ _ _ _ _ => false) (fun _ => false) (fun _ _ => false) (fun _ => false) (fun _ _ _ _ _ _ => false) (fun _ _ => false) (fun _ => false) (fun _ _ _ _ => false) (fun _ => false) (fun _ _ _ => false) (fun _ _ _ => false) (fun _ n c => c n) () (fun _ _ _ _ => ()) v c
def nilF (v : AV)  : Bool := @AV.rec.{1} (fun _ => Bool) (fun _ => Unit) (fun _ => false) (fun _ _ => false) (fun _ => false) (fun _ _ => false) (true) (fun _ _ _ _ _ => false) (true) (fun _ => false) (true) (fun _ _ _ _ _ => false) (fun _ => false) (true) (fun _ _ _ => false) (true) (fun _ _ => false) (fun _ _ => false) (fun _ _ => false) () (fun _ _ _ _ => ()) v 
def numF1 (v : AV)  : Bool := @AV.rec.{1} (fun _ => Bool) (fun _ => Unit) (fun _ => true) (fun _ _ => true) (fun _ => true) (fun _ _ => false) (false) (fun _ _ _ _ _ => false) (false) (fun _ => false) (false) (fun _ _ _ _ _ => false) (fun _ => false) (false) (fun _ _ _ => false) (false) (fun _ _ => false) (fun _ _ => false) (fun _ _ => false) () (fun _ _ _ _ => ()) v 
def numIF (v : AV) (x : AV) : Bool := @AV.rec.{1} (fun _ => (AV) → Bool) (fun _ => Unit) (fun _ x => numF1 x) (fun _ _ x => numF1 x) (fun _ x => numF1 x) (fun _ _ x => numF1 x) (fun x => numF1 x) (fun _ _ _ _ _ x => numF1 x) (fun x => numF1 x) (fun _ x => numF1 x) (fun x => numF1 x) (fun _ _ _ _ _ x => numF1 x) (fun _ x => numF1 x) (fun x => numF1 x) (fun _ v _ _ => numF1 v) (fun x => numF1 x) (fun _ _ x => numF1 x) (fun _ _ x => numF1 x) (fun _ _ x => numF1 x) () (fun _ _ _ _ => ()) v x
def binKi (v : AV) (ik : IntKind → IntKind → Int → Int → KA → Bool) (k : IntKind) (m : Int) (c : KA) : Bool := @AV.rec.{1} (fun _ => (IntKind → IntKind → Int → Int → KA → Bool) → (IntKind) → (Int) → (KA) → Bool) (fun _ => Unit) (fun _ _ _ _ _ => false) (fun k1 n ik k m c => ik k k1 m n c) (fun _ _ _ _ _ => false) (fun _ _ _ _ _ _ => false) (fun _ _ _ _ => false) (fun _ _ _ _ _ _ _ _ _ => false) (fun _ _ _ _ => false) (fun _ _ _ _ _ => false) (fun _ _ _ _ => false) (fun _ _ _ _ _ _ _ _ _ => false) (fun _ _ _ _ _ => false) (fun _ _ _ _ => false) (fun _ _ _ _ _ _ _ => false) (fun _ _ _ _ => false) (fun _ _ _ _ _ _ => false) (fun _ _ _ _ _ _ => false) (fun _ _ _ _ _ _ => false) () (fun _ _ _ _ => ()) v ik k m c
def binKs (v : AV) (sk : List UInt8 → List UInt8 → KA → Bool) (s : List UInt8) (c : KA) : Bool := @AV.rec.{1} (fun _ => (List UInt8 → List UInt8 → KA → Bool) → (List UInt8) → (KA) → Bool) (fun _ => Unit) (fun _ _ _ _ => false) (fun _ _ _ _ _ => false) (fun u sk s c => sk s u c) (fun _ _ _ _ _ => false) (fun _ _ _ => false) (fun _ _ _ _ _ _ _ _ => false) (fun _ _ _ => false) (fun _ _ _ _ => false) (fun _ _ _ => false) (fun _ _ _ _ _ _ _ _ => false) (fun _ _ _ _ => false) (fun _ _ _ => false) (fun _ _ _ _ _ _ => false) (fun _ _ _ => false) (fun _ _ _ _ _ => false) (fun _ _ _ _ _ => false) (fun _ _ _ _ _ => false) () (fun _ _ _ _ => ()) v sk s c
def binK (v : AV) (ik : IntKind → IntKind → Int → Int → KA → Bool) (sk : List UInt8 → List UInt8 → KA → Bool) (g : AV → AV → Hp → Option AV) (a : AV) (b : AV) (h : Hp) (c : KA) : Bool := @AV.rec.{1} (fun _ => (IntKind → IntKind → Int → Int → KA → Bool) → (List UInt8 → List UInt8 → KA → Bool) → (AV → AV → Hp → Option AV) → (AV) → (AV) → (Hp) → (KA) → Bool) (fun _ => Unit) (fun _ _ _ g a b h c => optK (g a b h) c) (fun k m ik _ _ _ b _ c => binKi b ik k m c) (fun s _ sk _ _ b _ c => binKs b sk s c) (fun _ _ _ _ g a b h c => optK (g a b h) c) (fun _ _ g a b h c => optK (g a b h) c) (fun _ _ _ _ _ _ _ g a b h c => optK (g a b h) c) (fun _ _ g a b h c => optK (g a b h) c) (fun _ _ _ g a b h c => optK (g a b h) c) (fun _ _ g a b h c => optK (g a b h) c) (fun _ _ _ _ _ _ _ g a b h c => optK (g a b h) c) (fun _ _ _ g a b h c => optK (g a b h) c) (fun _ _ g a b h c => optK (g a b h) c) (fun _ _ _ _ _ g a b h c => optK (g a b h) c) (fun _ _ g a b h c => optK (g a b h) c) (fun _ _ _ _ g a b h c => optK (g a b h) c) (fun _ _ _ _ g a b h c => optK (g a b h) c) (fun _ _ _ _ _ _ _ _ _ => false) () (fun _ _ _ _ => ()) v ik sk g a b h c
def fnK (v : AV) (c : Fn → List AV → List AV → Bool) (y : Nat → Bool) : Bool := @AV.rec.{1} (fun _ => (Fn → List AV → List AV → Bool) → (Nat → Bool) → Bool) (fun _ => Unit) (fun _ _ _ => false) (fun _ _ _ _ => false) (fun _ _ _ => false) (fun _ _ _ _ => false) (fun _ _ => false) (fun _ _ _ _ _ _ _ => false) (fun _ _ => false) (fun _ _ _ => false) (fun _ _ => false) (fun f x1 x2 _ _ c _ => c f x1 x2) (fun b _ y => y b) (fun _ _ => false) (fun _ _ _ _ _ => false) (fun _ _ => false) (fun _ _ _ _ => false) (fun _ _ _ _ => false) (fun _ _ _ _ => false) () (fun _ _ _ _ => ()) v c y
def cellsFK (v : AV) (x : AV) (m : List AV → Bool) (one : AV → Bool) : Bool := @AV.rec.{1} (fun _ => (AV) → (List AV → Bool) → (AV → Bool) → Bool) (fun _ => Unit) (fun _ x _ one => one x) (fun _ _ x _ one => one x) (fun _ x _ one => one x) (fun _ _ x _ one => one x) (fun x _ one => one x) (fun _ _ _ _ _ x _ one => one x) (fun x _ one => one x) (fun _ x _ one => one x) (fun x _ one => one x) (fun _ _ _ _ _ x _ one => one x) (fun _ x _ one => one x) (fun x _ one => one x) (fun _ _ _ x _ one => one x) (fun x _ one => one x) (fun l _ _ m _ => m l) (fun _ _ x m _ => m [x]) (fun _ _ x _ one => one x) () (fun _ _ _ _ => ()) v x m one
def bkK (x : AO) (c : Bk → Bool) : Bool := AO.rec (motive := fun _ => (Bk → Bool) → Bool) (fun b c => c b) (fun _ _ _ => false) (fun _ _ _ => false) (fun _ _ => false) (fun _ => false) (fun _ => false) x c
def nthK (l : List AV) : Nat → KA → Bool := @List.rec.{1,0} AV (fun _ => Nat → KA → Bool) (fun _ _ => false) (fun v _ ih i c => @Nat.rec.{1} (fun _ => (Nat → KA → Bool) → AV → KA → Bool) (fun _ v c => c v) (fun j _ ih _ c => ih j c) i ih v c) l
def nth8K (l : List UInt8) : Nat → KA → Bool := @List.rec.{1,0} UInt8 (fun _ => Nat → KA → Bool) (fun _ _ => false) (fun v _ ih i c => @Nat.rec.{1} (fun _ => (Nat → KA → Bool) → UInt8 → KA → Bool) (fun _ v c => c (byteA v)) (fun j _ ih _ c => ih j c) i ih v c) l
def listP (n : Nat) : Nat → Tr AV → AV → List AV := @Nat.rec.{1} (fun _ => Nat → Tr AV → AV → List AV) (fun _ _ _ => []) (fun _ ih i t d => getP (pathOf i) t d :: ih (Nat.succ i) t d) n
end

/-! ### They are what they were -/
theorem bK_eq (t x : Bool) : bK t x = (bif t then x else false) := by cases t <;> rfl
theorem paN_succ (n j : Nat) : paN (n + 1) (j + 1) = if j % 2 = 0 then .lf (paN n (j / 2)) else .rt (paN n (j / 2)) := by
  show Nat.rec (motive := fun _ => Pa) (Pa.lf (paN n (j / 2))) (fun _ _ => Pa.rt (paN n (j / 2))) (j % 2) = _
  rcases Nat.mod_two_eq_zero_or_one j with h | h <;> rw [h] <;> rfl
theorem getP_eq (d : AV) : ∀ (n i : Nat), i ≤ n → ∀ t, getP (paN n i) t d = t.get d i
  | 0, 0, _, t => by cases t <;> rfl
  | n + 1, 0, _, t => by cases t <;> rfl
  | n + 1, j + 1, h, t => by
    have hj : j / 2 ≤ n := by omega
    have ih := getP_eq d n (j / 2) hj
    rw [paN_succ]
    cases t with
    | nil =>
      split
      · exact ih .nil
      · exact ih .nil
    | node v l r =>
      rw [Tr.get_succ]
      split
      · exact ih l
      · exact ih r
theorem get_path (t : Tr AV) (d : AV) (i : Nat) : getP (pathOf i) t d = t.get d i := getP_eq d i i (Nat.le_refl _) t
theorem single_fuel {α : Type} (d : α) (v : α) : ∀ (n m i : Nat), i ≤ n → i ≤ m → Tr.single d n i v = Tr.single d m i v
  | n, m, 0, _, _ => by rw [Tr.single_zero, Tr.single_zero]
  | 0, _, i + 1, h, _ => by omega
  | _, 0, i + 1, _, h => by omega
  | n + 1, m + 1, i + 1, h1, h2 => by
    rw [Tr.single_succ, Tr.single_succ, single_fuel d v n m (i / 2) (by omega) (by omega)]
theorem setP_eq (d : AV) (v : AV) : ∀ (n i : Nat), i ≤ n → ∀ t, setP (paN n i) t v d = t.set d i v
  | 0, 0, _, t => by cases t <;> rfl
  | n + 1, 0, _, t => by cases t <;> rfl
  | n + 1, j + 1, h, t => by
    have ih := setP_eq d v n (j / 2) (by omega)
    rw [paN_succ]
    cases t with
    | nil =>
      rw [Tr.set_nil, Tr.single_succ, single_fuel d v j (j / 2) (j / 2) (by omega) (Nat.le_refl _), ← Tr.set_nil]
      split
      · show Tr.node d (setP (paN n (j / 2)) .nil v d) .nil = _; rw [ih]
      · show Tr.node d .nil (setP (paN n (j / 2)) .nil v d) = _; rw [ih]
    | node x l r =>
      rw [Tr.set_succ]
      split
      · show Tr.node x (setP (paN n (j / 2)) l v d) r = _; rw [ih]
      · show Tr.node x l (setP (paN n (j / 2)) r v d) = _; rw [ih]
theorem set_path (t : Tr AV) (v d : AV) (i : Nat) : setP (pathOf i) t v d = t.set d i v := setP_eq d v i i (Nat.le_refl _) t
theorem getPH_eq : ∀ (n i : Nat), i ≤ n → ∀ t : Hp, getPH (paN n i) t = t.get .dead i
  | 0, 0, _, t => by cases t <;> rfl
  | n + 1, 0, _, t => by cases t <;> rfl
  | n + 1, j + 1, h, t => by
    have ih := getPH_eq n (j / 2) (by omega)
    rw [paN_succ]
    cases t with
    | nil =>
      split
      · exact ih .nil
      · exact ih .nil
    | node v l r =>
      rw [Tr.get_succ]
      split
      · exact ih l
      · exact ih r
theorem getH_eq (h : Hp) (b : Nat) : getH h b = h.get .dead b := getPH_eq b b (Nat.le_refl _) h
theorem setPH_eq (v : AO) : ∀ (n i : Nat), i ≤ n → ∀ t : Hp, setPH (paN n i) t v = t.set .dead i v
  | 0, 0, _, t => by cases t <;> rfl
  | n + 1, 0, _, t => by cases t <;> rfl
  | n + 1, j + 1, h, t => by
    have ih := setPH_eq v n (j / 2) (by omega)
    rw [paN_succ]
    cases t with
    | nil =>
      rw [Tr.set_nil, Tr.single_succ, single_fuel AO.dead v j (j / 2) (j / 2) (by omega) (Nat.le_refl _), ← Tr.set_nil]
      split
      · show Tr.node AO.dead (setPH (paN n (j / 2)) .nil v) .nil = _; rw [ih]
      · show Tr.node AO.dead .nil (setPH (paN n (j / 2)) .nil v) = _; rw [ih]
    | node x l r =>
      rw [Tr.set_succ]
      split
      · show Tr.node x (setPH (paN n (j / 2)) l v) r = _; rw [ih]
      · show Tr.node x l (setPH (paN n (j / 2)) r v) = _; rw [ih]
theorem setH_eq (h : Hp) (b : Nat) (x : AO) : setH h b x = h.set .dead b x := setPH_eq x b b (Nat.le_refl _) h
theorem tree0_eq : ∀ (l : List AV) (i : Nat) (t : Tr AV), tree0 l i t = treeOf un l i t
  | [], _, _ => rfl
  | v :: l, i, t => by
    show tree0 l (i + 1) (setP (pathOf i) t v un) = treeOf un l (i + 1) (t.set un i v)
    rw [set_path, tree0_eq l]
theorem listP_eq (d : AV) (t : Tr AV) : ∀ n i, listP n i t d = listOf d t n i
  | 0, _ => rfl
  | n + 1, i => by
    show getP (pathOf i) t d :: listP n (i + 1) t d = t.get d i :: listOf d t n (i + 1)
    rw [get_path, listP_eq d t n]
theorem addF_eq (a b : Int) : addF a b = Int.add a b := by cases a <;> cases b <;> rfl
theorem subF_eq (a b : Int) : subF a b = Int.sub a b := by
  cases a <;> cases b <;> first | rfl | skip
  rename_i a b
  show subNF a b = _
  unfold subNF
  cases hb : Nat.ble b a with
  | false => rfl
  | true =>
    have := Nat.le_of_ble_eq_true hb
    show ((Nat.sub a b : Nat) : Int) = (a : Int) - (b : Int)
    show ((a - b : Nat) : Int) = _
    omega
theorem mulF_eq (a b : Int) : mulF a b = Int.mul a b := by cases a <;> cases b <;> rfl
theorem ltF_eq (a b : Int) : ltF a b = ltZ a b := by cases a <;> cases b <;> rfl
theorem eqF_eq (a b : Int) : eqF a b = eqZ a b := by cases a <;> cases b <;> rfl
theorem wrapF_eq (k : IntKind) (z : Int) : wrapF k z = wrapZ k z := by
  cases z with
  | ofNat n => show wrapNF k n = wrapN k n; unfold wrapNF wrapN; cases Nat.blt n (topK k) <;> rfl
  | negSucc n => rfl
theorem natZK_eq (z : Int) (c : Nat → Bool) : natZK z c = ((natZ z).map c).getD false := by cases z <;> rfl
theorem fzNF_eq (n : Nat) (b : Bool) : fzNF n b = fzN n b := by
  unfold fzNF fzN; cases Nat.beq n n <;> rfl
theorem fzIF_eq (z : Int) (b : Bool) : fzIF z b = fzI z b := by cases z <;> exact fzNF_eq _ _
theorem notF_eq (b : Bool) : notF b = !b := by cases b <;> rfl
theorem fzF_eq (v : AV) (x : Bool) : fzF v x = fz v x := by
  cases v <;> first | rfl | exact fzIF_eq _ _ | exact fzNF_eq _ _ | skip
  rename_i b; cases b <;> rfl
theorem ptrK_eq (v : AV) (c : Nat → Nat → Bool) : ptrK v c = ((asP v).map fun p => c p.b p.o).getD false := by cases v <;> rfl
theorem natK_eq (v : AV) (c : Nat → Bool) : natK v c = ((asN v).map c).getD false := by
  cases v <;> first | rfl | exact natZK_eq _ _
theorem aggK_eq (v : AV) (c : List AV → Bool) : aggK v c = ((asAgg v).map c).getD false := by cases v <;> rfl
theorem tupK_eq (v : AV) (c : List AV → Bool) : tupK v c = ((asTup v).map c).getD false := by cases v <;> rfl
theorem strK_eq (v : AV) (c : List UInt8 → Bool) : strK v c = ((asS v).map c).getD false := by cases v <;> rfl
theorem slK_eq (v : AV) (c : Nat → Nat → Nat → Nat → Bool → Bool) : slK v c = ((asSl v).map fun s => c s.b s.o s.n s.c s.ex).getD false := by cases v <;> rfl
theorem nilF_eq (v : AV) : nilF v = nilA v := by cases v <;> rfl
theorem numF1_eq (v : AV) : numF1 v = numA v := by cases v <;> rfl
theorem numIF_eq (v : AV) : numIF v v = numI v := by cases v <;> first | rfl | exact numF1_eq _
theorem bkK_eq (x : AO) (c : Bk → Bool) : bkK x c = ((bkO x).map c).getD false := by cases x <;> rfl
theorem nthK_eq : ∀ (l : List AV) (i : Nat) (c : KA), nthK l i c = optK l[i]? c
  | [], i, c => by cases i <;> rfl
  | v :: l, 0, c => rfl
  | v :: l, i + 1, c => by
    show nthK l i c = _
    rw [nthK_eq l i c, List.getElem?_cons_succ]
theorem nth8K_eq : ∀ (l : List UInt8) (i : Nat) (c : KA), nth8K l i c = optK ((l[i]?).map byteA) c
  | [], i, c => by cases i <;> rfl
  | v :: l, 0, c => rfl
  | v :: l, i + 1, c => by
    show nth8K l i c = _
    rw [nth8K_eq l i c, List.getElem?_cons_succ]
end Ex
end Go.Proofs.YtajoljoegbeiiaaGreatDoor

namespace Go.Proofs.YtajoljoegbeiiaaGreatDoor
set_option linter.all false
namespace Ex
open Go.RowKit
noncomputable section
/-! ### Operands -/
structure Cv where
  g : Fm → KA → Bool
def tmpG (p : Pa) (fr : Fm) (c : KA) : Bool := c (getP p fr un)
def cstG (a : AV) (_ : Fm) (c : KA) : Bool := c a
def noG (_ : Fm) (_ : KA) : Bool := false
def cvC (o : Option AV) : Cv := match o with
  | none => ⟨noG⟩
  | some a => ⟨cstG a⟩
def cvO (x : Operand) : Cv := match x with
  | .tmp t => ⟨tmpG (pathOf t)⟩
  | .const v => cvC (ofV 10 v)
  | .global g => bif Nat.blt g 1000 then ⟨cstG (.ptr g 0)⟩ else ⟨noG⟩
  | .func f => ⟨cstG (.fn (.func f) [] [])⟩
end
theorem cvO_eq (x : Operand) (fr : Fm) (c : KA) : (cvO x).g fr c = optK (evA fr x) c := by
  cases x with
  | tmp t => show c (getP (pathOf t) fr un) = c (fr.get un t); rw [get_path]
  | const v => show (cvC (ofV 10 v)).g fr c = optK (ofV 10 v) c; cases ofV 10 v <;> rfl
  | global g =>
    show (bif Nat.blt g 1000 then (⟨cstG (.ptr g 0)⟩ : Cv) else ⟨noG⟩).g fr c = optK (bif Nat.blt g 1000 then some (.ptr g 0) else none) c
    cases Nat.blt g 1000 <;> rfl
  | func f => rfl
noncomputable section
structure Ca where
  g : Fm → (List AV → Bool) → Bool
def anil (_ : Fm) (c : List AV → Bool) : Bool := c []
def acons2 (c : List AV → Bool) (v : AV) (l : List AV) : Bool := c (v :: l)
def acons1 (r : Ca) (fr : Fm) (c : List AV → Bool) (v : AV) : Bool := r.g fr (acons2 c v)
def acons (x : Cv) (r : Ca) (fr : Fm) (c : List AV → Bool) : Bool := x.g fr (acons1 r fr c)
def caL : List Operand → Ca
  | [] => ⟨anil⟩
  | x :: l => ⟨acons (cvO x) (caL l)⟩
end
theorem caL_eq : ∀ (l : List Operand) (fr : Fm) (c : List AV → Bool), (caL l).g fr c = ((evL fr l).map c).getD false
  | [], _, _ => rfl
  | x :: l, fr, c => by
    show (cvO x).g fr (acons1 (caL l) fr c) = ((consO (evA fr x) (evL fr l)).map c).getD false
    rw [cvO_eq]
    cases evA fr x with
    | none => rfl
    | some v =>
      show (caL l).g fr (acons2 c v) = _
      rw [caL_eq l]
      cases evL fr l <;> rfl
/-! ### Operations that make a value of the frame and the heap -/
abbrev Pk := Fm → Hp → KA → Bool
/-- 'pk' is the operation. -/
def PkOk (P : Program) (o : Op) (pk : Pk) : Prop := ∃ f : Fm → Hp → Option AV, (∀ fr h c, pk fr h c = optK (f fr h) c) ∧ ∀ fr h nx, opA o P fr h nx = (f fr h).map (pv h nx)
noncomputable section
def moveF (x : Cv) : Pk := fun fr _ c => x.g fr c
/-! loads -/
def load1d (o : Nat) (c : KA) (k : Bk) : Bool := bK (Nat.blt o k.n) (c (getP (pathOf o) k.t k.d))
def load1b (h : Hp) (c : KA) (b o : Nat) : Bool := bkK (getH h b) (load1d o c)
def load1 (h : Hp) (c : KA) (p : AV) : Bool := ptrK p (load1b h c)
def loadF1 (x : Cv) : Pk := fun fr h c => x.g fr (load1 h c)
def loadNd (n o : Nat) (c : KA) (k : Bk) : Bool := bK (Nat.ble (Nat.add o n) k.n) (c (.agg (listP n o k.t k.d)))
def loadNb (n : Nat) (h : Hp) (c : KA) (b o : Nat) : Bool := bkK (getH h b) (loadNd n o c)
def loadN1 (n : Nat) (h : Hp) (c : KA) (p : AV) : Bool := ptrK p (loadNb n h c)
def loadFN (n : Nat) (x : Cv) : Pk := fun fr h c => x.g fr (loadN1 n h c)
def loadC (P : Program) (t : TypeId) (a : Operand) : Option Pk := match aggT P t with
  | none => none
  | some false => some (loadF1 (cvO a))
  | some true => match sizeT P t with
    | none => none
    | some n => some (loadFN n (cvO a))
/-! fields, elements -/
def fa2 (c : KA) (off b o : Nat) : Bool := c (.ptr b (Nat.add o off))
def fa1 (off : Nat) (c : KA) (p : AV) : Bool := ptrK p (fa2 c off)
def faF (off : Nat) (x : Cv) : Pk := fun fr _ c => x.g fr (fa1 off c)
def faOff (P : Program) (f : Field) : Option Nat := match sizeT P f.type with
  | none => none
  | some n => bif Nat.blt 0 n then some f.offset else none
def faC (P : Program) (t : TypeId) (x : Operand) (f : Nat) : Option Pk := match fieldT P t f with
  | none => none
  | some fd => match faOff P fd with
    | none => none
    | some off => some (faF off (cvO x))
def fd2 (off : Nat) (c : KA) (l : List AV) : Bool := nthK l off c
def fd1 (off : Nat) (c : KA) (v : AV) : Bool := aggK v (fd2 off c)
def fdF (off : Nat) (x : Cv) : Pk := fun fr _ c => x.g fr (fd1 off c)
def fdC (P : Program) (t : TypeId) (x : Operand) (f : Nat) : Option Pk := match fieldT P t f with
  | none => none
  | some fd => match aggT P fd.type with
    | some false => some (fdF fd.offset (cvO x))
    | _ => none
def ia4 (b o j z : Nat) (c : KA) : Bool := c (.ptr b (Nat.add o (Nat.mul j z)))
def ia3 (z : Nat) (c : KA) (b o n : Nat) (j : Nat) : Bool := bK (Nat.blt j n) (ia4 b o j z c)
def ia2 (z : Nat) (c : KA) (i : AV) (b o n : Nat) (_ : Nat) (_ : Bool) : Bool := natK i (ia3 z c b o n)
def ia1 (z : Nat) (c : KA) (v i : AV) : Bool := slK v (ia2 z c i)
def ia0 (z : Nat) (y : Cv) (fr : Fm) (c : KA) (v : AV) : Bool := y.g fr (ia1 z c v)
def iaF (z : Nat) (x y : Cv) : Pk := fun fr _ c => x.g fr (ia0 z y fr c)
def iaC (P : Program) (t : TypeId) (x i : Operand) : Option Pk := match (P.underlying t).bind elemD with
  | none => none
  | some e => match sizeT P e with
    | none => none
    | some z => some (iaF z (cvO x) (cvO i))
def ix3 (s : List UInt8) (c : KA) (j : Nat) : Bool := nth8K s j c
def ix2 (c : KA) (i : AV) (s : List UInt8) : Bool := natK i (ix3 s c)
def ix1 (c : KA) (v i : AV) : Bool := strK v (ix2 c i)
def ix0 (y : Cv) (fr : Fm) (c : KA) (v : AV) : Bool := y.g fr (ix1 c v)
def ixF (x y : Cv) : Pk := fun fr _ c => x.g fr (ix0 y fr c)
def ixC (P : Program) (t : TypeId) (x i : Operand) : Option Pk := match (P.underlying t).map isStrD with
  | some true => some (ixF (cvO x) (cvO i))
  | _ => none
def ex2 (i : Nat) (c : KA) (l : List AV) : Bool := nthK l i c
def ex1 (i : Nat) (c : KA) (v : AV) : Bool := tupK v (ex2 i c)
def exF (i : Nat) (x : Cv) : Pk := fun fr _ c => x.g fr (ex1 i c)
/-! numbers -/
abbrev Ik := IntKind → IntKind → Int → Int → KA → Bool
abbrev Sk := List UInt8 → List UInt8 → KA → Bool
def ikAdd : Ik := fun j k x y c => bK (sameK j k) (c (.int j (wrapF j (addF x y))))
def ikSub : Ik := fun j k x y c => bK (sameK j k) (c (.int j (wrapF j (subF x y))))
def ikMul : Ik := fun j k x y c => bK (sameK j k) (c (.int j (wrapF j (mulF x y))))
def ikEql : Ik := fun j k x y c => bK (sameK j k) (c (.bool (eqF x y)))
def ikNeq : Ik := fun j k x y c => bK (sameK j k) (c (.bool (notF (eqF x y))))
def ikLss : Ik := fun j k x y c => bK (sameK j k) (c (.bool (ltF x y)))
def ikLeq : Ik := fun j k x y c => bK (sameK j k) (c (.bool (notF (ltF y x))))
def ikGtr : Ik := fun j k x y c => bK (sameK j k) (c (.bool (ltF y x)))
def ikGeq : Ik := fun j k x y c => bK (sameK j k) (c (.bool (notF (ltF x y))))
def ikGen (f : Bin) : Ik := fun j k x y c => bK (sameK j k) (optK (f j x y) c)
def ikShl : Ik := fun j _ x y c => optK (iShl j x y) c
def ikShr : Ik := fun j _ x y c => optK (iShr j x y) c
structure Ikb where
  f : Ik
def ikO (op : BinOp) : Ikb := match op with
  | .add => ⟨ikAdd⟩ | .sub => ⟨ikSub⟩ | .mul => ⟨ikMul⟩ | .eql => ⟨ikEql⟩ | .neq => ⟨ikNeq⟩ | .lss => ⟨ikLss⟩ | .leq => ⟨ikLeq⟩ | .gtr => ⟨ikGtr⟩ | .geq => ⟨ikGeq⟩
  | .quo => ⟨ikGen iQuo⟩ | .rem => ⟨ikGen iRem⟩ | .and => ⟨ikGen iAnd⟩ | .or => ⟨ikGen iOr⟩ | .xor => ⟨ikGen iXor⟩ | .andNot => ⟨ikGen iAndNot⟩
  | .shl => ⟨ikShl⟩ | .shr => ⟨ikShr⟩
def skEql : Sk := fun s u c => c (.bool (eqS s u))
def skNeq : Sk := fun s u c => c (.bool (notF (eqS s u)))
def skGen (f : BinS) : Sk := fun s u c => optK (f s u) c
structure Skb where
  f : Sk
def skO (op : BinOp) : Skb := match op with
  | .add => ⟨skGen sAdd⟩ | .eql => ⟨skEql⟩ | .neq => ⟨skNeq⟩ | .lss => ⟨skGen sLss⟩ | .leq => ⟨skGen sLeq⟩ | .gtr => ⟨skGen sGtr⟩ | .geq => ⟨skGen sGeq⟩
  | _ => ⟨skGen sNo⟩
def bin1 (ik : Ikb) (sk : Skb) (g : AV → AV → Hp → Option AV) (h : Hp) (c : KA) (a b : AV) : Bool := binK a ik.f sk.f g a b h c
def bin0 (ik : Ikb) (sk : Skb) (g : AV → AV → Hp → Option AV) (y : Cv) (fr : Fm) (h : Hp) (c : KA) (a : AV) : Bool := y.g fr (bin1 ik sk g h c a)
def binF (ik : Ikb) (sk : Skb) (g : AV → AV → Hp → Option AV) (x y : Cv) : Pk := fun fr h c => x.g fr (bin0 ik sk g y fr h c)
def cvI1 (k : IntKind) (c : KA) (_ : IntKind) (z : Int) : Bool := c (.int k (wrapF k z))
def cvI0 (k : IntKind) (c : KA) (v : AV) : Bool := intK v (cvI1 k c)
def cvIF (k : IntKind) (x : Cv) : Pk := fun fr _ c => x.g fr (cvI0 k c)
def intKd (u : TypeDesc) : Option IntKind := match u with | .int k => some k | _ => none
def cvCv (P : Program) (s d : TypeId) (x : Operand) : Option Pk := match P.underlying s with
  | none => none
  | some _ => match (P.underlying d).bind intKd with
    | none => none
    | some k => some (cvIF k (cvO x))
def ln1 (c : KA) (n : Nat) : Bool := c (.int .i64 (.ofNat n))
def lnS (c : KA) (v : AV) : Bool := lenSK v (ln1 c)
def lnT (c : KA) (v : AV) : Bool := lenTK v (ln1 c)
def lnSF (x : Cv) : Pk := fun fr _ c => x.g fr (lnS c)
def lnTF (x : Cv) : Pk := fun fr _ c => x.g fr (lnT c)
def lnU (x : Operand) (u : TypeDesc) : Option Pk := match u with
  | .slice _ => some (lnSF (cvO x))
  | .string => some (lnTF (cvO x))
  | _ => none
def lnC (P : Program) (c : Call) : Option Pk := match c.callee with
  | .builtin .len => (match c.args.toList with
    | [x] => (match c.argTypes.toList with
      | t :: _ => (match P.underlying t with
        | some u => lnU x u
        | none => none)
      | [] => none)
    | _ => none)
  | _ => none
def copP (P : Program) (o : Op) : Option Pk := match o with
  | .move x => some (moveF (cvO x))
  | .assign x => some (moveF (cvO x))
  | .load t a => loadC P t a
  | .binOp op t x y _ => some (binF (ikO op) (skO op) (fun a b h => binA P op t x y h a b) (cvO x) (cvO y))
  | .fieldAddr t x f => faC P t x f
  | .field t x f => fdC P t x f
  | .indexAddr t x i => iaC P t x i
  | .index t x i => ixC P t x i
  | .extract t i => some (exF i (cvO t))
  | .convert s d x => cvCv P s d x
  | .call c => lnC P c
  | _ => none
end
theorem pk_move (P : Program) (o : Op) (x : Operand) (ho : opA o = oMove x) : PkOk P o (moveF (cvO x)) :=
  ⟨fun fr _ => evA fr x, fun fr h c => cvO_eq x fr c, fun fr h nx => by rw [ho]; rfl⟩
theorem pk_load (P : Program) (t : TypeId) (a : Operand) {pk : Pk} (h : loadC P t a = some pk) : PkOk P (.load t a) pk := by
  refine ⟨fun fr h => ((evA fr a).bind asP).bind fun p => loadV P h t p.b p.o, ?_, fun fr h nx => ?_⟩
  · intro fr hp c
    dsimp only
    unfold loadC at h
    unfold loadV
    cases hg : aggT P t with
    | none => rw [hg] at h; cases h
    | some g =>
      rw [hg] at h
      cases g with
      | false =>
        cases h
        show (cvO a).g fr (load1 hp c) = _
        rw [cvO_eq]
        cases evA fr a with
        | none => rfl
        | some v =>
          show ptrK v (load1b hp c) = optK ((asP v).bind fun p => loadCell hp p.b p.o) c
          rw [ptrK_eq]
          cases asP v with
          | none => rfl
          | some p =>
            show bkK (getH hp p.b) (load1d p.o c) = optK ((getBk hp p.b).bind (ldIn p.o)) c
            rw [bkK_eq, getH_eq]
            unfold getBk
            cases bkO (hp.get .dead p.b) with
            | none => rfl
            | some k =>
              show bK (Nat.blt p.o k.n) (c (getP (pathOf p.o) k.t k.d)) = optK (bif Nat.blt p.o k.n then some (k.t.get k.d p.o) else none) c
              rw [bK_eq, get_path]
              cases Nat.blt p.o k.n <;> rfl
      | true =>
        cases hn : sizeT P t with
        | none => rw [hn] at h; cases h
        | some n =>
          rw [hn] at h
          cases h
          show (cvO a).g fr (loadN1 n hp c) = _
          rw [cvO_eq]
          cases evA fr a with
          | none => rfl
          | some v =>
            show ptrK v (loadNb n hp c) = optK ((asP v).bind fun p => loadG P hp t p.b p.o true) c
            rw [ptrK_eq]
            cases asP v with
            | none => rfl
            | some p =>
              show bkK (getH hp p.b) (loadNd n p.o c) = optK (((sizeT P t).bind (loadN hp p.b p.o)).map .agg) c
              rw [hn]
              show _ = optK (((getBk hp p.b).bind (ldNIn p.o n)).map .agg) c
              rw [bkK_eq, getH_eq]
              unfold getBk
              cases bkO (hp.get .dead p.b) with
              | none => rfl
              | some k =>
                show bK (Nat.ble (Nat.add p.o n) k.n) (c (.agg (listP n p.o k.t k.d))) = optK ((bif Nat.ble (Nat.add p.o n) k.n then some (listOf k.d k.t n p.o) else none).map .agg) c
                rw [bK_eq, listP_eq]
                cases Nat.ble (Nat.add p.o n) k.n <;> rfl
  · dsimp only
    show ((evA fr a).bind asP).bind (fun p => (loadV P h t p.b p.o).map (pv h nx)) = _
    cases (evA fr a).bind asP <;> rfl
theorem pk_fa (P : Program) (t : TypeId) (x : Operand) (f : Nat) {pk : Pk} (h : faC P t x f = some pk) : PkOk P (.fieldAddr t x f) pk := by
  refine ⟨fun fr _ => ((evA fr x).bind asP).bind fun p => (fieldT P t f).bind (faGo P p), ?_, fun fr h nx => ?_⟩
  · intro fr hp c
    dsimp only
    unfold faC at h
    cases hf : fieldT P t f with
    | none => rw [hf] at h; cases h
    | some fd =>
      rw [hf] at h
      dsimp only at h
      cases ho : faOff P fd with
      | none => rw [ho] at h; cases h
      | some off =>
        rw [ho] at h
        cases h
        unfold faOff at ho
        cases hn : sizeT P fd.type with
        | none => rw [hn] at ho; cases ho
        | some n =>
          rw [hn] at ho
          dsimp only at ho
          cases hb : Nat.blt 0 n with
          | false => rw [hb] at ho; cases ho
          | true =>
            rw [hb] at ho
            cases ho
            show (cvO x).g fr (fa1 fd.offset c) = _
            rw [cvO_eq]
            cases evA fr x with
            | none => rfl
            | some v =>
              show ptrK v (fa2 c fd.offset) = optK ((asP v).bind fun p => faGo P p fd) c
              rw [ptrK_eq]
              cases asP v with
              | none => rfl
              | some p =>
                show c (.ptr p.b (Nat.add p.o fd.offset)) = optK ((sizeT P fd.type).bind fun n => bif Nat.blt 0 n then some (.ptr p.b (p.o + fd.offset)) else none) c
                rw [hn]
                show _ = optK (bif Nat.blt 0 n then some (.ptr p.b (p.o + fd.offset)) else none) c
                rw [hb]; rfl
  · dsimp only
    show ((evA fr x).bind asP).bind (fun p => ((fieldT P t f).bind (faGo P p)).map (pv h nx)) = _
    cases (evA fr x).bind asP <;> rfl
theorem pk_fd (P : Program) (t : TypeId) (x : Operand) (f : Nat) {pk : Pk} (h : fdC P t x f = some pk) : PkOk P (.field t x f) pk := by
  refine ⟨fun fr _ => ((evA fr x).bind asAgg).bind fun cs => (fieldT P t f).bind fun f => partA P f.type cs f.offset, ?_, fun fr h nx => ?_⟩
  · intro fr hp c
    dsimp only
    unfold fdC at h
    cases hf : fieldT P t f with
    | none => rw [hf] at h; cases h
    | some fd =>
      rw [hf] at h
      dsimp only at h
      cases hg : aggT P fd.type with
      | none => rw [hg] at h; cases h
      | some g =>
        rw [hg] at h
        cases g with
        | true => cases h
        | false =>
          cases h
          show (cvO x).g fr (fd1 fd.offset c) = _
          rw [cvO_eq]
          cases evA fr x with
          | none => rfl
          | some v =>
            show aggK v (fd2 fd.offset c) = optK ((asAgg v).bind fun cs => partA P fd.type cs fd.offset) c
            rw [aggK_eq]
            cases asAgg v with
            | none => rfl
            | some cs =>
              show nthK cs fd.offset c = optK ((aggT P fd.type).bind (partG P fd.type cs fd.offset)) c
              rw [hg, nthK_eq]; rfl
  · dsimp only
    show ((evA fr x).bind asAgg).bind (fun cs => ((fieldT P t f).bind fun f => partA P f.type cs f.offset).map (pv h nx)) = _
    cases (evA fr x).bind asAgg <;> rfl
theorem pk_ia (P : Program) (t : TypeId) (x i : Operand) {pk : Pk} (h : iaC P t x i = some pk) : PkOk P (.indexAddr t x i) pk := by
  refine ⟨fun fr _ => (evA fr x).bind fun v => (evA fr i).bind fun j => indexAddrA P t v j, ?_, fun fr h nx => ?_⟩
  · intro fr hp c
    dsimp only
    unfold iaC at h
    cases hu : P.underlying t with
    | none => rw [hu] at h; cases h
    | some u =>
      rw [hu] at h
      cases u <;> first | (cases h; done) | skip
      rename_i e
      have h : (match sizeT P e with | none => none | some z => some (iaF z (cvO x) (cvO i))) = some pk := h
      cases hz : sizeT P e with
      | none => rw [hz] at h; cases h
      | some z =>
        rw [hz] at h
        cases h
        show (cvO x).g fr (ia0 z (cvO i) fr c) = _
        rw [cvO_eq]
        cases evA fr x with
        | none => rfl
        | some v =>
          show (cvO i).g fr (ia1 z c v) = optK ((evA fr i).bind fun j => indexAddrA P t v j) c
          rw [cvO_eq]
          cases evA fr i with
          | none => rfl
          | some j =>
            show slK v (ia2 z c j) = optK ((P.underlying t).bind fun u => (asN j).bind (indexAddrU u P v)) c
            rw [hu, slK_eq]
            show _ = optK ((asN j).bind fun j => (asSl v).bind fun s => (sizeT P e).bind (ixAt s.b s.o j s.n)) c
            cases asSl v with
            | none => cases asN j <;> rfl
            | some s =>
              show natK j (ia3 z c s.b s.o s.n) = _
              rw [natK_eq]
              cases asN j with
              | none => rfl
              | some m =>
                show bK (Nat.blt m s.n) (ia4 s.b s.o m z c) = optK ((sizeT P e).bind (ixAt s.b s.o m s.n)) c
                rw [hz, bK_eq]
                show _ = optK (bif Nat.blt m s.n then some (.ptr s.b (s.o + m * z)) else none) c
                cases Nat.blt m s.n <;> rfl
  · dsimp only
    show (evA fr x).bind (fun v => (evA fr i).bind fun j => (indexAddrA P t v j).map (pv h nx)) = _
    cases evA fr x with
    | none => rfl
    | some v => show (evA fr i).bind (fun j => (indexAddrA P t v j).map (pv h nx)) = ((evA fr i).bind fun j => indexAddrA P t v j).map (pv h nx); cases evA fr i <;> rfl
theorem pk_ix (P : Program) (t : TypeId) (x i : Operand) {pk : Pk} (h : ixC P t x i = some pk) : PkOk P (.index t x i) pk := by
  refine ⟨fun fr _ => (evA fr x).bind fun v => (evA fr i).bind fun j => indexA P t v j, ?_, fun fr h nx => ?_⟩
  · intro fr hp c
    dsimp only
    unfold ixC at h
    cases hu : P.underlying t with
    | none => rw [hu] at h; cases h
    | some u =>
      rw [hu] at h
      cases u <;> first | (cases h; done) | skip
      cases h
      show (cvO x).g fr (ix0 (cvO i) fr c) = _
      rw [cvO_eq]
      cases evA fr x with
      | none => rfl
      | some v =>
        show (cvO i).g fr (ix1 c v) = optK ((evA fr i).bind fun j => indexA P t v j) c
        rw [cvO_eq]
        cases evA fr i with
        | none => rfl
        | some j =>
          show strK v (ix2 c j) = optK ((P.underlying t).bind fun u => (asN j).bind (indexU u P v)) c
          rw [hu, strK_eq]
          show _ = optK ((asN j).bind fun j => (asS v).bind fun s => (s[j]?).map byteA) c
          cases asS v with
          | none => cases asN j <;> rfl
          | some s =>
            show natK j (ix3 s c) = _
            rw [natK_eq]
            cases asN j with
            | none => rfl
            | some m =>
              show nth8K s m c = optK ((s[m]?).map byteA) c
              rw [nth8K_eq]
  · dsimp only
    show (evA fr x).bind (fun v => (evA fr i).bind fun j => (indexA P t v j).map (pv h nx)) = _
    cases evA fr x with
    | none => rfl
    | some v => show (evA fr i).bind (fun j => (indexA P t v j).map (pv h nx)) = ((evA fr i).bind fun j => indexA P t v j).map (pv h nx); cases evA fr i <;> rfl
theorem pk_ex (P : Program) (t : Operand) (i : Nat) : PkOk P (.extract t i) (exF i (cvO t)) := by
  refine ⟨fun fr _ => ((evA fr t).bind asTup).bind fun l => nthA l i, fun fr h c => ?_, fun fr h nx => rfl⟩
  dsimp only
  show (cvO t).g fr (ex1 i c) = _
  rw [cvO_eq]
  cases evA fr t with
  | none => rfl
  | some v =>
    show tupK v (ex2 i c) = optK ((asTup v).bind fun l => nthA l i) c
    rw [tupK_eq]
    cases asTup v with
    | none => rfl
    | some l => exact nthK_eq l i c
theorem ikO_eq (op : BinOp) (j k : IntKind) (m n : Int) (c : KA) : (ikO op).f j k m n c = optK (binInts op j k m n) c := by
  cases op <;> first
    | rfl
    | (show bK (sameK j k) _ = optK (bif sameK j k then _ else none) c; rw [bK_eq]; cases sameK j k <;> first | rfl | skip)
  all_goals first
    | (show c (.int j (wrapF j (addF m n))) = c (.int j (wrapZ j (Int.add m n))); rw [wrapF_eq, addF_eq]; done)
    | (show c (.int j (wrapF j (subF m n))) = c (.int j (wrapZ j (Int.sub m n))); rw [wrapF_eq, subF_eq]; done)
    | (show c (.int j (wrapF j (mulF m n))) = c (.int j (wrapZ j (Int.mul m n))); rw [wrapF_eq, mulF_eq]; done)
    | (show c (.bool (eqF m n)) = c (.bool (eqZ m n)); rw [eqF_eq]; done)
    | (show c (.bool (notF (eqF m n))) = c (.bool (!eqZ m n)); rw [notF_eq, eqF_eq]; done)
    | (show c (.bool (ltF m n)) = c (.bool (ltZ m n)); rw [ltF_eq]; done)
    | (show c (.bool (ltF n m)) = c (.bool (ltZ n m)); rw [ltF_eq]; done)
    | (show c (.bool (notF (ltF m n))) = c (.bool (!ltZ m n)); rw [notF_eq, ltF_eq]; done)
    | (show c (.bool (notF (ltF n m))) = c (.bool (!ltZ n m)); rw [notF_eq, ltF_eq]; done)
theorem skO_eq (op : BinOp) (s u : List UInt8) (c : KA) : (skO op).f s u c = optK (binS op s u) c := by
  cases op <;> first
    | rfl
    | (show c (.bool (notF (eqS s u))) = c (.bool (!eqS s u)); rw [notF_eq]; done)
theorem pk_bin (P : Program) (op : BinOp) (t u : TypeId) (x y : Operand) : PkOk P (.binOp op t x y u) (binF (ikO op) (skO op) (fun a b h => binA P op t x y h a b) (cvO x) (cvO y)) := by
  refine ⟨fun fr h => (evA fr x).bind fun a => (evA fr y).bind fun b => binA P op t x y h a b, fun fr h c => ?_, fun fr h nx => ?_⟩
  · dsimp only
    show (cvO x).g fr (bin0 (ikO op) (skO op) (fun a b h => binA P op t x y h a b) (cvO y) fr h c) = _
    rw [cvO_eq]
    cases evA fr x with
    | none => rfl
    | some a =>
      show (cvO y).g fr (bin1 (ikO op) (skO op) (fun a b h => binA P op t x y h a b) h c a) = optK ((evA fr y).bind fun b => binA P op t x y h a b) c
      rw [cvO_eq]
      cases evA fr y with
      | none => rfl
      | some b =>
        show binK a (ikO op).f (skO op).f (fun a b h => binA P op t x y h a b) a b h c = optK (binA P op t x y h a b) c
        cases a <;> first | rfl | skip
        · cases b <;> first | rfl | exact ikO_eq op _ _ _ _ c
        · cases b <;> first | rfl | exact skO_eq op _ _ c
  · dsimp only
    show (evA fr x).bind (fun a => (evA fr y).bind fun b => (binA P op t x y h a b).map (pv h nx)) = _
    cases evA fr x with
    | none => rfl
    | some v => show (evA fr y).bind (fun b => (binA P op t x y h v b).map (pv h nx)) = ((evA fr y).bind fun b => binA P op t x y h v b).map (pv h nx); cases evA fr y <;> rfl
theorem pk_cv (P : Program) (s d : TypeId) (x : Operand) {pk : Pk} (h : cvCv P s d x = some pk) : PkOk P (.convert s d x) pk := by
  unfold cvCv at h
  cases hs : P.underlying s with
  | none => rw [hs] at h; cases h
  | some us =>
    rw [hs] at h
    cases hd : P.underlying d with
    | none => rw [hd] at h; cases h
    | some u =>
      rw [hd] at h
      cases u <;> first | (cases h; done) | skip
      rename_i k
      cases h
      refine ⟨fun fr _ => ((evA fr x).bind asI).map fun z => .int k (wrapZ k z), fun fr h c => ?_, fun fr h nx => ?_⟩
      · dsimp only
        show (cvO x).g fr (cvI0 k c) = _
        rw [cvO_eq]
        cases evA fr x with
        | none => rfl
        | some v =>
          show intK v (cvI1 k c) = optK ((asI v).map fun z => .int k (wrapZ k z)) c
          cases v <;> first | rfl | skip
          rename_i j z
          show c (.int k (wrapF k z)) = c (.int k (wrapZ k z))
          rw [wrapF_eq]
      · dsimp only
        show (evA fr x).bind (fun a => (P.underlying s).bind fun s => (P.underlying d).bind fun d => convU d s P a h nx) = _
        rw [hs, hd]
        cases evA fr x with
        | none => rfl
        | some v => cases v <;> rfl
theorem pk_len (P : Program) (c : Call) {pk : Pk} (h : lnC P c = some pk) : PkOk P (.call c) pk := by
  obtain ⟨ce, args, ts⟩ := c
  unfold lnC at h
  cases ce <;> first | (cases h; done) | skip
  rename_i b
  cases b <;> first | (cases h; done) | skip
  replace h : (match args.toList with
    | [x] => (match ts.toList with
      | t :: _ => (match P.underlying t with
        | some u => lnU x u
        | none => none)
      | [] => none)
    | _ => none) = some pk := h
  cases ha : args.toList with
  | nil => rw [ha] at h; cases h
  | cons x l =>
    cases l with
    | cons y l => rw [ha] at h; cases h
    | nil =>
      rw [ha] at h
      cases ht : ts.toList with
      | nil => rw [ht] at h; cases h
      | cons t l =>
        rw [ht] at h
        replace h : (match P.underlying t with | some u => lnU x u | none => none) = some pk := h
        cases hu : P.underlying t with
        | none => rw [hu] at h; cases h
        | some u =>
          rw [hu] at h
          replace h : lnU x u = some pk := h
          have key : ∀ (fr : Fm) (h : Hp) (nx : Nat), opA (.call ⟨.builtin .len, args, ts⟩) P fr h nx = ((evA fr x).bind fun v => (lenU u P v h).map fun n => .int .i64 (.ofNat n)).map (pv h nx) := by
            intro fr h nx
            show (evL fr args.toList).bind (fun vs => builtinA .len P ts.toList vs h nx) = _
            rw [ha, ht]
            show (consO (evA fr x) (some [])).bind (fun vs => builtinA .len P (t :: l) vs h nx) = _
            cases evA fr x with
            | none => rfl
            | some v =>
              show ((P.underlying t).bind fun u => lenU u P v h).map (intRs h nx) = ((lenU u P v h).map fun n => .int .i64 (.ofNat n)).map (pv h nx)
              rw [hu]
              show (lenU u P v h).map (intRs h nx) = _
              cases lenU u P v h <;> rfl
          cases u <;> first | (cases h; done) | skip
          · cases h
            refine ⟨_, fun fr h c => ?_, key⟩
            show (cvO x).g fr (lnT c) = _
            rw [cvO_eq]
            cases evA fr x with
            | none => rfl
            | some v => cases v <;> rfl
          · cases h
            refine ⟨_, fun fr h c => ?_, key⟩
            show (cvO x).g fr (lnS c) = _
            rw [cvO_eq]
            cases evA fr x with
            | none => rfl
            | some v => cases v <;> rfl
theorem copP_ok (P : Program) (o : Op) {pk : Pk} (h : copP P o = some pk) : PkOk P o pk := by
  cases o <;> first | (cases h; done) | skip
  · cases h; exact pk_move P _ _ rfl
  · cases h; exact pk_move P _ _ rfl
  · exact pk_load P _ _ h
  · cases h; exact pk_bin P _ _ _ _ _
  · exact pk_cv P _ _ _ h
  · exact pk_fa P _ _ _ h
  · exact pk_fd P _ _ _ h
  · exact pk_ia P _ _ _ h
  · exact pk_ix P _ _ _ h
  · cases h; exact pk_ex P _ _
  · exact pk_len P _ h
end Ex
end Go.Proofs.YtajoljoegbeiiaaGreatDoor

namespace Go.Proofs.YtajoljoegbeiiaaGreatDoor
set_option linter.all false
namespace Ex
open Go.RowKit
noncomputable section
abbrev OpG := Self → Nat → St → (St → Bool) → Bool
/-- An operation: what it does in a frame. -/
structure Cop where
  go : OpG
def optRK (o : Option Rs) (c : Rs → Bool) : Bool := @Option.rec.{1,0} Rs (fun _ => (Rs → Bool) → Bool) (fun _ => false) (fun a c => c a) o c
def pureV (p : Pa) (fr : Fm) (ds : List Nat) (h : Hp) (nx : Nat) (k : St → Bool) (v : AV) : Bool := fzF v (k ⟨setP p fr v un, ds, h, nx⟩)
def pureS (pk : Pk) (p : Pa) (k : St → Bool) (σ : St) : Bool := @St.rec.{1} (fun _ => Pk → Pa → (St → Bool) → Bool) (fun fr ds h nx pk p k => pk fr h (pureV p fr ds h nx k)) σ pk p k
def pureD (pk : Pk) (d : Nat) (p : Pa) : OpG := fun _ sz σ k => bK (Nat.blt d sz) (pureS pk p k σ)
def pureW (fr : Fm) (ds : List Nat) (h : Hp) (nx : Nat) (k : St → Bool) (v : AV) : Bool := fzF v (k ⟨fr, ds, h, nx⟩)
def pureN (pk : Pk) : OpG := fun _ _ σ k => @St.rec.{1} (fun _ => Pk → (St → Bool) → Bool) (fun fr ds h nx pk k => pk fr h (pureW fr ds h nx k)) σ pk k
def mkPure (pk : Pk) (dst : Option Tmp) : Cop := match dst with
  | none => ⟨pureN pk⟩
  | some d => ⟨pureD pk d (pathOf d)⟩
/-- Behind an operation that made a value and a heap. -/
def genV (d : Nat) (p : Pa) (sz : Nat) (fr : Fm) (ds : List Nat) (k : St → Bool) (r : Rs) : Bool := @Rs.rec.{1} (fun _ => Nat → Pa → Nat → Fm → List Nat → (St → Bool) → Bool) (fun v h nx d p sz fr ds k => bK (Nat.blt d sz) (fzF v (k ⟨setP p fr v un, ds, h, nx⟩))) r d p sz fr ds k
def genW (fr : Fm) (ds : List Nat) (k : St → Bool) (r : Rs) : Bool := @Rs.rec.{1} (fun _ => Fm → List Nat → (St → Bool) → Bool) (fun v h nx fr ds k => fzF v (k ⟨fr, ds, h, nx⟩)) r fr ds k
/-- What becomes of a result. -/
structure Fin where
  go : Nat → Fm → List Nat → (St → Bool) → Rs → Bool
def finB (dst : Option Tmp) : Fin := match dst with
  | none => ⟨fun _ fr ds k r => genW fr ds k r⟩
  | some d => ⟨genV d (pathOf d)⟩
abbrev OpF := Fm → Hp → Nat → Option Rs
structure Ob where
  f : OpF
def opB (P : Program) (o : Op) : Ob := match o with
  | .pick c a b => ⟨oPick c a b P⟩
  | .alloc t => ⟨oAlloc t P⟩
  | .box t x => ⟨oBox t x P⟩
  | .build t ps => ⟨oBuild t ps P⟩
  | .buildSlice t n ps => ⟨oBuildSlice t n ps P⟩
  | .load t a => ⟨oLoad t a P⟩
  | .store t a x => ⟨oStore t a x P⟩
  | .nilCheck x => ⟨oNil x P⟩
  | .unOp op t x => ⟨oUn op t x P⟩
  | .convert s d x => ⟨oConv s d x P⟩
  | .makeInterface t x => ⟨oIfc t x P⟩
  | .makeFunc f a b => ⟨oFunc f a b P⟩
  | .makeMap t r => ⟨oMap t r P⟩
  | .makeSlice t l c => ⟨oMake t l c P⟩
  | .slice t x lo hi mx => ⟨oSlice t x lo hi mx P⟩
  | .field t x f => ⟨oField t x f P⟩
  | .indexAddr t x i => ⟨oIndexAddr t x i P⟩
  | .index t x i => ⟨oIndex t x i P⟩
  | .lookup t m k ok => ⟨oLookup t m k ok P⟩
  | .mapUpdate t m k v => ⟨oUpdate t m k v P⟩
  | .insert t m k v => ⟨oUpdate t m k v P⟩
  | .typeAssert x t a ok => ⟨oAssert x t a ok P⟩
  | o => ⟨opA o P⟩
def genS (f : Ob) (fin : Fin) (sz : Nat) (k : St → Bool) (σ : St) : Bool := @St.rec.{1} (fun _ => Ob → Fin → Nat → (St → Bool) → Bool) (fun fr ds h nx f fin sz k => optRK (f.f fr h nx) (fin.go sz fr ds k)) σ f fin sz k
def mkGen (f : Ob) (dst : Option Tmp) : Cop := ⟨fun _ sz σ k => genS f (finB dst) sz k σ⟩
/-! stores -/
abbrev Hk := Fm → Hp → (Hp → Bool) → Bool
def stPut (o : Nat) (v : AV) (k : Bk) : Bk := @Bk.rec.{1} (fun _ => Nat → AV → Bk) (fun t d n e ro fx st anc bnd fz o v => ⟨setP (pathOf o) t v d, d, n, e, ro, fx, st, anc, bnd, fz⟩) k o v
def stMay (o : Nat) (k : Bk) : Bool := @Bk.rec.{1} (fun _ => Nat → Bool) (fun t d n e ro fx st anc bnd fz o => bK (notF ro) (bK (notF st) (bK (Nat.ble (Nat.succ o) n) (Nat.ble fz o)))) k o
def stAnc (h : Hp) (b o : Nat) (v : AV) (c : Hp → Bool) (k : Bk) : Bool := @List.rec.{1,0} Nat (fun _ => Hp → Nat → Nat → AV → (Hp → Bool) → Bk → Bool) (fun h b o v c k => c (setH h b (.cells (stPut o v k)))) (fun _ _ _ h b o v c k => c (putIn h b o [v] k)) k.anc h b o v c k
def stGo (h : Hp) (b o : Nat) (v : AV) (c : Hp → Bool) (k : Bk) : Bool := bK (stMay o k) (stAnc h b o v c k)
def stOne1 (h : Hp) (b o : Nat) (c : Hp → Bool) (v : AV) : Bool := bkK (getH h b) (stGo h b o v c)
def optHK (o : Option Hp) (c : Hp → Bool) : Bool := @Option.rec.{1,0} Hp (fun _ => (Hp → Bool) → Bool) (fun _ => false) (fun a c => c a) o c
def stMany1 (h : Hp) (b o n : Nat) (c : Hp → Bool) (l : List AV) : Bool := optHK (stSz h b o l n) c
def stP1 (h : Hp) (c : Hp → Bool) (v : AV) (b o : Nat) : Bool := cellsFK v v (stMany1 h b o 1 c) (stOne1 h b o c)
def stP0 (h : Hp) (c : Hp → Bool) (p v : AV) : Bool := ptrK p (stP1 h c v)
def stX (y : Cv) (fr : Fm) (h : Hp) (c : Hp → Bool) (p : AV) : Bool := y.g fr (stP0 h c p)
def stF (x y : Cv) : Hk := fun fr h c => x.g fr (stX y fr h c)
def stC (P : Program) (t : TypeId) (a x : Operand) : Option Hk := match sizeT P t with
  | some 1 => some (stF (cvO a) (cvO x))
  | _ => none
def stV (fin : Fin) (sz : Nat) (fr : Fm) (ds : List Nat) (nx : Nat) (k : St → Bool) (h : Hp) : Bool := fin.go sz fr ds k ⟨un, h, nx⟩
def mkStore (hk : Hk) (dst : Option Tmp) : Cop := ⟨fun _ sz σ k => @St.rec.{1} (fun _ => Hk → Fin → Nat → (St → Bool) → Bool) (fun fr ds h nx hk fin sz k => hk fr h (stV fin sz fr ds nx k)) σ hk (finB dst) sz k⟩
/-! calls -/
structure Rk where
  go : Fm → Hp → KA → Bool
def rk0 : Rk := ⟨fun _ _ c => c un⟩
def rk1 (p : Pa) : Rk := ⟨fun fr _ c => c (getP p fr un)⟩
def rk2 (p q : Pa) : Rk := ⟨fun fr _ c => c (.tup [getP p fr un, getP q fr un])⟩
def rkG (P : Program) (l : List ResultVar) : Rk := ⟨fun fr h c => ((resA P fr h l).map fun vs => c (resV vs)).getD false⟩
def rkO (P : Program) (l : List ResultVar) : Rk := match l with
  | [] => rk0
  | [.tmp t] => rk1 (pathOf t)
  | [.tmp t, .tmp u] => rk2 (pathOf t) (pathOf u)
  | l => rkG P l
def lvV (k : Rs → Bool) (h : Hp) (nx : Nat) (v : AV) : Bool := k ⟨v, h, nx⟩
def lvH (rk : Rk) (fr : Fm) (nx : Nat) (k : Rs → Bool) (h : Hp) : Bool := rk.go fr h (lvV k h nx)
def lvS (rk : Rk) (k : Rs → Bool) (σ : St) : Bool := @St.rec.{1} (fun _ => Rk → (Rs → Bool) → Bool) (fun fr ds h nx rk k => @List.rec.{1,0} Nat (fun _ => List Nat → Rk → Fm → Hp → Nat → (Rs → Bool) → Bool) (fun _ rk fr h nx k => lvH rk fr nx k h) (fun _ _ _ ds rk fr h nx k => optHK (takeDs ds h) (lvH rk fr nx k)) ds ds rk fr h nx k) σ rk k
def lvX (rk : Rk) (k : Rs → Bool) (x : X) : St → Bool := @X.rec.{1} (fun _ => Rk → (Rs → Bool) → St → Bool) (fun rk k => lvS rk k) (fun rk k => lvS rk k) (fun _ _ _ _ => false) (fun _ _ _ _ => false) x rk k
structure En where
  go : Self → List AV → Hp → Nat → (Rs → Bool) → Bool
def enNo : En := ⟨fun _ _ _ _ _ => false⟩
def enG (nt : Nat) (c : Code) (rk : Rk) : En := ⟨fun self args h nx k => bK (Nat.ble (lenL args) nt) (self (.code c) ⟨nt, none⟩ ⟨tree0 args 0 .nil, [], h, nx⟩ (lvX rk k))⟩
def enB (P : Program) (fn : Func) (b : Option Code) : En := match b with
  | none => enNo
  | some c => enG fn.ntmps c (rkO P fn.results.toList)
def enO (P : Program) (fn : Option Func) : En := match fn with
  | none => enNo
  | some fn => enB P fn fn.body
abbrev Pm := List AV → Hp → Nat → Option (List Rs)
def callG (g : Pm) (e : En) : En := ⟨fun self args h nx k => @Option.rec.{1,0} (List Rs) (fun _ => En → Self → List AV → Hp → Nat → (Rs → Bool) → Bool) (fun e self args h nx k => e.go self args h nx k) (fun rs _ _ _ _ _ k => tookL k rs) (g args h nx) e self args h nx k⟩
def cfO (P : Program) (prim : Prim) (f : FuncId) : En := callG (prim f) (enO P P.funcs[f]?)
def cl1 (e : En) (fin : Fin) (self : Self) (sz : Nat) (fr : Fm) (ds : List Nat) (h : Hp) (nx : Nat) (k : St → Bool) (vs : List AV) : Bool := e.go self vs h nx (fin.go sz fr ds k)
def clS (a : Ca) (e : En) (fin : Fin) (self : Self) (sz : Nat) (k : St → Bool) (σ : St) : Bool := @St.rec.{1} (fun _ => Ca → En → Fin → Self → Nat → (St → Bool) → Bool) (fun fr ds h nx a e fin self sz k => a.g fr (cl1 e fin self sz fr ds h nx k)) σ a e fin self sz k
def mkCall (a : Ca) (e : En) (fin : Fin) : Cop := ⟨fun self sz σ k => clS a e fin self sz k σ⟩
/-! a function value called -/
def cvFn (P : Program) (prim : Prim) (self : Self) (args : List AV) (h : Hp) (nx : Nat) (k : Rs → Bool) (f : Fn) (first cap : List AV) : Bool := @Fn.rec.{1} (fun _ => Program → Prim → Self → List AV → List AV → List AV → Hp → Nat → (Rs → Bool) → Bool)
  (fun f P prim self first cap args h nx k => (cfO P prim f).go self (cat first (cat args cap)) h nx k) (fun _ _ _ _ _ _ _ _ _ _ => false) (fun _ _ _ _ _ _ _ _ _ _ _ => false) (fun _ _ _ _ _ _ _ _ _ _ _ _ _ => false) (fun _ _ _ _ _ _ _ _ _ _ => false) f P prim self first cap args h nx k
def cvApp (P : Program) (prim : Prim) (self : Self) (args : List AV) (h : Hp) (nx : Nat) (k : Rs → Bool) (f : AV) : Bool := fnK f (cvFn P prim self args h nx k) (roundK self args h nx k)
def cw1 (P : Program) (prim : Prim) (x : Cv) (fin : Fin) (self : Self) (sz : Nat) (fr : Fm) (ds : List Nat) (h : Hp) (nx : Nat) (k : St → Bool) (vs : List AV) : Bool := x.g fr (cvApp P prim self vs h nx (fin.go sz fr ds k))
def cwS (P : Program) (prim : Prim) (a : Ca) (x : Cv) (fin : Fin) (self : Self) (sz : Nat) (k : St → Bool) (σ : St) : Bool := @St.rec.{1} (fun _ => Program → Prim → Ca → Cv → Fin → Self → Nat → (St → Bool) → Bool) (fun fr ds h nx P prim a x fin self sz k => a.g fr (cw1 P prim x fin self sz fr ds h nx k)) σ P prim a x fin self sz k
def mkCallV (P : Program) (prim : Prim) (a : Ca) (x : Cv) (fin : Fin) : Cop := ⟨fun self sz σ k => cwS P prim a x fin self sz k σ⟩
def mkCallX (P : Program) (prim : Prim) (a : Ca) (x : Operand) (fin : Fin) : Cop := match x with
  | .func f => mkCall a (cfO P prim f) fin
  | x => mkCallV P prim a (cvO x) fin
def bobB (b : Builtin) (P : Program) (c : Call) : Ob := ⟨oBuiltin b c.args c.argTypes P⟩
def copC (P : Program) (prim : Prim) (c : Call) (dst : Option Tmp) : Cop := match c.callee with
  | .value x => mkCallX P prim (caL c.args.toList) x (finB dst)
  | .invoke _ _ => ⟨fun self sz σ k => callC P prim self c sz dst σ k⟩
  | .builtin b => mkGen (bobB b P c) dst
def copH (P : Program) (o : Op) (dst : Option Tmp) : Cop := match o with
  | .store t a x => (match stC P t a x with
    | some hk => mkStore hk dst
    | none => mkGen (opB P o) dst)
  | o => mkGen (opB P o) dst
def copN (P : Program) (prim : Prim) (o : Op) (dst : Option Tmp) (c : Option Call) : Cop := match c with
  | some c => copC P prim c dst
  | none => copH P o dst
def copQ (P : Program) (prim : Prim) (o : Op) (dst : Option Tmp) (pk : Option Pk) : Cop := match pk with
  | some pk => mkPure pk dst
  | none => copN P prim o dst (isCall o)
def copU (P : Program) (prim : Prim) (o : Op) (dst : Option Tmp) : Cop := copQ P prim o dst (copP P o)
def skPk : Pk := fun _ _ c => c un
end
noncomputable section
/-! guards -/
def eqbF (w b : Bool) : Bool := @Bool.rec.{1} (fun _ => Bool) (notF w) w b
def yieldF (w : Bool) (v : AV) : Bool := boolK v (eqbF w)
def guardS (p : Pa) (w : Bool) (c s : Cop) : OpG := fun self sz σ k => @Bool.rec.{1} (fun _ => Bool) (s.go self sz σ k) (c.go self sz σ k) (yieldF w (getP p σ.fr un))
def guardD (w : Bool) (c s : Cop) (d : Option Tmp) : Cop := match d with
  | none => s
  | some d => ⟨guardS (pathOf d) w c s⟩
def copG (ops : Array Oper) (g : Option (Nat × Bool)) (c s : Cop) : Cop := match g with
  | none => c
  | some g => guardD g.2 c s ((ops[g.1]?).bind (·.dst))
def copO (P : Program) (prim : Prim) (ops : Array Oper) (o : Oper) : Cop := copG ops o.guard (copU P prim o.op o.dst) (mkPure skPk o.dst)
end
/-! ### They are the executor's -/
theorem optHK_eq (o : Option Hp) (c : Hp → Bool) : optHK o c = (o.map c).getD false := by cases o <;> rfl
theorem finB_eq (dst : Option Tmp) (sz : Nat) (fr : Fm) (ds : List Nat) (h : Hp) (nx : Nat) (k : St → Bool) : (finB dst).go sz fr ds k = fin sz ⟨fr, ds, h, nx⟩ dst k := by
  funext r
  obtain ⟨v, h', nx'⟩ := r
  cases dst with
  | none => exact fzF_eq v _
  | some d =>
    show bK (Nat.blt d sz) (fzF v (k ⟨setP (pathOf d) fr v un, ds, h', nx'⟩)) = contO k v (bif Nat.blt d sz then some ⟨fr.set un d v, ds, h', nx'⟩ else none)
    rw [bK_eq, set_path, fzF_eq]
    cases Nat.blt d sz <;> rfl
theorem mkGen_eq (f : Ob) (dst : Option Tmp) (self : Self) (sz : Nat) (σ : St) (k : St → Bool) : (mkGen f dst).go self sz σ k = finO sz σ dst k (f.f σ.fr σ.h σ.nx) := by
  obtain ⟨fr, ds, h, nx⟩ := σ
  show optRK (f.f fr h nx) ((finB dst).go sz fr ds k) = finO sz ⟨fr, ds, h, nx⟩ dst k (f.f fr h nx)
  rw [finB_eq dst sz fr ds h nx k]
  cases f.f fr h nx <;> rfl
theorem mkPure_eq {P : Program} {o : Op} {pk : Pk} (hp : PkOk P o pk) (dst : Option Tmp) (self : Self) (sz : Nat) (σ : St) (k : St → Bool) : (mkPure pk dst).go self sz σ k = finO sz σ dst k (opA o P σ.fr σ.h σ.nx) := by
  obtain ⟨fr, ds, h, nx⟩ := σ
  obtain ⟨f, h1, h2⟩ := hp
  show _ = finO sz ⟨fr, ds, h, nx⟩ dst k (opA o P fr h nx)
  rw [h2]
  cases dst with
  | none =>
    show pk fr h (pureW fr ds h nx k) = _
    rw [h1]
    cases f fr h with
    | none => rfl
    | some v => exact fzF_eq v _
  | some d =>
    show bK (Nat.blt d sz) (pk fr h (pureV (pathOf d) fr ds h nx k)) = _
    rw [h1, bK_eq]
    cases f fr h with
    | none => cases Nat.blt d sz <;> rfl
    | some v =>
      show (bif Nat.blt d sz then fzF v (k ⟨setP (pathOf d) fr v un, ds, h, nx⟩) else false) = contO k v (bif Nat.blt d sz then some ⟨fr.set un d v, ds, h, nx⟩ else none)
      rw [set_path, fzF_eq]
      cases Nat.blt d sz <;> rfl
theorem opB_eq (P : Program) (o : Op) : (opB P o).f = opA o P := by cases o <;> rfl
theorem skip_eq (dst : Option Tmp) (self : Self) (sz : Nat) (σ : St) (k : St → Bool) : (mkPure skPk dst).go self sz σ k = skipK σ sz dst k := by
  obtain ⟨fr, ds, h, nx⟩ := σ
  cases dst with
  | none => exact fzF_eq un _
  | some d =>
    show bK (Nat.blt d sz) (fzF un (k ⟨setP (pathOf d) fr un un, ds, h, nx⟩)) = contO k un (bif Nat.blt d sz then some ⟨fr.set un d un, ds, h, nx⟩ else none)
    rw [set_path, fzF_eq, bK_eq]
    cases Nat.blt d sz <;> rfl
theorem stMay_eq (o : Nat) (k : Bk) : stMay o k = k.mayPut o 1 := by
  obtain ⟨t, d, n, e, ro, fx, st, anc, bnd, fz⟩ := k
  show bK (notF ro) (bK (notF st) (bK (Nat.ble (Nat.succ o) n) (Nat.ble fz o))) = ((!ro) && (!st) && Nat.ble (Nat.add o 1) n && Nat.ble fz o)
  cases ro <;> cases st <;> first | rfl | skip
  show bK true (bK true (bK (Nat.ble (o + 1) n) (Nat.ble fz o))) = (true && true && Nat.ble (o + 1) n && Nat.ble fz o)
  rw [bK_eq, bK_eq, bK_eq]
  cases Nat.ble (o + 1) n <;> rfl
theorem stOne_eq (h : Hp) (b o : Nat) (c : Hp → Bool) (v : AV) (hv : oneA v = true) : stOne1 h b o c v = ((storeN h b o [v]).map c).getD false := by
  show bkK (getH h b) (stGo h b o v c) = (((getBk h b).bind (putOpt h b o [v])).map c).getD false
  rw [bkK_eq, getH_eq]
  unfold getBk
  cases bkO (h.get .dead b) with
  | none => rfl
  | some k =>
    show bK (stMay o k) (stAnc h b o v c k) = ((bif [v].all oneA && k.mayPut o (lenL [v]) then some (putIn h b o [v] k) else none).map c).getD false
    have e1 : [v].all oneA = true := by simp [hv]
    rw [bK_eq, stMay_eq, e1, show lenL [v] = 1 from rfl, Bool.true_and]
    cases k.mayPut o 1 with
    | false => rfl
    | true =>
      show stAnc h b o v c k = c (putIn h b o [v] k)
      obtain ⟨t, d, n, e, ro, fx, st, anc, bnd, fz⟩ := k
      cases anc with
      | nil =>
        show c (setH h b (.cells ⟨setP (pathOf o) t v d, d, n, e, ro, fx, st, [], bnd, fz⟩)) = c (setBk h b ⟨treeOf d [v] o t, d, n, e, ro, fx, st, [], bnd, fz⟩)
        rw [setH_eq, set_path]; rfl
      | cons a l => rfl
theorem stC_eq (P : Program) (t : TypeId) (a x : Operand) {hk : Hk} (hs : stC P t a x = some hk) (fr : Fm) (h : Hp) (nx : Nat) (c : Hp → Bool) : hk fr h c = ((oStore t a x P fr h nx).map fun r => c r.h).getD false := by
  unfold stC at hs
  cases hn : sizeT P t with
  | none => rw [hn] at hs; cases hs
  | some n =>
    rw [hn] at hs
    obtain rfl : n = 1 := by
      match n, hs with
      | 1, _ => rfl
    cases hs
    show (cvO a).g fr (stX (cvO x) fr h c) = ((((evA fr a).bind asP).bind fun p => (evA fr x).bind fun v => (storeV P h t p.b p.o v).map (ph nx)).map fun r => c r.h).getD false
    rw [cvO_eq]
    cases evA fr a with
    | none => rfl
    | some p =>
      show (cvO x).g fr (stP0 h c p) = (((asP p).bind fun p => (evA fr x).bind fun v => (storeV P h t p.b p.o v).map (ph nx)).map fun r => c r.h).getD false
      rw [cvO_eq]
      cases evA fr x with
      | none => cases asP p <;> rfl
      | some v =>
        show ptrK p (stP1 h c v) = _
        rw [ptrK_eq]
        cases asP p with
        | none => rfl
        | some p =>
          show cellsFK v v (stMany1 h p.b p.o 1 c) (stOne1 h p.b p.o c) = ((((sizeT P t).bind (stSz h p.b p.o v.cells)).map (ph nx)).map fun r => c r.h).getD false
          rw [hn]
          show _ = (((stSz h p.b p.o v.cells 1).map (ph nx)).map fun r => c r.h).getD false
          have e : (((stSz h p.b p.o v.cells 1).map (ph nx)).map fun r => c r.h).getD false = ((stSz h p.b p.o v.cells 1).map c).getD false := by
            cases stSz h p.b p.o v.cells 1 <;> rfl
          rw [e]
          cases v <;> first
            | exact stOne_eq h p.b p.o c _ rfl
            | exact optHK_eq _ _
theorem mkStore_eq (P : Program) (t : TypeId) (a x : Operand) {hk : Hk} (hs : stC P t a x = some hk) (dst : Option Tmp) (self : Self) (sz : Nat) (σ : St) (k : St → Bool) : (mkStore hk dst).go self sz σ k = finO sz σ dst k (opA (.store t a x) P σ.fr σ.h σ.nx) := by
  obtain ⟨fr, ds, h, nx⟩ := σ
  show hk fr h (stV (finB dst) sz fr ds nx k) = finO sz ⟨fr, ds, h, nx⟩ dst k (oStore t a x P fr h nx)
  rw [stC_eq P t a x hs fr h nx]
  have e : ∀ (o : Option (At × AV)), True := fun _ => trivial
  show ((oStore t a x P fr h nx).map fun r => (finB dst).go sz fr ds k ⟨un, r.h, nx⟩).getD false = _
  rw [finB_eq dst sz fr ds h nx k]
  have hr : ∀ r, oStore t a x P fr h nx = some r → r = ⟨un, r.h, nx⟩ := by
    intro r hr
    have hr : ((evA fr a).bind asP).bind (fun p => (evA fr x).bind fun v => (storeV P h t p.b p.o v).map (ph nx)) = some r := hr
    cases h1 : (evA fr a).bind asP with
    | none => rw [h1] at hr; cases hr
    | some p =>
      rw [h1] at hr
      have hr : (evA fr x).bind (fun v => (storeV P h t p.b p.o v).map (ph nx)) = some r := hr
      cases h2 : evA fr x with
      | none => rw [h2] at hr; cases hr
      | some v =>
        rw [h2] at hr
        have hr : (storeV P h t p.b p.o v).map (ph nx) = some r := hr
        cases h3 : storeV P h t p.b p.o v with
        | none => rw [h3] at hr; cases hr
        | some h' => rw [h3] at hr; cases hr; rfl
  cases ho : oStore t a x P fr h nx with
  | none => rfl
  | some r =>
    show fin sz ⟨fr, ds, h, nx⟩ dst k ⟨un, r.h, nx⟩ = fin sz ⟨fr, ds, h, nx⟩ dst k r
    rw [← hr r ho]
theorem rkO_eq (P : Program) (l : List ResultVar) (fr : Fm) (h : Hp) (c : KA) : (rkO P l).go fr h c = ((resA P fr h l).map fun vs => c (resV vs)).getD false := by
  unfold rkO
  split
  · rfl
  · rename_i t
    show c (getP (pathOf t) fr un) = c (fr.get un t)
    rw [get_path]
  · rename_i t u
    show c (.tup [getP (pathOf t) fr un, getP (pathOf u) fr un]) = c (.tup [fr.get un t, fr.get un u])
    rw [get_path, get_path]
  · rfl
theorem lvS_eq (P : Program) (fn : Func) (k : Rs → Bool) (σ : St) : lvS (rkO P fn.results.toList) k σ = leave P fn k σ := by
  obtain ⟨fr, ds, h, nx⟩ := σ
  have e : ∀ h', lvH (rkO P fn.results.toList) fr nx k h' = leaveH P fn k ⟨fr, ds, h, nx⟩ h' := fun h' => rkO_eq P _ fr h' _
  cases ds with
  | nil => exact e h
  | cons d ds =>
    show optHK (takeDs (d :: ds) h) (lvH (rkO P fn.results.toList) fr nx k) = ((takeDs (d :: ds) h).map (leaveH P fn k ⟨fr, d :: ds, h, nx⟩)).getD false
    rw [optHK_eq]
    cases takeDs (d :: ds) h with
    | none => rfl
    | some h' => exact e h'
theorem lvX_eq (P : Program) (fn : Func) (k : Rs → Bool) : lvX (rkO P fn.results.toList) k = leaveX P fn k := by
  funext x
  cases x with
  | nm => funext σ; exact lvS_eq P fn k σ
  | ret => funext σ; exact lvS_eq P fn k σ
  | ex i => rfl
  | gt l => rfl
theorem enO_eq (P : Program) (fn : Option Func) (self : Self) (args : List AV) (h : Hp) (nx : Nat) (k : Rs → Bool) : (enO P fn).go self args h nx k = enterO P self args h nx k fn := by
  cases fn with
  | none => rfl
  | some fn =>
    show (enB P fn fn.body).go self args h nx k = enterF P self args h nx k fn
    unfold enterF
    cases fn.body with
    | none => rfl
    | some c =>
      show bK (Nat.ble (lenL args) fn.ntmps) (self (.code c) ⟨fn.ntmps, none⟩ ⟨tree0 args 0 .nil, [], h, nx⟩ (lvX (rkO P fn.results.toList) k)) = enter P self args h nx k fn c
      rw [bK_eq, tree0_eq, lvX_eq]; rfl
theorem cfO_eq (P : Program) (prim : Prim) (f : FuncId) (self : Self) (args : List AV) (h : Hp) (nx : Nat) (k : Rs → Bool) : (cfO P prim f).go self args h nx k = callK P prim self f args h nx k := by
  show @Option.rec.{1,0} (List Rs) (fun _ => En → Self → List AV → Hp → Nat → (Rs → Bool) → Bool) (fun e self args h nx k => e.go self args h nx k) (fun rs _ _ _ _ _ k => tookL k rs) (prim f args h nx) (enO P P.funcs[f]?) self args h nx k = callK P prim self f args h nx k
  unfold callK
  cases prim f args h nx with
  | none => exact enO_eq P _ self args h nx k
  | some rs => rfl
theorem cvApp_eq (P : Program) (prim : Prim) (self : Self) (args : List AV) (h : Hp) (nx : Nat) (k : Rs → Bool) (f : AV) : cvApp P prim self args h nx k f = applyK P prim self args h nx k f := by
  cases f <;> first | rfl | skip
  rename_i f first cap
  cases f <;> first | rfl | exact cfO_eq P prim _ self _ h nx k
theorem callC_eq (P : Program) (prim : Prim) (c : Call) (dst : Option Tmp) (self : Self) (sz : Nat) (σ : St) (k : St → Bool) : (copC P prim c dst).go self sz σ k = callC P prim self c sz dst σ k := by
  obtain ⟨ce, args, ts⟩ := c
  obtain ⟨fr, ds, h, nx⟩ := σ
  cases ce with
  | invoke r n => rfl
  | builtin b =>
    show (mkGen (bobB b P ⟨.builtin b, args, ts⟩) dst).go self sz ⟨fr, ds, h, nx⟩ k = ((evL fr args.toList).map fun vs => finO sz ⟨fr, ds, h, nx⟩ dst k (opA (.call ⟨.builtin b, args, ts⟩) P fr h nx)).getD false
    rw [mkGen_eq]
    show finO sz ⟨fr, ds, h, nx⟩ dst k (oBuiltin b args ts P fr h nx) = _
    show _ = ((evL fr args.toList).map fun vs => finO sz ⟨fr, ds, h, nx⟩ dst k (oBuiltin b args ts P fr h nx)).getD false
    unfold oBuiltin
    cases evL fr args.toList <;> rfl
  | value x =>
    have gen : (mkCallV P prim (caL args.toList) (cvO x) (finB dst)).go self sz ⟨fr, ds, h, nx⟩ k = callC P prim self ⟨.value x, args, ts⟩ sz dst ⟨fr, ds, h, nx⟩ k := by
      show (caL args.toList).g fr (cw1 P prim (cvO x) (finB dst) self sz fr ds h nx k) = ((evL fr args.toList).map (callWith P prim self (.value x) (.call ⟨.value x, args, ts⟩) sz dst ⟨fr, ds, h, nx⟩ k)).getD false
      rw [caL_eq]
      cases evL fr args.toList with
      | none => rfl
      | some vs =>
        show (cvO x).g fr (cvApp P prim self vs h nx ((finB dst).go sz fr ds k)) = callVal P prim self vs ⟨fr, ds, h, nx⟩ (fin sz ⟨fr, ds, h, nx⟩ dst k) (evA fr x)
        rw [cvO_eq, finB_eq dst sz fr ds h nx k]
        cases evA fr x with
        | none => rfl
        | some f => exact cvApp_eq P prim self vs h nx _ f
    cases x <;> first | exact gen | skip
    rename_i f
    show (caL args.toList).g fr (cl1 (cfO P prim f) (finB dst) self sz fr ds h nx k) = ((evL fr args.toList).map (callWith P prim self (.value (.func f)) (.call ⟨.value (.func f), args, ts⟩) sz dst ⟨fr, ds, h, nx⟩ k)).getD false
    rw [caL_eq]
    cases evL fr args.toList with
    | none => rfl
    | some vs =>
      show (cfO P prim f).go self vs h nx ((finB dst).go sz fr ds k) = callK P prim self f (cat [] (cat vs [])) h nx (fin sz ⟨fr, ds, h, nx⟩ dst k)
      rw [cfO_eq, finB_eq dst sz fr ds h nx k, cat_eq, cat_eq, List.nil_append, List.append_nil]
theorem copU_eq (P : Program) (prim : Prim) (o : Oper) (self : Self) (sz : Nat) (σ : St) (k : St → Bool) : (copU P prim o.op o.dst).go self sz σ k = operK P prim self o sz σ k := by
  obtain ⟨dst, op, ty, ps, af, gd⟩ := o
  show (copQ P prim op dst (copP P op)).go self sz σ k = _
  have hcall : ∀ c, isCall op = some c → op = .call c := by
    intro c hc
    cases op <;> first | (cases hc; done) | skip
    cases hc; rfl
  cases hp : copP P op with
  | some pk =>
    show (mkPure pk dst).go self sz σ k = _
    rw [mkPure_eq (copP_ok P op hp)]
    unfold operK
    cases hc : isCall op with
    | none => rfl
    | some c =>
      show _ = callC P prim self c sz dst σ k
      obtain rfl := hcall c hc
      have hb : ∃ b, c.callee = .builtin b := by
        obtain ⟨ce, args, ts⟩ := c
        have hp : lnC P ⟨ce, args, ts⟩ = some pk := hp
        cases ce with
        | builtin b => exact ⟨b, rfl⟩
        | value x => cases hp
        | invoke x n => cases hp
      obtain ⟨b, hb⟩ := hb
      rw [← callC_eq]
      unfold copC
      rw [hb]
      show _ = (mkGen (bobB b P c) dst).go self sz σ k
      rw [mkGen_eq]
      show finO sz σ dst k (oCallee c.callee c.args c.argTypes P σ.fr σ.h σ.nx) = _
      rw [hb]; rfl
  | none =>
    show (copN P prim op dst (isCall op)).go self sz σ k = (match isCall op with | some c => callC P prim self c sz dst σ k | none => finO sz σ dst k (opA op P σ.fr σ.h σ.nx))
    cases hc : isCall op with
    | some c => exact callC_eq P prim c dst self sz σ k
    | none =>
      show (copH P op dst).go self sz σ k = finO sz σ dst k (opA op P σ.fr σ.h σ.nx)
      have gen : (mkGen (opB P op) dst).go self sz σ k = finO sz σ dst k (opA op P σ.fr σ.h σ.nx) := by rw [mkGen_eq, opB_eq]
      cases op <;> first | exact gen | skip
      rename_i t a x
      show (match stC P t a x with | some hk => mkStore hk dst | none => mkGen (opB P (.store t a x)) dst).go self sz σ k = _
      cases hs : stC P t a x with
      | none => exact gen
      | some hk => exact mkStore_eq P t a x hs dst self sz σ k
theorem eqbF_eq (w b : Bool) : eqbF w b = (b == w) := by cases w <;> cases b <;> rfl
theorem yieldF_eq (w : Bool) (v : AV) : yieldF w v = yieldA w v := by cases v <;> first | rfl | exact eqbF_eq _ _
theorem copO_eq (P : Program) (prim : Prim) (ops : Array Oper) (o : Oper) (self : Self) (sz : Nat) (σ : St) (k : St → Bool) : (copO P prim ops o).go self sz σ k = ops1 P prim self ops sz o σ k := by
  show (copG ops o.guard (copU P prim o.op o.dst) (mkPure skPk o.dst)).go self sz σ k = (bif wantA ops o σ.fr then operK P prim self o sz σ k else skipK σ sz o.dst k)
  unfold wantA
  cases o.guard with
  | none => exact copU_eq P prim o self sz σ k
  | some g =>
    show (guardD g.2 (copU P prim o.op o.dst) (mkPure skPk o.dst) ((ops[g.1]?).bind (·.dst))).go self sz σ k = (bif wantAt ops σ.fr g then operK P prim self o sz σ k else skipK σ sz o.dst k)
    unfold wantAt
    cases (ops[g.1]?).bind (·.dst) with
    | none => exact skip_eq o.dst self sz σ k
    | some d =>
      show @Bool.rec.{1} (fun _ => Bool) ((mkPure skPk o.dst).go self sz σ k) ((copU P prim o.op o.dst).go self sz σ k) (yieldF g.2 (getP (pathOf d) σ.fr un)) = (bif yieldA g.2 (σ.fr.get un d) then operK P prim self o sz σ k else skipK σ sz o.dst k)
      rw [yieldF_eq, get_path, skip_eq, copU_eq]
      cases yieldA g.2 (σ.fr.get un d) <;> rfl
end Ex
end Go.Proofs.YtajoljoegbeiiaaGreatDoor

namespace Go.Proofs.YtajoljoegbeiiaaGreatDoor
set_option linter.all false
namespace Ex
open Go.RowKit
noncomputable section
/-- An operation that is left: what it waits for, what it sets, what it looks at. -/
structure Rm where
  i : Nat
  o : Oper
  d : List Nat
  ds : Option Nat
  lk : List Nat
def elN (i : Nat) (l : List Nat) : Bool := @List.rec.{1,0} Nat (fun _ => Nat → Bool) (fun _ => false) (fun x _ ih i => @Bool.rec.{1} (fun _ => Bool) (ih i) true (Nat.beq x i)) l i
def rmN (i : Nat) (l : List Nat) : List Nat := @List.rec.{1,0} Nat (fun _ => Nat → List Nat) (fun _ => []) (fun x _ ih i => @Bool.rec.{1} (fun _ => List Nat) (x :: ih i) (ih i) (Nat.beq x i)) l i
def filR (p : Rm → Bool) (l : List Rm) : List Rm := @List.rec.{1,0} Rm (fun _ => List Rm) [] (fun x _ ih => @Bool.rec.{1} (fun _ => List Rm) ih (x :: ih) (p x)) l
def allR (p : Rm → Bool) (l : List Rm) : Bool := @List.rec.{1,0} Rm (fun _ => Bool) true (fun x _ ih => @Bool.rec.{1} (fun _ => Bool) false ih (p x)) l
def findR (p : Rm → Bool) (l : List Rm) : Option Rm := @List.rec.{1,0} Rm (fun _ => Option Rm) none (fun x _ ih => @Bool.rec.{1} (fun _ => Option Rm) ih (some x) (p x)) l
def mapR (f : Rm → Rm) (l : List Rm) : List Rm := @List.rec.{1,0} Rm (fun _ => List Rm) [] (fun x _ ih => f x :: ih) l
def mapO (l : List Rm) : List Oper := @List.rec.{1,0} Rm (fun _ => List Oper) [] (fun x _ ih => x.o :: ih) l
def depsF (l : List Edge) : List Nat := @List.rec.{1,0} Edge (fun _ => List Nat) [] (fun e _ ih => @Bool.rec.{1} (fun _ => List Nat) ih (e.on :: ih) (Region.binds .any e)) l
def remS (ops : Array Oper) (l : List Oper) : Nat → List Rm := @List.rec.{1,0} Oper (fun _ => Nat → List Rm) (fun _ => []) (fun o _ ih i => ⟨i, o, depsF o.after.toList, o.dst, o.looksAt ops⟩ :: ih (Nat.succ i)) l
def isNilN (l : List Nat) : Bool := @List.rec.{1,0} Nat (fun _ => Bool) true (fun _ _ _ => false) l
def rdyF (rem : List Rm) : List Rm := filR (fun r => isNilN r.d) rem
def orB (a b : Bool) : Bool := @Bool.rec.{1} (fun _ => Bool) b true a
def optEl (d : Option Nat) (l : List Nat) : Bool := @Option.rec.{1,0} Nat (fun _ => List Nat → Bool) (fun _ => false) (fun d l => elN d l) d l
def optEq (d : Nat) (e : Option Nat) : Bool := @Option.rec.{1,0} Nat (fun _ => Nat → Bool) (fun _ => false) (fun e d => Nat.beq e d) e d
def optSame (d e : Option Nat) : Bool := @Option.rec.{1,0} Nat (fun _ => Option Nat → Bool) (fun _ => false) (fun d e => optEq d e) d e
def apartF (x y : Rm) : Bool := bK (notF (optEl x.ds y.lk)) (bK (notF (optSame x.ds y.ds)) (notF (optEl y.ds x.lk)))
def free1 (r x : Rm) : Bool := orB (Nat.beq x.i r.i) (orB (elN r.i x.d) (apartF r x))
def freeF (rem : List Rm) (r : Rm) : Bool := allR (free1 r) rem
def flOkF (P : Program) (rem : List Rm) (r : Rm) : Bool := bK (floatO P r.o.op) (freeF rem r)
def alOkF (rem : List Rm) (r : Rm) : Bool := bK (newOp r.o.op) (bK (freeF rem r) r.o.guard.isNone)
def sep2 (cs : List Rm) (x p : Rm) : Bool := orB (notF (elN p.i x.d)) (allR (fun c => elN c.i x.d) cs)
def sepOkF (rem ps cs : List Rm) : Bool := allR (fun x => allR (sep2 cs x) ps) rem
def dropD (i : Nat) (r : Rm) : Rm := ⟨r.i, r.o, rmN i r.d, r.ds, r.lk⟩
def stepR (i : Nat) (rem : List Rm) : List Rm := mapR (dropD i) (filR (fun r => notF (Nat.beq r.i i)) rem)
def plF (P : Program) : Nat → List Rm → Option Plan
  | 0, rem => (match rdyF rem with | [] => some .done | _ => none)
  | n + 1, rem => match rdyF rem with
    | [] => some .done
    | rs => match findR (flOkF P rem) rs with
      | some r => mkFl r.i (some r.o) (plF P n (stepR r.i rem))
      | none => match filR (fun r => notF (alOkF rem r)) rs with
        | [r] => bif sepOkF rem (filR (alOkF rem) rs) [r] then mkEf r.i (some r.o) (mapO (filR (alOkF rem) rs)) (plF P n (stepR r.i rem)) else none
        | [] => (match rs with
          | [] => none
          | r :: t => bif sepOkF rem (r :: t) (r :: t) then mkAl r.i (some r.o) (mapO (r :: t)) (plF P n (stepR r.i rem)) else none)
        | _ => none
def okOp (o : Op) : Bool := match o with
  | .select _ _ => false
  | .defer _ => false
  | _ => true
def okOps (l : List Oper) : Bool := @List.rec.{1,0} Oper (fun _ => Bool) true (fun o _ ih => @Bool.rec.{1} (fun _ => Bool) false ih (okOp o.op)) l
def planF (P : Program) (ops : Array Oper) : Option Plan := @Bool.rec.{1} (fun _ => Option Plan) none (plF P ops.size (remS ops ops.toList 0)) (okOps ops.toList)
end
/-! ### It is the plan -/
theorem orB_eq (a b : Bool) : orB a b = (a || b) := by cases a <;> rfl
theorem elN_iff {i : Nat} : ∀ {l : List Nat}, elN i l = true ↔ i ∈ l
  | [] => ⟨fun h => (by cases h), fun h => (by cases h)⟩
  | x :: l => by
    show @Bool.rec.{1} (fun _ => Bool) (elN i l) true (Nat.beq x i) = true ↔ _
    rw [List.mem_cons]
    cases hb : Nat.beq x i with
    | true => exact ⟨fun _ => .inl (Nat.eq_of_beq_eq_true hb).symm, fun _ => rfl⟩
    | false =>
      have hn : i ≠ x := fun e => by rw [e] at hb; rw [Nat.beq_refl] at hb; cases hb
      exact ⟨fun h => .inr (elN_iff.1 h), fun h => elN_iff.2 (h.resolve_left hn)⟩
theorem elN_eq (i : Nat) (l : List Nat) : elN i l = l.contains i := by
  rw [Bool.eq_iff_iff, elN_iff, List.contains_iff_mem]
theorem rmN_eq (i : Nat) : ∀ l : List Nat, rmN i l = l.filter (fun x => !Nat.beq x i)
  | [] => rfl
  | x :: l => by
    show @Bool.rec.{1} (fun _ => List Nat) (x :: rmN i l) (rmN i l) (Nat.beq x i) = _
    rw [rmN_eq i l, List.filter_cons]
    cases Nat.beq x i <;> rfl
theorem filR_eq (p : Rm → Bool) : ∀ l, filR p l = l.filter p
  | [] => rfl
  | x :: l => by
    show @Bool.rec.{1} (fun _ => List Rm) (filR p l) (x :: filR p l) (p x) = _
    rw [filR_eq p l, List.filter_cons]
    cases p x <;> rfl
theorem allR_eq (p : Rm → Bool) : ∀ l, allR p l = l.all p
  | [] => rfl
  | x :: l => by
    show @Bool.rec.{1} (fun _ => Bool) false (allR p l) (p x) = _
    rw [allR_eq p l, List.all_cons]
    cases p x <;> rfl
theorem findR_eq (p : Rm → Bool) : ∀ l, findR p l = l.find? p
  | [] => rfl
  | x :: l => by
    show @Bool.rec.{1} (fun _ => Option Rm) (findR p l) (some x) (p x) = _
    rw [findR_eq p l, List.find?_cons]
    cases p x <;> rfl
theorem mapR_eq (f : Rm → Rm) : ∀ l, mapR f l = l.map f
  | [] => rfl
  | x :: l => by show f x :: mapR f l = _; rw [mapR_eq f l]; rfl
theorem mem_depsF {j : Nat} : ∀ {l : List Edge}, j ∈ depsF l ↔ ∃ e ∈ l, Region.binds .any e = true ∧ e.on = j
  | [] => ⟨fun h => (by cases h), fun ⟨_, h, _⟩ => (by cases h)⟩
  | e :: l => by
    show j ∈ @Bool.rec.{1} (fun _ => List Nat) (depsF l) (e.on :: depsF l) (Region.binds .any e) ↔ _
    cases hb : Region.binds .any e with
    | true =>
      rw [show @Bool.rec.{1} (fun _ => List Nat) (depsF l) (e.on :: depsF l) true = e.on :: depsF l from rfl, List.mem_cons, mem_depsF (l := l)]
      constructor
      · rintro (rfl | ⟨x, h1, h2⟩)
        · exact ⟨e, List.mem_cons_self, hb, rfl⟩
        · exact ⟨x, List.mem_cons_of_mem _ h1, h2⟩
      · rintro ⟨x, h1, h2, h3⟩
        rcases List.mem_cons.1 h1 with rfl | h1
        · exact .inl h3.symm
        · exact .inr ⟨x, h1, h2, h3⟩
    | false =>
      rw [show @Bool.rec.{1} (fun _ => List Nat) (depsF l) (e.on :: depsF l) false = depsF l from rfl, mem_depsF (l := l)]
      constructor
      · rintro ⟨x, h1, h2⟩
        exact ⟨x, List.mem_cons_of_mem _ h1, h2⟩
      · rintro ⟨x, h1, h2, h3⟩
        rcases List.mem_cons.1 h1 with rfl | h1
        · rw [hb] at h2; cases h2
        · exact ⟨x, h1, h2, h3⟩
theorem waitsOn_dep {o : Oper} {j : Nat} : waitsOn o j = true ↔ j ∈ depsF o.after.toList := by
  unfold waitsOn
  rw [Array.any_eq_true', mem_depsF]
  constructor
  · rintro ⟨e, h1, h2⟩
    obtain ⟨h2, h3⟩ := Bool.and_eq_true_iff.1 h2
    exact ⟨e, Array.mem_toList_iff.2 h1, h2, Nat.eq_of_beq_eq_true h3⟩
  · rintro ⟨e, h1, h2, rfl⟩
    exact ⟨e, Array.mem_toList_iff.1 h1, by rw [h2, Nat.beq_refl]; rfl⟩
section
variable {P : Program} {ops : Array Oper}
noncomputable def mkRm (ops : Array Oper) (listed : Array Bool) (i : Nat) (o : Oper) : Rm := ⟨i, o, (depsF o.after.toList).filter (fun j => !listed.getD j false), o.dst, o.looksAt ops⟩
noncomputable def rmAt (ops : Array Oper) (listed : Array Bool) (i : Nat) : Option Rm := if listed.getD i true = true then none else (ops[i]?).map (mkRm ops listed i)
noncomputable def remOf (ops : Array Oper) (listed : Array Bool) : List Rm := (List.range ops.size).filterMap (rmAt ops listed)
theorem mem_remOf {listed : Array Bool} {r : Rm} : r ∈ remOf ops listed ↔ r.i < ops.size ∧ listed.getD r.i true = false ∧ ∃ o, ops[r.i]? = some o ∧ r = mkRm ops listed r.i o := by
  unfold remOf
  rw [List.mem_filterMap]
  constructor
  · rintro ⟨i, hi, hr⟩
    unfold rmAt at hr
    split at hr
    · cases hr
    · rename_i hl
      obtain ⟨o, ho, rfl⟩ := Option.map_eq_some_iff.1 hr
      exact ⟨List.mem_range.1 hi, (Bool.not_eq_true _).mp hl, o, ho, rfl⟩
  · rintro ⟨h1, h2, o, h3, h4⟩
    refine ⟨r.i, List.mem_range.2 h1, ?_⟩
    unfold rmAt
    rw [if_neg (by rw [h2]; simp), h3]
    exact congrArg some h4.symm
/-- Two lists of what is left, member by member. -/
theorem filterMap_same {α β : Type} {f g : α → Option β} : ∀ {l : List α}, (∀ x ∈ l, f x = g x) → l.filterMap f = l.filterMap g
  | [], _ => rfl
  | x :: l, h => by
    rw [List.filterMap_cons, List.filterMap_cons, h x List.mem_cons_self, filterMap_same fun y hy => h y (List.mem_cons_of_mem _ hy)]
def onR (f : Rm → Bool) (o : Option Rm) : Bool := match o with | some b => f b | none => true
theorem all_fm {α : Type} (f : α → Option Rm) (p : Rm → Bool) : ∀ l : List α, (l.filterMap f).all p = l.all (fun x => onR p (f x))
  | [] => rfl
  | x :: l => by
    rw [List.filterMap_cons, List.all_cons, ← all_fm f p l]
    cases f x <;> rfl
theorem ready_eq (listed : Array Bool) : Region.ready .any ops listed = (rdyF (remOf ops listed)).map (·.i) := by
  unfold rdyF remOf Region.ready
  rw [filR_eq, List.filter_filterMap, List.map_filterMap, ← List.filterMap_eq_filter]
  refine filterMap_same fun i hi => ?_
  have hi := List.mem_range.1 hi
  have hG : ∀ (p : Nat → Bool), Option.guard (fun x => p x) i = bif p i then some i else none := fun p => by
    unfold Option.guard
    dsimp only
    by_cases h : p i = true
    · rw [if_pos h, h]; rfl
    · rw [if_neg h, (Bool.not_eq_true _).mp h]; rfl
  rw [hG]
  unfold rmAt
  rw [Array.getElem?_eq_getElem hi]
  cases hl : listed.getD i true with
  | true => rfl
  | false =>
    have key : (ops[i].after.all fun e => !Region.binds .any e || listed.getD e.on false) = isNilN (mkRm ops listed i ops[i]).d := by
      rw [Bool.eq_iff_iff, Array.all_eq_true']
      have e1 : isNilN (mkRm ops listed i ops[i]).d = true ↔ (mkRm ops listed i ops[i]).d = [] := by
        cases (mkRm ops listed i ops[i]).d with
        | nil => exact ⟨fun _ => rfl, fun _ => rfl⟩
        | cons => exact ⟨fun h => (by cases h), fun h => (by cases h)⟩
      rw [e1]
      show _ ↔ (depsF ops[i].after.toList).filter (fun j => !listed.getD j false) = []
      rw [List.filter_eq_nil_iff]
      constructor
      · intro h j hj
        obtain ⟨e, he, hb, rfl⟩ := mem_depsF.1 hj
        have := h e (Array.mem_toList_iff.1 he)
        rw [hb] at this
        simpa using this
      · intro h e he
        cases hb : Region.binds .any e with
        | false => rfl
        | true =>
          have := h e.on (mem_depsF.2 ⟨e, Array.mem_toList_iff.2 he, hb, rfl⟩)
          simpa using this
    show (bif (ops[i].after.all fun e => !Region.binds .any e || listed.getD e.on false) then some i else none) = Option.map (·.i) (Option.filter (fun r => isNilN r.d) (some (mkRm ops listed i ops[i])))
    rw [key]
    show _ = Option.map (·.i) (if isNilN (mkRm ops listed i ops[i]).d = true then some (mkRm ops listed i ops[i]) else none)
    cases isNilN (mkRm ops listed i ops[i]).d <;> rfl
theorem dep_iff {listed : Array Bool} {i : Nat} {o : Oper} {j : Nat} (hj : listed.getD j false = false) : elN j (mkRm ops listed i o).d = waitsOn o j := by
  rw [Bool.eq_iff_iff, elN_iff, waitsOn_dep]
  show j ∈ (depsF o.after.toList).filter (fun j => !listed.getD j false) ↔ _
  rw [List.mem_filter]
  exact ⟨fun h => h.1, fun h => ⟨h, by rw [hj]; rfl⟩⟩
theorem getD_false {listed : Array Bool} {j : Nat} (h : listed.getD j true = false) : listed.getD j false = false := by
  unfold Array.getD at *
  split at h
  · rename_i hj; rw [dif_pos hj]; exact h
  · cases h
theorem optEl_eq (d : Option Nat) (l : List Nat) : optEl d l = (match d with | some d => l.contains d | none => false) := by
  cases d with
  | none => rfl
  | some d => exact elN_eq d l
theorem apartF_eq {listed listed' : Array Bool} (i j : Nat) (x y : Oper) : apartF (mkRm ops listed i x) (mkRm ops listed' j y) = x.apart ops y := by
  show bK (notF (optEl x.dst (y.looksAt ops))) (bK (notF (optSame x.dst y.dst)) (notF (optEl y.dst (x.looksAt ops)))) = _
  rw [bK_eq, bK_eq, notF_eq, notF_eq, notF_eq, optEl_eq, optEl_eq]
  unfold Oper.apart
  cases hx : x.dst with
  | none =>
    cases hy : y.dst with
    | none => rfl
    | some e => rfl
  | some d =>
    cases hy : y.dst with
    | none =>
      show (bif !(y.looksAt ops).contains d then (bif !false then !false else false) else false) = ((!(y.looksAt ops).contains d && (none != some d)) && true)
      cases (y.looksAt ops).contains d <;> rfl
    | some e =>
      show (bif !(y.looksAt ops).contains d then (bif !(Nat.beq e d) then !(x.looksAt ops).contains e else false) else false) = ((!(y.looksAt ops).contains d && (some e != some d)) && !(x.looksAt ops).contains e)
      have e1 : (some e != some d) = !(Nat.beq e d) := by
        show (!(some e == some d)) = _
        congr 1
        rw [Bool.eq_iff_iff]
        simp [Nat.beq_eq]
      rw [e1]
      cases (y.looksAt ops).contains d <;> cases Nat.beq e d <;> cases (x.looksAt ops).contains e <;> rfl
theorem free_eq {listed : Array Bool} {r : Rm} (hr : r ∈ remOf ops listed) : Region.free .any ops listed r.i = freeF (remOf ops listed) r := by
  obtain ⟨h1, h2, o, h3, h4⟩ := mem_remOf.1 hr
  unfold Region.free freeF
  rw [h3, allR_eq]
  show ((List.range ops.size).all fun j => j == r.i || listed.getD j true || match ops[j]? with | some oj => oj.after.any (fun e => Region.binds .any e && e.on == r.i) || o.apart ops oj | none => true) = _
  unfold remOf
  rw [all_fm, Bool.eq_iff_iff, List.all_eq_true, List.all_eq_true]
  have key : ∀ j ∈ List.range ops.size, (j == r.i || listed.getD j true || match ops[j]? with | some oj => oj.after.any (fun e => Region.binds .any e && e.on == r.i) || o.apart ops oj | none => true) = onR (free1 r) (rmAt ops listed j) := by
    intro j hj
    have hj := List.mem_range.1 hj
    unfold rmAt
    rw [Array.getElem?_eq_getElem hj]
    cases hl : listed.getD j true with
    | true => rw [if_pos rfl]; simp [onR]
    | false =>
      rw [if_neg (by simp)]
      show (j == r.i || false || (ops[j].after.any (fun e => Region.binds .any e && e.on == r.i) || o.apart ops ops[j])) = free1 r (mkRm ops listed j ops[j])
      unfold free1
      rw [orB_eq, orB_eq, dep_iff (getD_false h2)]
      have e1 : apartF r (mkRm ops listed j ops[j]) = o.apart ops ops[j] := by rw [h4]; exact apartF_eq r.i j o ops[j]
      have e2 : (ops[j].after.any fun e => Region.binds .any e && e.on == r.i) = waitsOn ops[j] r.i := by
        unfold waitsOn
        congr 1
        funext e
        congr 1
        rw [Bool.eq_iff_iff]; simp [Nat.beq_eq]
      rw [e1, e2]
      have e3 : (j == r.i) = Nat.beq j r.i := by rw [Bool.eq_iff_iff]; simp [Nat.beq_eq]
      show (j == r.i || false || (waitsOn ops[j] r.i || o.apart ops ops[j])) = (Nat.beq j r.i || (waitsOn ops[j] r.i || o.apart ops ops[j]))
      rw [e3]
      cases Nat.beq j r.i <;> cases waitsOn ops[j] r.i <;> cases o.apart ops ops[j] <;> rfl
  exact ⟨fun h j hj => (key j hj).symm.trans (h j hj), fun h j hj => (key j hj).trans (h j hj)⟩
theorem sep_eq {listed : Array Bool} {ps cs : List Rm} (hp : ∀ r ∈ ps, r ∈ remOf ops listed) (hc : ∀ r ∈ cs, r ∈ remOf ops listed) : sepOk ops listed (ps.map (·.i)) (cs.map (·.i)) = sepOkF (remOf ops listed) ps cs := by
  unfold sepOk sepOkF
  rw [allR_eq]
  unfold remOf
  rw [all_fm, Bool.eq_iff_iff, List.all_eq_true, List.all_eq_true]
  have key : ∀ j ∈ List.range ops.size, (listed.getD j true || ((ops[j]?).map (sepAt (ps.map (·.i)) (cs.map (·.i)))).getD true) = onR (fun b => allR (sep2 cs b) ps) (rmAt ops listed j) := by
    intro j hj
    have hj := List.mem_range.1 hj
    unfold rmAt
    rw [Array.getElem?_eq_getElem hj]
    cases hl : listed.getD j true with
    | true => rw [if_pos rfl]; rfl
    | false =>
      rw [if_neg (by simp)]
      show sepAt (ps.map (·.i)) (cs.map (·.i)) ops[j] = allR (sep2 cs (mkRm ops listed j ops[j])) ps
      unfold sepAt
      rw [allR_eq, List.all_map]
      have e1 : ∀ p ∈ ps, ((fun e => !waitsOn ops[j] e || (cs.map (·.i)).all (waitsOn ops[j])) ∘ (·.i)) p = sep2 cs (mkRm ops listed j ops[j]) p := by
        intro p hpp
        obtain ⟨_, g2, _⟩ := mem_remOf.1 (hp p hpp)
        show (!waitsOn ops[j] p.i || (cs.map (·.i)).all (waitsOn ops[j])) = orB (notF (elN p.i (mkRm ops listed j ops[j]).d)) (allR (fun c => elN c.i (mkRm ops listed j ops[j]).d) cs)
        rw [orB_eq, notF_eq, dep_iff (getD_false g2), allR_eq, List.all_map]
        congr 1
        rw [Bool.eq_iff_iff, List.all_eq_true, List.all_eq_true]
        have e2 : ∀ c ∈ cs, (waitsOn ops[j] ∘ (·.i)) c = elN c.i (mkRm ops listed j ops[j]).d := fun c hcc => by
          obtain ⟨_, g3, _⟩ := mem_remOf.1 (hc c hcc)
          exact (dep_iff (getD_false g3)).symm
        exact ⟨fun h c hcc => by rw [← e2 c hcc]; exact h c hcc, fun h c hcc => by rw [e2 c hcc]; exact h c hcc⟩
      rw [Bool.eq_iff_iff, List.all_eq_true, List.all_eq_true]
      exact ⟨fun h p hpp => by rw [← e1 p hpp]; exact h p hpp, fun h p hpp => by rw [e1 p hpp]; exact h p hpp⟩
  exact ⟨fun h j hj => (key j hj).symm.trans (h j hj), fun h j hj => (key j hj).trans (h j hj)⟩
theorem step_eq {listed : Array Bool} (hsz : listed.size = ops.size) {i : Nat} (hi : i < ops.size) : remOf ops (listed.setIfInBounds i true) = stepR i (remOf ops listed) := by
  have hg : ∀ (j : Nat) (b : Bool), (listed.setIfInBounds i true).getD j b = if j = i then true else listed.getD j b := by
    intro j b
    rw [Array.getD_eq_getD_getElem?, Array.getD_eq_getD_getElem?, Array.getElem?_setIfInBounds]
    by_cases e : i = j
    · subst e
      rw [if_pos rfl, if_pos rfl, if_pos (by omega)]; rfl
    · rw [if_neg e, if_neg (Ne.symm e)]
  unfold stepR remOf
  rw [mapR_eq, filR_eq, List.filter_filterMap, List.map_filterMap]
  refine filterMap_same fun j hj => ?_
  have hj := List.mem_range.1 hj
  unfold rmAt
  rw [hg, Array.getElem?_eq_getElem hj]
  by_cases e : j = i
  · subst e
    rw [if_pos (if_pos rfl)]
    cases hl : listed.getD j true with
    | true => rfl
    | false =>
      rw [if_neg (by simp)]
      show none = Option.map (dropD j) (if notF (Nat.beq j j) = true then some (mkRm ops listed j ops[j]) else none)
      rw [Nat.beq_refl]; rfl
  · rw [if_neg e]
    cases hl : listed.getD j true with
    | true => rfl
    | false =>
      rw [if_neg (by simp), if_neg (by simp)]
      have hb : Nat.beq j i = false := by
        cases hx : Nat.beq j i with
        | true => exact absurd (Nat.eq_of_beq_eq_true hx) e
        | false => rfl
      show some (mkRm ops (listed.setIfInBounds i true) j ops[j]) = Option.map (dropD i) (if notF (Nat.beq j i) = true then some (mkRm ops listed j ops[j]) else none)
      rw [hb]
      show some (mkRm ops (listed.setIfInBounds i true) j ops[j]) = some (dropD i (mkRm ops listed j ops[j]))
      congr 1
      show (⟨j, ops[j], (depsF ops[j].after.toList).filter (fun j => !(listed.setIfInBounds i true).getD j false), ops[j].dst, ops[j].looksAt ops⟩ : Rm) = ⟨j, ops[j], rmN i ((depsF ops[j].after.toList).filter (fun j => !listed.getD j false)), ops[j].dst, ops[j].looksAt ops⟩
      congr 1
      rw [rmN_eq, List.filter_filter]
      refine List.filter_congr fun x _ => ?_
      rw [hg]
      by_cases ex : x = i
      · subst ex; rw [if_pos rfl, Nat.beq_refl]; rfl
      · have hb : Nat.beq x i = false := by
          cases hx : Nat.beq x i with
          | true => exact absurd (Nat.eq_of_beq_eq_true hx) ex
          | false => rfl
        rw [if_neg ex, hb]; rfl
theorem rem_start (ops : Array Oper) : remS ops ops.toList 0 = remOf ops (Array.replicate ops.size false) := by
  have hf : ∀ j, (Array.replicate ops.size false).getD j false = false := fun j => by
    rw [Array.getD_eq_getD_getElem?, Array.getElem?_replicate]
    split <;> rfl
  have key : ∀ (l : List Oper) (i : Nat), i + l.length = ops.size → (∀ k, l[k]? = ops[i + k]?) → remS ops l i = (List.range' i l.length).filterMap (rmAt ops (Array.replicate ops.size false)) := by
    intro l
    induction l with
    | nil => intro i _ _; rfl
    | cons o l ih =>
      intro i hi hk
      have h0 := hk 0
      rw [Nat.add_zero] at h0
      have h0 : ops[i]? = some o := h0.symm
      show (⟨i, o, depsF o.after.toList, o.dst, o.looksAt ops⟩ : Rm) :: remS ops l (i + 1) = _
      rw [List.length_cons, List.range'_succ, List.filterMap_cons]
      have e1 : rmAt ops (Array.replicate ops.size false) i = some ⟨i, o, depsF o.after.toList, o.dst, o.looksAt ops⟩ := by
        unfold rmAt
        have : (Array.replicate ops.size false).getD i true = false := by
          rw [Array.getD_eq_getD_getElem?, Array.getElem?_replicate, if_pos (by simp at hi; omega)]; rfl
        rw [this, if_neg (by simp), h0]
        show some (mkRm ops (Array.replicate ops.size false) i o) = _
        unfold mkRm
        congr 2
        exact List.filter_eq_self.2 fun j _ => by rw [hf]; rfl
      rw [e1]
      show _ = _ :: _
      rw [ih (i + 1) (by simp at hi; omega) fun k => by
        have := hk (k + 1)
        rw [List.getElem?_cons_succ] at this
        rw [this]; congr 1; omega]
  have := key ops.toList 0 (by simp) (fun k => by simp)
  rw [this]
  unfold remOf
  rw [List.range_eq_range', Array.length_toList]
theorem mem_rdy {listed : Array Bool} {r : Rm} (h : r ∈ rdyF (remOf ops listed)) : r ∈ remOf ops listed := by
  unfold rdyF at h
  rw [filR_eq] at h
  exact (List.mem_filter.1 h).1
theorem fl_eq {listed : Array Bool} {r : Rm} (hr : r ∈ remOf ops listed) : flOk P ops listed r.i = flOkF P (remOf ops listed) r := by
  obtain ⟨h1, h2, o, h3, h4⟩ := mem_remOf.1 hr
  unfold flOk flOkF
  rw [h3, bK_eq, ← free_eq hr]
  have : r.o = o := by rw [h4]; rfl
  rw [this]
  show (floatO P o.op && Region.free .any ops listed r.i) = _
  cases floatO P o.op <;> rfl
theorem al_eq {listed : Array Bool} {r : Rm} (hr : r ∈ remOf ops listed) : alOk ops listed r.i = alOkF (remOf ops listed) r := by
  obtain ⟨h1, h2, o, h3, h4⟩ := mem_remOf.1 hr
  unfold alOk alOkF
  rw [h3, bK_eq, bK_eq, ← free_eq hr]
  have : r.o = o := by rw [h4]; rfl
  rw [this]
  show (newOp o.op && Region.free .any ops listed r.i && o.guard.isNone) = _
  cases newOp o.op <;> cases Region.free .any ops listed r.i <;> rfl
theorem opers_eq {listed : Array Bool} : ∀ {rs : List Rm}, (∀ r ∈ rs, r ∈ remOf ops listed) → opersOf ops (rs.map (·.i)) = mapO rs
  | [], _ => rfl
  | r :: rs, h => by
    obtain ⟨h1, h2, o, h3, h4⟩ := mem_remOf.1 (h r List.mem_cons_self)
    have : r.o = o := by rw [h4]; rfl
    have ih := opers_eq (rs := rs) fun x hx => h x (List.mem_cons_of_mem _ hx)
    unfold opersOf at ih ⊢
    rw [List.map_cons, List.filterMap_cons, h3]
    show o :: _ = r.o :: mapO rs
    rw [ih, this]
theorem filter_same {α : Type} {p q : α → Bool} : ∀ {l : List α}, (∀ x ∈ l, p x = q x) → l.filter p = l.filter q := fun h => List.filter_congr h
theorem find_same {α : Type} {p q : α → Bool} : ∀ {l : List α}, (∀ x ∈ l, p x = q x) → l.find? p = l.find? q
  | [], _ => rfl
  | x :: l, h => by
    rw [List.find?_cons, List.find?_cons, h x List.mem_cons_self, find_same fun y hy => h y (List.mem_cons_of_mem _ hy)]
theorem plF_eq (P : Program) (ops : Array Oper) : ∀ (n : Nat) (listed : Array Bool), listed.size = ops.size → plF P n (remOf ops listed) = planGo P ops n listed
  | 0, listed, _ => by
    unfold plF planGo
    rw [ready_eq]
    cases rdyF (remOf ops listed) <;> rfl
  | n + 1, listed, hsz => by
    unfold plF planGo
    rw [ready_eq]
    have hmem : ∀ r ∈ rdyF (remOf ops listed), r ∈ remOf ops listed := fun r hr => mem_rdy hr
    have next : ∀ r ∈ remOf ops listed, plF P n (stepR r.i (remOf ops listed)) = planGo P ops n (listed.setIfInBounds r.i true) := fun r hr => by
      have hi := (mem_remOf.1 hr).1
      rw [← step_eq hsz hi]
      exact plF_eq P ops n _ (by rw [Array.size_setIfInBounds]; exact hsz)
    have opr : ∀ r ∈ remOf ops listed, ops[r.i]? = some r.o := fun r hr => by
      obtain ⟨_, _, o, h3, h4⟩ := mem_remOf.1 hr
      rw [h3, h4]; rfl
    generalize hrs : rdyF (remOf ops listed) = rs at hmem
    cases rs with
    | nil => rfl
    | cons r0 t =>
      have hfind : (((r0 :: t).map (·.i)).find? (flOk P ops listed)) = (findR (flOkF P (remOf ops listed)) (r0 :: t)).map (·.i) := by
        rw [List.find?_map, findR_eq]
        congr 1
        exact find_same fun x hx => fl_eq (hmem x hx)
      have hal : (((r0 :: t).map (·.i)).filter (alOk ops listed)) = (filR (alOkF (remOf ops listed)) (r0 :: t)).map (·.i) := by
        rw [List.filter_map, filR_eq]
        congr 1
        exact filter_same fun x hx => al_eq (hmem x hx)
      have hnal : (((r0 :: t).map (·.i)).filter (fun i => !alOk ops listed i)) = (filR (fun r => notF (alOkF (remOf ops listed) r)) (r0 :: t)).map (·.i) := by
        rw [List.filter_map, filR_eq]
        congr 1
        exact filter_same fun x hx => by
          show (!alOk ops listed x.i) = notF (alOkF (remOf ops listed) x)
          rw [notF_eq, al_eq (hmem x hx)]
      have hfm : ∀ r ∈ filR (alOkF (remOf ops listed)) (r0 :: t), r ∈ remOf ops listed := fun r hr => by
        rw [filR_eq] at hr
        exact hmem r (List.mem_filter.1 hr).1
      show (match findR (flOkF P (remOf ops listed)) (r0 :: t) with
        | some r => mkFl r.i (some r.o) (plF P n (stepR r.i (remOf ops listed)))
        | none => match filR (fun r => notF (alOkF (remOf ops listed) r)) (r0 :: t) with
          | [r] => bif sepOkF (remOf ops listed) (filR (alOkF (remOf ops listed)) (r0 :: t)) [r] then mkEf r.i (some r.o) (mapO (filR (alOkF (remOf ops listed)) (r0 :: t))) (plF P n (stepR r.i (remOf ops listed))) else none
          | [] => bif sepOkF (remOf ops listed) (r0 :: t) (r0 :: t) then mkAl r0.i (some r0.o) (mapO (r0 :: t)) (plF P n (stepR r0.i (remOf ops listed))) else none
          | _ => none) = (match ((r0 :: t).map (·.i)).find? (flOk P ops listed) with
        | some i => mkFl i ops[i]? (planGo P ops n (listed.setIfInBounds i true))
        | none => match ((r0 :: t).map (·.i)).filter (fun i => !alOk ops listed i) with
          | [i] => bif sepOk ops listed (((r0 :: t).map (·.i)).filter (alOk ops listed)) [i] then mkEf i ops[i]? (opersOf ops (((r0 :: t).map (·.i)).filter (alOk ops listed))) (planGo P ops n (listed.setIfInBounds i true)) else none
          | [] => bif sepOk ops listed ((r0 :: t).map (·.i)) ((r0 :: t).map (·.i)) then mkAl r0.i ops[r0.i]? (opersOf ops ((r0 :: t).map (·.i))) (planGo P ops n (listed.setIfInBounds r0.i true)) else none
          | _ => none)
      rw [hfind, hal, hnal]
      cases hf : findR (flOkF P (remOf ops listed)) (r0 :: t) with
      | some r =>
        have hr : r ∈ remOf ops listed := by
          rw [findR_eq] at hf
          exact hmem r (List.mem_of_find?_eq_some hf)
        show mkFl r.i (some r.o) (plF P n (stepR r.i (remOf ops listed))) = mkFl r.i ops[r.i]? (planGo P ops n (listed.setIfInBounds r.i true))
        rw [next r hr, opr r hr]
      | none =>
        have hnm : ∀ r ∈ filR (fun r => notF (alOkF (remOf ops listed) r)) (r0 :: t), r ∈ remOf ops listed := fun r hr => by
          rw [filR_eq] at hr
          exact hmem r (List.mem_filter.1 hr).1
        generalize hq : filR (fun r => notF (alOkF (remOf ops listed) r)) (r0 :: t) = q at hnm
        match q, hnm with
        | [], _ =>
          show (bif sepOkF (remOf ops listed) (r0 :: t) (r0 :: t) then mkAl r0.i (some r0.o) (mapO (r0 :: t)) (plF P n (stepR r0.i (remOf ops listed))) else none) = bif sepOk ops listed ((r0 :: t).map (·.i)) ((r0 :: t).map (·.i)) then mkAl r0.i ops[r0.i]? (opersOf ops ((r0 :: t).map (·.i))) (planGo P ops n (listed.setIfInBounds r0.i true)) else none
          rw [sep_eq hmem hmem, next r0 (hmem r0 List.mem_cons_self), opr r0 (hmem r0 List.mem_cons_self), opers_eq hmem]
        | [r], hnm =>
          have hr := hnm r List.mem_cons_self
          show (bif sepOkF (remOf ops listed) (filR (alOkF (remOf ops listed)) (r0 :: t)) [r] then mkEf r.i (some r.o) (mapO (filR (alOkF (remOf ops listed)) (r0 :: t))) (plF P n (stepR r.i (remOf ops listed))) else none) = bif sepOk ops listed ((filR (alOkF (remOf ops listed)) (r0 :: t)).map (·.i)) ([r].map (·.i)) then mkEf r.i ops[r.i]? (opersOf ops ((filR (alOkF (remOf ops listed)) (r0 :: t)).map (·.i))) (planGo P ops n (listed.setIfInBounds r.i true)) else none
          rw [sep_eq hfm hnm, next r hr, opr r hr, opers_eq hfm]
        | a :: b :: l, _ => rfl
def notSel (o : Op) : Bool := match o with
  | .select _ _ => false
  | _ => true
theorem okOps_eq : ∀ l : List Oper, okOps l = (l.all (fun o => notSel o.op) && l.all noDefer)
  | [] => rfl
  | o :: l => by
    show @Bool.rec.{1} (fun _ => Bool) false (okOps l) (okOp o.op) = _
    rw [okOps_eq l, List.all_cons, List.all_cons]
    have e : okOp o.op = (notSel o.op && noDefer o) := by
      unfold noDefer
      cases o.op <;> rfl
    rw [e]
    generalize notSel o.op = a
    generalize noDefer o = b
    generalize l.all (fun o => notSel o.op) = c
    generalize l.all noDefer = d
    cases a <;> cases b <;> cases c <;> cases d <;> rfl
theorem noSel_eq (ops : Array Oper) : Region.noSelect ops = ops.toList.all (fun o => notSel o.op) := by
  unfold Region.noSelect
  rw [← Array.all_toList]
  congr 1
theorem planF_eq (P : Program) (ops : Array Oper) : planF P ops = planOf P ops := by
  unfold planF planOf
  have e : okOps ops.toList = (Region.noSelect ops && ops.all noDefer) := by
    rw [okOps_eq, noSel_eq, Array.all_toList (p := noDefer)]
  rw [e, rem_start, plF_eq P ops ops.size _ (by simp)]
  cases Region.noSelect ops && ops.all noDefer <;> rfl
end
end Ex
end Go.Proofs.YtajoljoegbeiiaaGreatDoor

namespace Go.Proofs.YtajoljoegbeiiaaGreatDoor
set_option linter.all false
namespace Ex
open Go.RowKit
noncomputable section
/-! ### A region in its order -/
structure Cr where
  go : Self → Nat → St → Kx → Bool
def crNil : Cr := ⟨fun _ _ σ k => k .nm σ⟩
def crRest (r : Cr) (self : Self) (sz : Nat) (k : Kx) (σ : St) : Bool := r.go self sz σ k
def crCons (c : Cop) (r : Cr) : Cr := ⟨fun self sz σ k => c.go self sz σ (crRest r self sz k)⟩
def crL (P : Program) (prim : Prim) (ops : Array Oper) : List Oper → Cr
  | [] => crNil
  | o :: l => crCons (copO P prim ops o) (crL P prim ops l)
/-! ### A region that draws its order -/
structure Dr where
  go : Self → Nat → Held → St → Kx → Bool
def drDone : Dr := ⟨fun _ _ _ σ k => k .nm σ⟩
def drNext (r : Dr) (self : Self) (sz : Nat) (k : Kx) (hd : Held) (σ : St) : Bool := r.go self sz hd σ k
/-- As the executor does it. -/
def flOld (P : Program) (ops : Array Oper) (i : Nat) (o : Oper) (r : Dr) : Dr := ⟨fun self sz hd σ k => flK P ops i o sz hd σ (drNext r self sz k)⟩
/-- What becomes of a value, and what is held. -/
structure Fh where
  go : Nat → Fm → List Nat → Hp → Nat → Held → (Held → St → Bool) → AV → Bool
def fhN : Fh := ⟨fun _ fr ds h nx hd k v => fzF v (k hd ⟨fr, ds, h, nx⟩)⟩
def fhD (d : Nat) (p : Pa) : Fh := ⟨fun sz fr ds h nx hd k v => bK (Nat.blt d sz) (fzF v (k hd ⟨setP p fr v un, ds, h, nx⟩))⟩
def fhB (dst : Option Tmp) : Fh := match dst with
  | none => fhN
  | some d => fhD d (pathOf d)
def flS (pk : Pk) (f : Fh) (sz : Nat) (hd : Held) (k : Held → St → Bool) (σ : St) : Bool := @St.rec.{1} (fun _ => Pk → Fh → Nat → Held → (Held → St → Bool) → Bool) (fun fr ds h nx pk f sz hd k => pk fr h (f.go sz fr ds h nx hd k)) σ pk f sz hd k
def flP (pk : Pk) (f : Fh) (r : Dr) : Dr := ⟨fun self sz hd σ k => flS pk f sz hd (drNext r self sz k) σ⟩
/-! loads of one cell -/
def ldH2 (i b o : Nat) (f : Fh) (sz : Nat) (fr : Fm) (ds : List Nat) (h : Hp) (nx : Nat) (hd : Held) (k : Held → St → Bool) (v : AV) : Bool := f.go sz fr ds h nx (⟨i, b, o, v⟩ :: hd) k v
def ldH1 (i : Nat) (f : Fh) (sz : Nat) (fr : Fm) (ds : List Nat) (h : Hp) (nx : Nat) (hd : Held) (k : Held → St → Bool) (b o : Nat) : Bool := load1b h (ldH2 i b o f sz fr ds h nx hd k) b o
def ldH0 (i : Nat) (f : Fh) (sz : Nat) (fr : Fm) (ds : List Nat) (h : Hp) (nx : Nat) (hd : Held) (k : Held → St → Bool) (p : AV) : Bool := ptrK p (ldH1 i f sz fr ds h nx hd k)
def flLS (x : Cv) (i : Nat) (f : Fh) (sz : Nat) (hd : Held) (k : Held → St → Bool) (σ : St) : Bool := @St.rec.{1} (fun _ => Cv → Nat → Fh → Nat → Held → (Held → St → Bool) → Bool) (fun fr ds h nx x i f sz hd k => x.g fr (ldH0 i f sz fr ds h nx hd k)) σ x i f sz hd k
def flL (x : Cv) (i : Nat) (f : Fh) (r : Dr) : Dr := ⟨fun self sz hd σ k => flLS x i f sz hd (drNext r self sz k) σ⟩
/-! two values held against each other -/
def orF (a b : Bool) : Bool := @Bool.rec.{1} (fun _ => Bool) b true a
def dry2 (a b : AV) : Bool := orF (numIF a a) (orF (nilF a) (orF (nilF b) (flatA a)))
def dry1 (y : Cv) (fr : Fm) (a : AV) : Bool := y.g fr (dry2 a)
def dry0 (x y : Cv) (fr : Fm) : Bool := x.g fr (dry1 y fr)
def flBS (x y : Cv) (pk : Pk) (f : Fh) (sz : Nat) (hd : Held) (k : Held → St → Bool) (σ : St) : Bool := @St.rec.{1} (fun _ => Cv → Cv → Pk → Fh → Nat → Held → (Held → St → Bool) → Bool) (fun fr ds h nx x y pk f sz hd k => bK (dry0 x y fr) (pk fr h (f.go sz fr ds h nx hd k))) σ x y pk f sz hd k
def flB (x y : Cv) (pk : Pk) (f : Fh) (r : Dr) : Dr := ⟨fun self sz hd σ k => flBS x y pk f sz hd (drNext r self sz k) σ⟩
def flPk (P : Program) (ops : Array Oper) (i : Nat) (o : Oper) (r : Dr) (pk : Option Pk) : Dr := match pk with
  | some pk => flP pk (fhB o.dst) r
  | none => flOld P ops i o r
def flPkB (P : Program) (ops : Array Oper) (i : Nat) (o : Oper) (x y : Operand) (r : Dr) (pk : Option Pk) : Dr := match pk with
  | some pk => flB (cvO x) (cvO y) pk (fhB o.dst) r
  | none => flOld P ops i o r
def flLd (P : Program) (ops : Array Oper) (i : Nat) (o : Oper) (a : Operand) (r : Dr) (g : Option Bool) : Dr := match g with
  | some false => flL (cvO a) i (fhB o.dst) r
  | _ => flOld P ops i o r
def flOp (P : Program) (ops : Array Oper) (i : Nat) (o : Oper) (r : Dr) (op : Op) : Dr := match op with
  | .load t a => flLd P ops i o a r (aggT P t)
  | .binOp _ _ x y _ => flPkB P ops i o x y r (copP P op)
  | op => flPk P ops i o r (copP P op)
def flG (P : Program) (ops : Array Oper) (i : Nat) (o : Oper) (r : Dr) (g : Option (Nat × Bool)) : Dr := match g with
  | none => flOp P ops i o r o.op
  | some _ => flOld P ops i o r
/-! what was read must stay as it is -/
def nthW (l : List Bool) : Nat → Bool → Bool := @List.rec.{1,0} Bool (fun _ => Nat → Bool → Bool) (fun _ w => w) (fun v _ ih i w => @Nat.rec.{1} (fun _ => (Nat → Bool → Bool) → Bool → Bool → Bool) (fun _ v _ => v) (fun j _ ih _ w => ih j w) i ih v w) l
def cellS (c : Nat) (v : AV) (k : Bk) : Bool := bK (Nat.blt c k.n) (sameC v (getP (pathOf c) k.t k.d))
def held1F (tab : List Bool) (o : Oper) (h : Hp) (d : Hd) : Bool := @Hd.rec.{1} (fun _ => List Bool → Oper → Hp → Bool) (fun i b c v tab o h => @Bool.rec.{1} (fun _ => Bool) (bkK (getH h b) (cellS c v)) true (nthW tab i (waitsOn o i))) d tab o h
def heldF (tab : List Bool) (o : Oper) (h : Hp) (hd : Held) : Bool := @List.rec.{1,0} Hd (fun _ => List Bool → Oper → Hp → Bool) (fun _ _ _ => true) (fun d _ ih tab o h => bK (held1F tab o h d) (ih tab o h)) hd tab o h
def tabN (o : Oper) : Nat → List Bool → List Bool
  | 0, l => l
  | n + 1, l => tabN o n (waitsOn o n :: l)
def efN (tab : List Bool) (o : Oper) (r : Dr) (self : Self) (sz : Nat) (hd : Held) (k : Kx) (σ : St) : Bool := bK (heldF tab o σ.h hd) (r.go self sz hd σ k)
def efG (c : Cop) (tab : List Bool) (o : Oper) (r : Dr) : Dr := ⟨fun self sz hd σ k => c.go self sz σ (efN tab o r self sz hd k)⟩
/-! new blocks -/
def isR (r : Option Rs) : Bool := @Option.rec.{1,0} Rs (fun _ => Bool) false (fun _ => true) r
structure Ns where
  go : Fm → Hp → Nat → Bool
def nsNil : Ns := ⟨fun _ _ _ => true⟩
def nsCons (f : Ob) (r : Ns) : Ns := ⟨fun fr h nx => bK (isR (f.f fr h nx)) (r.go fr h nx)⟩
def nsL (P : Program) : List Oper → Ns
  | [] => nsNil
  | o :: l => nsCons (opB P o.op) (nsL P l)
def nsS (n : Ns) (σ : St) : Bool := @St.rec.{1} (fun _ => Ns → Bool) (fun fr _ h nx n => n.go fr h nx) σ n
def efD (n : Ns) (d : Dr) : Dr := ⟨fun self sz hd σ k => bK (nsS n σ) (d.go self sz hd σ k)⟩
def efP (P : Program) (ps : List Oper) (d : Dr) : Dr := match ps with
  | [] => d
  | ps => efD (nsL P ps) d
def alG (f : Ob) (dst : Option Tmp) (r : Dr) : Dr := ⟨fun self sz hd σ k => genS f (finB dst) sz (drNext r self sz k hd) σ⟩
def drL (P : Program) (prim : Prim) (ops : Array Oper) : Plan → Dr
  | .done => drDone
  | .fl i o r => flG P ops i o (drL P prim ops r) o.guard
  | .ef _ o ps r => efP P ps (efG (copO P prim ops o) (tabN o ops.size []) o (drL P prim ops r))
  | .al _ o ps r => efD (nsL P ps) (alG (opB P o.op) o.dst (drL P prim ops r))
/-! ### Code -/
structure Cc where
  go : Self → Cx → St → Kx → Bool
def ccNo : Cc := ⟨fun _ _ _ _ => false⟩
def ccDraw (P : Program) (prim : Prim) (ops : Array Oper) (p : Option Plan) : Cc := match p with
  | none => ccNo
  | some p => ⟨fun self cx σ k => (drL P prim ops p).go self cx.sz [] σ k⟩
def ccReg (P : Program) (prim : Prim) (ops : Array Oper) (draw : Bool) : Cc := bif draw then ccDraw P prim ops (planF P ops) else ⟨fun self cx σ k => (crL P prim ops ops.toList).go self cx.sz σ k⟩
def thenF (self : Self) (b : Code) (cx : Cx) (k : Kx) (x : X) : St → Bool := @X.rec.{1} (fun _ => Self → Code → Cx → Kx → St → Bool) (fun self b cx k σ => self (.code b) cx σ k) (fun _ _ _ k => k .ret) (fun i _ _ _ k => k (.ex i)) (fun l _ _ _ k => k (.gt l)) x self b cx k
def condF (self : Self) (a b : Code) (cx : Cx) (σ : St) (k : Kx) (t : Bool) : Bool := @Bool.rec.{1} (fun _ => Bool) (self (.code b) cx σ k) (self (.code a) cx σ k) t
def condG (self : Self) (a b : Code) (cx : Cx) (σ : St) (k : Kx) (v : AV) : Bool := boolK v (condF self a b cx σ k)
def blockF (id : Nat) (k : Kx) (x : X) : St → Bool := @X.rec.{1} (fun _ => Nat → Kx → St → Bool) (fun _ k => k .nm) (fun _ k => k .ret) (fun i id k σ => @Bool.rec.{1} (fun _ => Bool) (k (.ex i) σ) (k .nm σ) (Nat.beq i id)) (fun l _ k => k (.gt l)) x id k
def ccO (P : Program) (prim : Prim) (c : Code) : Cc := match c with
  | .skip => ⟨fun _ _ σ k => k .nm σ⟩
  | .label _ => ⟨fun _ _ σ k => k .nm σ⟩
  | .region _ ops draw => ccReg P prim ops draw
  | .seq a b => ⟨fun self cx σ k => self (.code a) cx σ (thenF self b cx k)⟩
  | .cond c a b => ⟨fun self cx σ k => (cvO c).g σ.fr (condG self a b cx σ k)⟩
  | .block id b => ⟨fun self cx σ k => self (.code b) cx σ (blockF id k)⟩
  | .loop b => ⟨fun self cx σ k => self (.code b) cx σ (thenF self (.loop b) cx k)⟩
  | .exit id => ⟨fun _ _ σ k => k (.ex id) σ⟩
  | .goto l => ⟨fun _ _ σ k => k (.gt l) σ⟩
  | .ret => ⟨fun _ _ σ k => k .ret σ⟩
  | c => ⟨fun self cx σ k => stepC c P prim self cx σ k⟩
def cjO (P : Program) (prim : Prim) (j : Job) : Cc := match j with
  | .code c => ccO P prim c
  | .scope b c => ⟨fun self cx σ k => sScope b c P prim self cx σ k⟩
def runF (P : Program) (prim : Prim) (n : Nat) : Self := @Nat.rec.{1} (fun _ => Self) (fun _ _ _ _ => false) (fun _ ih j => (cjO P prim j).go ih) n
end
/-! ### It is the executor -/
theorem crL_eq (P : Program) (prim : Prim) (ops : Array Oper) : ∀ (l : List Oper) (self : Self) (sz : Nat) (σ : St) (k : Kx), (crL P prim ops l).go self sz σ k = opsK P prim self ops sz l σ k
  | [], _, _, _, _ => rfl
  | o :: l, self, sz, σ, k => by
    show (copO P prim ops o).go self sz σ (crRest (crL P prim ops l) self sz k) = ops1 P prim self ops sz o σ fun σ' => opsK P prim self ops sz l σ' k
    rw [copO_eq]
    exact congrArg _ (funext fun σ' => crL_eq P prim ops l self sz σ' k)
theorem fhB_eq (dst : Option Tmp) (sz : Nat) (fr : Fm) (ds : List Nat) (h : Hp) (nx : Nat) (hd : Held) (k : Held → St → Bool) (v : AV) : (fhB dst).go sz fr ds h nx hd k v = contO (k hd) v (putA ⟨fr, ds, h, nx⟩ sz dst v) := by
  cases dst with
  | none => exact fzF_eq v _
  | some d =>
    show bK (Nat.blt d sz) (fzF v (k hd ⟨setP (pathOf d) fr v un, ds, h, nx⟩)) = contO (k hd) v (bif Nat.blt d sz then some ⟨fr.set un d v, ds, h, nx⟩ else none)
    rw [bK_eq, set_path, fzF_eq]
    cases Nat.blt d sz <;> rfl
theorem flK_pk {P : Program} {ops : Array Oper} {i : Nat} {o : Oper} {pk : Pk} (hg : o.guard = none) (hp : PkOk P o.op pk) (hl : isLoad o.op = none) (sz : Nat) (hd : Held) (k : Held → St → Bool) (fr : Fm) (ds : List Nat) (h : Hp) (nx : Nat) :
    flK P ops i o sz hd ⟨fr, ds, h, nx⟩ k = bif dryO fr o.op then pk fr h ((fhB o.dst).go sz fr ds h nx hd k) else false := by
  obtain ⟨f, h1, h2⟩ := hp
  unfold flK wantA
  rw [hg, h1]
  show (bif dryO fr o.op then ((opA o.op P fr h nx).map (flGo P i o sz hd ⟨fr, ds, h, nx⟩ k)).getD false else false) = _
  rw [h2]
  cases dryO fr o.op with
  | false => rfl
  | true =>
    show (((f fr h).map (pv h nx)).map (flGo P i o sz hd ⟨fr, ds, h, nx⟩ k)).getD false = optK (f fr h) ((fhB o.dst).go sz fr ds h nx hd k)
    cases f fr h with
    | none => rfl
    | some v =>
      show contO (k (heldO P i o fr v hd)) v (putA ⟨fr, ds, h, nx⟩ sz o.dst v) = (fhB o.dst).go sz fr ds h nx hd k v
      rw [fhB_eq]
      unfold heldO
      rw [hl]
theorem flP_eq {P : Program} {ops : Array Oper} {i : Nat} {o : Oper} {pk : Pk} (hg : o.guard = none) (hp : PkOk P o.op pk) (hl : isLoad o.op = none) (hdr : ∀ fr, dryO fr o.op = true) (r : Dr) (self : Self) (sz : Nat) (hd : Held) (σ : St) (k : Kx) :
    (flP pk (fhB o.dst) r).go self sz hd σ k = flK P ops i o sz hd σ (drNext r self sz k) := by
  obtain ⟨fr, ds, h, nx⟩ := σ
  rw [flK_pk hg hp hl, hdr]; rfl
theorem dry2_eq (a b : AV) : dry2 a b = (numI a || nilA a || nilA b || flatA a) := by
  show orF (numIF a a) (orF (nilF a) (orF (nilF b) (flatA a))) = _
  rw [numIF_eq, nilF_eq, nilF_eq]
  cases numI a <;> cases nilA a <;> cases nilA b <;> rfl
theorem dry0_eq (x y : Operand) (fr : Fm) : dry0 (cvO x) (cvO y) fr = dryV (evA fr x) (evA fr y) := by
  show (cvO x).g fr (dry1 (cvO y) fr) = _
  rw [cvO_eq]
  cases evA fr x with
  | none => rfl
  | some a =>
    show (cvO y).g fr (dry2 a) = _
    rw [cvO_eq]
    cases evA fr y with
    | none => rfl
    | some b => exact dry2_eq a b
theorem load1b_eq (h : Hp) (c : KA) (b o : Nat) : load1b h c b o = ((loadCell h b o).map c).getD false := by
  show bkK (getH h b) (load1d o c) = (((getBk h b).bind (ldIn o)).map c).getD false
  rw [bkK_eq, getH_eq]
  unfold getBk
  cases bkO (h.get .dead b) with
  | none => rfl
  | some k =>
    show bK (Nat.blt o k.n) (c (getP (pathOf o) k.t k.d)) = ((bif Nat.blt o k.n then some (k.t.get k.d o) else none).map c).getD false
    rw [bK_eq, get_path]
    cases Nat.blt o k.n <;> rfl
theorem flL_eq {P : Program} {ops : Array Oper} {i : Nat} {o : Oper} {t : TypeId} {a : Operand} (hg : o.guard = none) (ho : o.op = .load t a) (ht : aggT P t = some false) (r : Dr) (self : Self) (sz : Nat) (hd : Held) (σ : St) (k : Kx) :
    (flL (cvO a) i (fhB o.dst) r).go self sz hd σ k = flK P ops i o sz hd σ (drNext r self sz k) := by
  obtain ⟨fr, ds, h, nx⟩ := σ
  obtain ⟨dst, op, ty, ps, af, gd⟩ := o
  have hg : gd = none := hg
  have ho : op = .load t a := ho
  subst hg; subst ho
  show (cvO a).g fr (ldH0 i (fhB dst) sz fr ds h nx hd (drNext r self sz k)) = (((((evA fr a).bind asP).bind fun p => (loadV P h t p.b p.o).map (pv h nx)).map (flGo P i ⟨dst, .load t a, ty, ps, af, none⟩ sz hd ⟨fr, ds, h, nx⟩ (drNext r self sz k))).getD false)
  rw [cvO_eq]
  cases he : evA fr a with
  | none => rfl
  | some v =>
    show ptrK v (ldH1 i (fhB dst) sz fr ds h nx hd (drNext r self sz k)) = ((((asP v).bind fun p => (loadV P h t p.b p.o).map (pv h nx)).map (flGo P i ⟨dst, .load t a, ty, ps, af, none⟩ sz hd ⟨fr, ds, h, nx⟩ (drNext r self sz k))).getD false)
    rw [ptrK_eq]
    cases hp : asP v with
    | none => rfl
    | some p =>
      show load1b h (ldH2 i p.b p.o (fhB dst) sz fr ds h nx hd (drNext r self sz k)) p.b p.o = ((((aggT P t).bind (loadG P h t p.b p.o)).map (pv h nx)).map (flGo P i ⟨dst, .load t a, ty, ps, af, none⟩ sz hd ⟨fr, ds, h, nx⟩ (drNext r self sz k))).getD false
      rw [load1b_eq, ht]
      show _ = (((loadCell h p.b p.o).map (pv h nx)).map (flGo P i ⟨dst, .load t a, ty, ps, af, none⟩ sz hd ⟨fr, ds, h, nx⟩ (drNext r self sz k))).getD false
      cases loadCell h p.b p.o with
      | none => rfl
      | some u =>
        show (fhB dst).go sz fr ds h nx (⟨i, p.b, p.o, u⟩ :: hd) (drNext r self sz k) u = contO (drNext r self sz k (heldL P i fr u hd (t, a))) u (putA ⟨fr, ds, h, nx⟩ sz dst u)
        rw [fhB_eq]
        have : heldL P i fr u hd (t, a) = ⟨i, p.b, p.o, u⟩ :: hd := by
          show (match (evA fr a).bind asP with | some p => heldsOf i p.b p.o (bif (aggT P t).getD false then u.cells else [u]) hd | none => hd) = _
          rw [he]
          show (match asP v with | some p => heldsOf i p.b p.o (bif (aggT P t).getD false then u.cells else [u]) hd | none => hd) = _
          rw [hp, ht]; rfl
        rw [this]
theorem flG_eq (P : Program) (ops : Array Oper) (i : Nat) (o : Oper) (r : Dr) (self : Self) (sz : Nat) (hd : Held) (σ : St) (k : Kx) : (flG P ops i o r o.guard).go self sz hd σ k = flK P ops i o sz hd σ (drNext r self sz k) := by
  cases hg : o.guard with
  | some g => rfl
  | none =>
    show (flOp P ops i o r o.op).go self sz hd σ k = _
    have gen : isLoad o.op = none → (∀ fr, dryO fr o.op = true) → (flPk P ops i o r (copP P o.op)).go self sz hd σ k = flK P ops i o sz hd σ (drNext r self sz k) := by
      intro hl hdr
      cases hp : copP P o.op with
      | none => rfl
      | some pk => exact flP_eq hg (copP_ok P _ hp) hl hdr r self sz hd σ k
    generalize hop : o.op = op
    rw [hop] at gen
    cases op <;> first | exact gen rfl (fun _ => rfl) | skip
    · rename_i t a
      show (flLd P ops i o a r (aggT P t)).go self sz hd σ k = _
      cases ht : aggT P t with
      | none => rfl
      | some b =>
        cases b with
        | true => rfl
        | false => exact flL_eq hg hop ht r self sz hd σ k
    · rename_i bop t x y u
      show (flPkB P ops i o x y r (copP P (.binOp bop t x y u))).go self sz hd σ k = _
      cases hp : copP P (.binOp bop t x y u) with
      | none => rfl
      | some pk =>
        obtain ⟨fr, ds, h, nx⟩ := σ
        have hpk := copP_ok P _ hp
        rw [← hop] at hpk
        rw [flK_pk hg hpk (by rw [hop]; rfl), hop]
        show bK (dry0 (cvO x) (cvO y) fr) (pk fr h ((fhB o.dst).go sz fr ds h nx hd (drNext r self sz k))) = bif dryV (evA fr x) (evA fr y) then pk fr h ((fhB o.dst).go sz fr ds h nx hd (drNext r self sz k)) else false
        rw [dry0_eq, bK_eq]
theorem nthW_eq : ∀ (l : List Bool) (i : Nat) (w : Bool), nthW l i w = (l[i]?).getD w
  | [], i, w => by cases i <;> rfl
  | v :: l, 0, w => rfl
  | v :: l, i + 1, w => by
    show nthW l i w = _
    rw [nthW_eq l i w, List.getElem?_cons_succ]
theorem tabN_eq (o : Oper) : ∀ (n : Nat) (l : List Bool) (i : Nat), ((tabN o n l)[i]?).getD (waitsOn o i) = if i < n then waitsOn o i else (l[i - n]?).getD (waitsOn o i)
  | 0, l, i => by simp [tabN]
  | n + 1, l, i => by
    rw [tabN, tabN_eq o n (waitsOn o n :: l) i]
    by_cases h1 : i < n
    · rw [if_pos h1, if_pos (by omega)]
    · rw [if_neg h1]
      by_cases h2 : i = n
      · subst h2
        rw [if_pos (by omega), Nat.sub_self]; rfl
      · rw [if_neg (by omega), show i - n = (i - (n + 1)) + 1 by omega, List.getElem?_cons_succ]
theorem heldF_eq (o : Oper) (n : Nat) (h : Hp) : ∀ hd : Held, heldF (tabN o n []) o h hd = heldB o h hd
  | [] => rfl
  | d :: hd => by
    obtain ⟨i, b, c, v⟩ := d
    show bK (@Bool.rec.{1} (fun _ => Bool) (bkK (getH h b) (cellS c v)) true (nthW (tabN o n []) i (waitsOn o i))) (heldF (tabN o n []) o h hd) = (held1 o h ⟨i, b, c, v⟩ && heldB o h hd)
    have e : nthW (tabN o n []) i (waitsOn o i) = waitsOn o i := by
      rw [nthW_eq, tabN_eq]
      split <;> rfl
    rw [e, heldF_eq o n h hd, bK_eq]
    have e2 : @Bool.rec.{1} (fun _ => Bool) (bkK (getH h b) (cellS c v)) true (waitsOn o i) = held1 o h ⟨i, b, c, v⟩ := by
      show _ = bif waitsOn o i then true else ((loadCell h b c).map (sameC v)).getD false
      cases waitsOn o i with
      | true => rfl
      | false =>
        show bkK (getH h b) (cellS c v) = (((getBk h b).bind (ldIn c)).map (sameC v)).getD false
        rw [bkK_eq, getH_eq]
        unfold getBk
        cases bkO (h.get .dead b) with
        | none => rfl
        | some k =>
          show bK (Nat.blt c k.n) (sameC v (getP (pathOf c) k.t k.d)) = ((bif Nat.blt c k.n then some (k.t.get k.d c) else none).map (sameC v)).getD false
          rw [bK_eq, get_path]
          cases Nat.blt c k.n <;> rfl
    rw [e2]
    cases held1 o h ⟨i, b, c, v⟩ <;> rfl
theorem nsL_eq (P : Program) (σ : St) : ∀ ps : List Oper, nsS (nsL P ps) σ = newsOk P σ ps
  | [] => by cases σ; rfl
  | o :: l => by
    have ih := nsL_eq P σ l
    obtain ⟨fr, ds, h, nx⟩ := σ
    show bK (isR ((opB P o.op).f fr h nx)) ((nsL P l).go fr h nx) = (isSomeR (opA o.op P fr h nx) && newsOk P ⟨fr, ds, h, nx⟩ l)
    rw [← ih, opB_eq, bK_eq]
    cases opA o.op P fr h nx <;> rfl
theorem drL_eq (P : Program) (prim : Prim) (ops : Array Oper) (self : Self) (sz : Nat) (k : Kx) : ∀ (p : Plan) (hd : Held) (σ : St), (drL P prim ops p).go self sz hd σ k = drawK P prim self ops sz p k hd σ
  | .done, _, _ => rfl
  | .fl i o r, hd, σ => by
    show (flG P ops i o (drL P prim ops r) o.guard).go self sz hd σ k = flK P ops i o sz hd σ (drawK P prim self ops sz r k)
    rw [flG_eq]
    exact congrArg _ (funext fun hd' => funext fun σ' => drL_eq P prim ops self sz k r hd' σ')
  | .ef j o ps r, hd, σ => by
    have core : ∀ σ, (efG (copO P prim ops o) (tabN o ops.size []) o (drL P prim ops r)).go self sz hd σ k = efK P prim self ops o sz hd σ (drawK P prim self ops sz r k) := by
      intro σ
      show (copO P prim ops o).go self sz σ (efN (tabN o ops.size []) o (drL P prim ops r) self sz hd k) = ops1 P prim self ops sz o σ fun σ' => bif heldB o σ'.h hd then drawK P prim self ops sz r k hd σ' else false
      rw [copO_eq]
      refine congrArg _ (funext fun σ' => ?_)
      show bK (heldF (tabN o ops.size []) o σ'.h hd) ((drL P prim ops r).go self sz hd σ' k) = _
      rw [heldF_eq, bK_eq, drL_eq P prim ops self sz k r hd σ']
    show (efP P ps (efG (copO P prim ops o) (tabN o ops.size []) o (drL P prim ops r))).go self sz hd σ k = bif newsOk P σ ps then efK P prim self ops o sz hd σ (drawK P prim self ops sz r k) else false
    cases ps with
    | nil => exact core σ
    | cons a l =>
      show bK (nsS (nsL P (a :: l)) σ) ((efG (copO P prim ops o) (tabN o ops.size []) o (drL P prim ops r)).go self sz hd σ k) = _
      rw [nsL_eq, bK_eq, core]
  | .al j o ps r, hd, σ => by
    show bK (nsS (nsL P ps) σ) ((mkGen (opB P o.op) o.dst).go self sz σ (drNext (drL P prim ops r) self sz k hd)) = bif newsOk P σ ps then finO sz σ o.dst (drawK P prim self ops sz r k hd) (opA o.op P σ.fr σ.h σ.nx) else false
    rw [nsL_eq, bK_eq, mkGen_eq, opB_eq]
    have e : drNext (drL P prim ops r) self sz k hd = drawK P prim self ops sz r k hd := funext fun σ' => drL_eq P prim ops self sz k r hd σ'
    rw [e]
theorem thenF_eq (self : Self) (b : Code) (cx : Cx) (k : Kx) : thenF self b cx k = thenX self b cx k := by
  funext x; cases x <;> rfl
theorem blockF_eq (id : Nat) (k : Kx) : blockF id k = blockX id k := by
  funext x
  cases x <;> first | rfl | skip
  rename_i i
  funext σ
  show @Bool.rec.{1} (fun _ => Bool) (k (.ex i) σ) (k .nm σ) (Nat.beq i id) = bif Nat.beq i id then k .nm σ else k (.ex i) σ
  cases Nat.beq i id <;> rfl
theorem ccO_eq (P : Program) (prim : Prim) (c : Code) (self : Self) (cx : Cx) (σ : St) (k : Kx) : (ccO P prim c).go self cx σ k = stepC c P prim self cx σ k := by
  cases c <;> first | rfl | skip
  · rename_i id ops draw
    cases draw with
    | false => exact crL_eq P prim ops ops.toList self cx.sz σ k
    | true =>
      show (ccDraw P prim ops (planF P ops)).go self cx σ k = drawO P prim self ops cx.sz σ k (planOf P ops)
      rw [planF_eq]
      cases planOf P ops with
      | none => rfl
      | some p => exact drL_eq P prim ops self cx.sz k p [] σ
  · rename_i a b
    show self (.code a) cx σ (thenF self b cx k) = self (.code a) cx σ (thenX self b cx k)
    rw [thenF_eq]
  · rename_i c a b
    show (cvO c).g σ.fr (condG self a b cx σ k) = ((evA σ.fr c).map (condB self a b cx σ k)).getD false
    rw [cvO_eq]
    cases evA σ.fr c with
    | none => rfl
    | some v =>
      cases v <;> first | rfl | skip
      rename_i t
      cases t <;> rfl
  · rename_i id b
    show self (.code b) cx σ (blockF id k) = self (.code b) cx σ (blockX id k)
    rw [blockF_eq]
  · rename_i b
    show self (.code b) cx σ (thenF self (.loop b) cx k) = self (.code b) cx σ (thenX self (.loop b) cx k)
    rw [thenF_eq]
theorem runF_eq (P : Program) (prim : Prim) : ∀ n, runF P prim n = run P prim n
  | 0 => rfl
  | n + 1 => by
    funext j cx σ k
    show (cjO P prim j).go (runF P prim n) cx σ k = step j P prim (run P prim n) cx σ k
    rw [runF_eq P prim n]
    cases j with
    | code c => exact ccO_eq P prim c _ cx σ k
    | scope b c => rfl
/-! ### Prims as a list: a function's own is found once -/
inductive Pr where
  | and (f : FuncId) (g : List AV → Hp → Nat → Option Rs)
  | andL (f : FuncId) (g : Pm)
  | or (f : FuncId) (g : List AV → Hp → Nat → Option Rs)
structure Pmb where
  g : Pm
noncomputable section
def pmNo : Pm := fun _ _ _ => none
def pmOne (g : List AV → Hp → Nat → Option Rs) : Pm := fun args h nx => @Option.rec.{1,0} Rs (fun _ => Option (List Rs)) none (fun r => some [r]) (g args h nx)
def pmOr (g : List AV → Hp → Nat → Option Rs) (r : Pmb) : Pm := fun args h nx => @Option.rec.{1,0} Rs (fun _ => Pmb → List AV → Hp → Nat → Option (List Rs)) (fun r args h nx => r.g args h nx) (fun a _ _ _ _ => some [a]) (g args h nx) r args h nx
def primB : List Pr → FuncId → Pmb
  | [], _ => ⟨pmNo⟩
  | .and f' g :: l, f => bif Nat.beq f f' then ⟨pmOne g⟩ else primB l f
  | .andL f' g :: l, f => bif Nat.beq f f' then ⟨g⟩ else primB l f
  | .or f' g :: l, f => bif Nat.beq f f' then ⟨pmOr g (primB l f)⟩ else primB l f
def primOf (l : List Pr) : Prim := fun f args h nx => (primB l f).g args h nx
end
theorem primOf_none : primOf [] = primNone := rfl
theorem primOf_and (f : FuncId) (g : List AV → Hp → Nat → Option Rs) (l : List Pr) : primOf (.and f g :: l) = primAnd f g (primOf l) := by
  funext f' args h nx
  show (bif Nat.beq f' f then (⟨pmOne g⟩ : Pmb) else primB l f').g args h nx = bif Nat.beq f' f then (g args h nx).map one else (primB l f').g args h nx
  cases Nat.beq f' f with
  | false => rfl
  | true =>
    show pmOne g args h nx = (g args h nx).map one
    unfold pmOne
    cases g args h nx <;> rfl
theorem primOf_or (f : FuncId) (g : List AV → Hp → Nat → Option Rs) (l : List Pr) : primOf (.or f g :: l) = primOr f g (primOf l) := by
  funext f' args h nx
  show (bif Nat.beq f' f then (⟨pmOr g (primB l f')⟩ : Pmb) else primB l f').g args h nx = bif Nat.beq f' f then orR (g args h nx) ((primB l f').g args h nx) else (primB l f').g args h nx
  cases Nat.beq f' f with
  | false => rfl
  | true =>
    show pmOr g (primB l f') args h nx = orR (g args h nx) ((primB l f').g args h nx)
    unfold pmOr
    cases g args h nx <;> rfl
/-! ### More cuts: a loop's round opened; a piece that ends as it should -/
section
variable {P : Program} {prim : Prim} {cx : Cx} {σ : St} {k : Kx}
theorem loop_open {c : Code} (hc : isLoop c = true) (h : All P (.code (inner c)) cx σ (thenX (All P) c cx k) = true) : All P (.code c) cx σ k = true := by
  have e := isLoop_eq hc
  rw [e]
  refine all_loop ?_
  rw [← e]; exact h
theorem pass_end (hN : NoNum P) (hp : PrimOk P prim) (hmx : P.follows .mixedOrders = true) {n : Nat} {c : Code} {l : Lit} (h1 : run P prim n (.code c) cx σ (cutK l cx.sz) = true) (h2 : ∀ σ', litB l cx.sz σ' = true → k .nm σ' = true) : All P (.code c) cx σ k = true := by
  refine all_mono (all_run hN hp hmx h1) fun x σ' hx => ?_
  cases x with
  | nm => exact h2 σ' hx
  | _ => cases hx
end
end Ex
end Go.Proofs.YtajoljoegbeiiaaGreatDoor
