/-
  Logs, in plain Lean: what Open, Append, Sync, Cut, Drop, Get make of a disk and a log's files.
-/
import Derived.Test.YtdngjkjoahgelaaGreatDoorWlP
namespace Go.Proofs.YtdngjkjoahgelaaGreatDoor
set_option linter.all false
/-- A file of a log: its number, its records. -/
structure WF where
  first : Nat
  recs : List Bt
abbrev WF.next (f : WF) : Nat := f.first + f.recs.length
abbrev WF.size (f : WF) : Nat := goodB f.recs
def firstW : List WF → Nat
  | [] => 1
  | f :: _ => f.first
def nextW (F : List WF) : Nat := match F.getLast? with
  | none => 1
  | some f => f.next
theorem nextW_snoc (F : List WF) (f : WF) : nextW (F ++ [f]) = f.next := by simp [nextW]
def tmpW (p : Bt) : Bt := p ++ [116, 109, 112]
/-- 'anew'. -/
def anewW (room : Nat) (D : Fls) (p : Bt) (n : Nat) (bytes : Bt) : Int × Fls :=
  let D1 := (removeD D (tmpW p)).2
  let x := appendD room D1 (tmpW p) bytes
  if x.1 = 0 then renameD (syncD x.2 (tmpW p)).2 (tmpW p) (nameW p n) else (x.1, D1)
def delAllW (p : Bt) (ns : List Nat) (D : Fls) : Fls := ns.foldl (fun D n => (removeD D (nameW p n)).2) D
def numsW (D : Fls) (p : Bt) : List Nat := ((listD D p).map fun s => numberB (s.drop p.length)).filter fun n => decide (0 < n)
def goW (room : Nat) (p : Bt) : Option Nat → List Nat → Fls → Int × Fls × List WF
  | _, [], D => (0, D, [])
  | nx, n :: ns, D =>
    if nx ≠ none ∧ nx ≠ some n then (0, delAllW p (n :: ns) D, [])
    else
      let s := bytesOf (nameW p n) D
      if goodB (scanB s) < s.length then
        let x := anewW room D p n (s.take (goodB (scanB s)))
        if x.1 = 0 then (0, delAllW p ns x.2, [⟨n, scanB s⟩]) else (x.1, x.2, [])
      else
        let y := goW room p (some (n + (scanB s).length)) ns D
        (y.1, y.2.1, ⟨n, scanB s⟩ :: y.2.2)
def openW (room : Nat) (D : Fls) (p : Bt) : Int × Fls × List WF := goW room p none (numsW (removeD D (tmpW p)).2 p) (removeD D (tmpW p)).2
def getW (F : List WF) (n : Nat) : Option Bt := match F with
  | [] => none
  | f :: F => if f.first ≤ n ∧ n < f.next then f.recs[n - f.first]? else getW F n
def syncW (D : Fls) (p : Bt) (F : List WF) : Fls := match F.getLast? with
  | none => D
  | some f => (syncD D (nameW p f.first)).2
def freshW (most : Nat) (F : List WF) : Bool := match F.getLast? with
  | none => true
  | some f => decide (most ≤ f.size)
def appendW (room most : Nat) (p : Bt) (D : Fls) (F : List WF) (r : Bt) : Int × Fls × List WF :=
  if 1048576 < r.length then (3, D, F)
  else if freshW most F = true then
    if 1000000000000000 < nextW F then (7, D, F)
    else
      let D1 := syncW D p F
      let x := appendD room D1 (nameW p (nextW F)) (frameB r)
      if x.1 = 0 then (0, x.2, F ++ [⟨nextW F, [r]⟩]) else (x.1, D1, F)
  else match F.getLast? with
    | none => (0, D, F)
    | some f =>
      let x := appendD room D (nameW p f.first) (frameB r)
      if x.1 = 0 then (0, x.2, F.dropLast ++ [⟨f.first, f.recs ++ [r]⟩]) else (x.1, D, F)
def dropW (p : Bt) (to : Nat) : List WF → Fls → Fls × List WF
  | f :: g :: F, D => if g.first ≤ to then dropW p to (g :: F) (removeD D (nameW p f.first)).2 else (D, f :: g :: F)
  | F, D => (D, F)
/-- Behind 'Cut's loop: files that begin beyond are gone (the list is from the end). -/
def cutBack (p : Bt) (from_ : Nat) : List WF → Fls → Fls × List WF
  | f :: F, D => if from_ < f.first then cutBack p from_ F (removeD D (nameW p f.first)).2 else (D, f :: F)
  | [], D => (D, [])
def cutW (room : Nat) (p : Bt) (D : Fls) (F : List WF) (from_ : Nat) : Int × Fls × List WF :=
  if from_ < firstW F then (2, D, F)
  else if nextW F ≤ from_ then (0, D, F)
  else
    match cutBack p from_ F.reverse D with
    | (D1, f :: R) =>
      let x := anewW room D1 p f.first (framesB (f.recs.take (from_ - f.first)))
      if x.1 = 0 then (0, x.2, R.reverse ++ [⟨f.first, f.recs.take (from_ - f.first)⟩]) else (x.1, x.2, R.reverse ++ [f])
    | (D1, []) => (0, D1, [])
end Go.Proofs.YtdngjkjoahgelaaGreatDoor
