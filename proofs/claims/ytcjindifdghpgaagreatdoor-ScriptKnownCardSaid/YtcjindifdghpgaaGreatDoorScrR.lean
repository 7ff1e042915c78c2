/-
  Script: how a script's lines are read, in plain Lean.
-/
import Derived.Test.YtcjindifdghpgaaGreatDoorScrN
namespace Go.Proofs.YtcjindifdghpgaaGreatDoor
/-- One line of choices. -/
def stepB (i : Nat) (prev raw : Bs) : Option Bs → Except Int Bs
  | none => .error 15
  | some b => if b = [] ∨ 32 < b.length ∨ (1 < i ∧ prev.length ≠ 64) then .error 15 else if 16384 < raw.length + b.length then .error 3 else .ok (raw ++ b)
def stepL (i : Nat) (prev line raw : Bs) : Except Int Bs := stepB i prev raw (unhexL line)
/-- The lines behind the first, from the i-th on. -/
def runL : List Bs → Nat → Bs → Bs → Except (Int × Nat) Bs
  | [], i, _, _ => .error (15, i)
  | [l], i, _, raw => if l = [] then .ok raw else .error (15, i)
  | l :: l' :: t, i, prev, raw => match stepL i prev l raw with
    | .error c => .error (c, i)
    | .ok raw' => runL (l' :: t) (i + 1) l raw'
def withX (x : List Int) : Except (Int × Nat) Bs → Except (Int × Nat) (List Int × Bs)
  | .error e => .error e
  | .ok raw => .ok (x, raw)
def parseLs : List Bs → Except (Int × Nat) (List Int × Bs)
  | [] => .error (15, 0)
  | [_] => .error (15, 0)
  | l :: l' :: t => match setupL l with
    | none => .error (15, 0)
    | some x => withX x (runL (l' :: t) 1 l [])
def parseL (s : Bs) : Except (Int × Nat) (List Int × Bs) := if 65536 < s.length then .error (3, 0) else parseLs (splL 10 s)
theorem run_last (ls : List Bs) (n i : Nat) (hn : ls.length = n + 1) (hi : i = n) (prev raw l : Bs) (hl : ls[n]? = some l) : runL (ls.drop i) i prev raw = if l = [] then .ok raw else .error (15, n) := by
  subst hi
  have : ls.drop i = [l] := by
    have h1 : i < ls.length := by omega
    rw [List.drop_eq_getElem_cons h1, List.drop_of_length_le (by omega)]
    rw [List.getElem?_eq_getElem h1] at hl
    cases hl; rfl
  rw [this, runL]
def nextL (ls : List Bs) (i : Nat) (l : Bs) : Except Int Bs → Except (Int × Nat) Bs
  | .error c => .error (c, i)
  | .ok raw' => runL (ls.drop (i + 1)) (i + 1) l raw'
theorem run_step (ls : List Bs) (n i : Nat) (hn : ls.length = n + 1) (hi : i < n) (prev raw l : Bs) (hl : ls[i]? = some l) :
    runL (ls.drop i) i prev raw = nextL ls i l (stepL i prev l raw) := by
  have h1 : i < ls.length := by omega
  have h2 : i + 1 < ls.length := by omega
  rw [List.getElem?_eq_getElem h1] at hl
  cases hl
  rw [List.drop_eq_getElem_cons h1, List.drop_eq_getElem_cons h2, runL]
  cases stepL i prev ls[i] raw with
  | error c => rfl
  | ok r => rw [nextL, ← List.drop_eq_getElem_cons h2]
end Go.Proofs.YtcjindifdghpgaaGreatDoor
