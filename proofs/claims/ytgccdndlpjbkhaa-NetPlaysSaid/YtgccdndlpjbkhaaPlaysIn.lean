/-
  NetPlays: the acts that came in.
-/
import Derived.Test.YtgccdndlpjbkhaaPlays
import Derived.Test.YtgccdndlpjbkhaaReadRow
namespace Go.Proofs.Ytgccdndlpjbkhaa
open Go.RowKit Go.ChangeAt Go.ChangeShapes Go.Deep Go.Joins
section
variable {H : Type} {enc : TypeId × Value → H} {w : World} {base : Nat} {held : Bool}

theorem pk_of_trod {n : Nat} {cs : List Value} {y : DataW H × List MemPlace} (hl : cs.length = 3) (h : DataW.trod enc Try.prog w base (fun _ => true) held n 27 cs = some y) : ∃ p : Pk, cs = pcells p ∧ True := by
  match cs, hl with
  | [c0, c1, c2], _ =>
    obtain ⟨y0, y1, y2, m, _, _, h0, h1, h2⟩ := trod_struct3 Try.underlying27 h
    obtain ⟨i0, e0, _⟩ := DataW.trod_int Try.underlying3 h0
    obtain ⟨i1, e1, _⟩ := DataW.trod_int Try.underlying3 h1
    obtain ⟨s2, e2, _⟩ := DataW.trod_string Try.underlying9 h2
    have k3 : Try.prog.cellsOf 3 = 1 := by kernel_rfl
    have ks : Try.prog.cellsOf 9 = 1 := by kernel_rfl
    simp [k3, ks] at e0 e1 e2
    subst e0; subst e1; subst e2
    exact ⟨(i0, i1, s2), rfl, trivial⟩
theorem pks_of_trod {n : Nat} {a : Option Addr} {len cap : Nat} {y : DataW H × List MemPlace} (h : DataW.trod enc Try.prog w base (fun _ => true) held n 36 [.slice a len cap] = some y) :
    ∃ ps : List Pk, ps.length = len ∧ reads w (.slice a len cap) len (pks ps) := by
  obtain ⟨ps, h1, h2, _⟩ := reads_of_slice (size := 3) Try.underlying36 (by kernel_rfl) (by decide) pcells (fun _ => True) (fun _ _ _ hl h => pk_of_trod hl h) h
  exact ⟨ps, h1, h2⟩
theorem act_of_trod {n : Nat} {cs : List Value} {y : DataW H × List MemPlace} (hl : cs.length = 4) (h : DataW.trod enc Try.prog w base (fun _ => true) held n 40 cs = some y) :
    ∃ x : ActV, cs = acells x ∧ x.ps.length = x.ln ∧ reads w (.slice x.la x.ln x.lc) x.ln (pks x.ps) := by
  match cs, hl with
  | [c0, c1, c2, c3], _ =>
    obtain ⟨y0, y1, y2, y3, m, _, _, h0, h1, h2, h3⟩ := trod_struct4 Try.underlying40 h
    obtain ⟨i0, e0, _⟩ := DataW.trod_int Try.underlying3 h0
    obtain ⟨i1, e1, _⟩ := DataW.trod_int Try.underlying3 h1
    obtain ⟨i2, e2, _⟩ := DataW.trod_int Try.underlying3 h2
    have k3 : Try.prog.cellsOf 3 = 1 := by kernel_rfl
    have ks : Try.prog.cellsOf 36 = 1 := by kernel_rfl
    simp [k3] at e0 e1 e2
    simp [ks] at h3
    subst e0; subst e1; subst e2
    rcases open_slice Try.underlying36 h3 with ⟨hcs, _⟩ | ⟨b, l, c, _, _, _, _, hcs, _⟩
    · simp at hcs
      subst hcs
      obtain ⟨ps, p1, p2⟩ := pks_of_trod h3
      exact ⟨⟨i0, i1, i2, none, 0, 0, ps⟩, rfl, p1, p2⟩
    · simp at hcs
      subst hcs
      obtain ⟨ps, p1, p2⟩ := pks_of_trod h3
      exact ⟨⟨i0, i1, i2, some b, l, c, ps⟩, rfl, p1, p2⟩
theorem acts_of_trod {n : Nat} {a : Option Addr} {len cap : Nat} {y : DataW H × List MemPlace} (h : DataW.trod enc Try.prog w base (fun _ => true) held n 38 [.slice a len cap] = some y) :
    ∃ xs : List ActV, ActsIn w a len cap xs := by
  obtain ⟨xs, h1, h2, h3⟩ := reads_of_slice (size := 4) Try.underlying38 (by kernel_rfl) (by decide) acells (fun x => x.ps.length = x.ln ∧ reads w (.slice x.la x.ln x.lc) x.ln (pks x.ps)) (fun _ _ _ hl h => act_of_trod hl h) h
  exact ⟨xs, h1, h2, h3⟩
end
end Go.Proofs.Ytgccdndlpjbkhaa
