/-
  WalPlays, plain law: the state of the game, act by act. WalPlays: both Opens, whatever the file's size. WalPlays: an act as it comes in; what lies between two rounds of the game.
-/
import Derived.Test.YtdngjkjoahgelaaGreatDoorQsB
import Derived.Test.YtdngjkjoahgelaaGreatDoorWc4
namespace Go.Proofs.YtdngjkjoahgelaaGreatDoor
set_option linter.all false
section
variable {room most k : Nat} {p : Bt} {D : Fls} {F : List WF}
theorem go_len (room : Nat) (p : Bt) : ∀ (ns : List Nat) (nx : Option Nat) (D : Fls), (goW room p nx ns D).2.1.length ≤ D.length + 3
  | [], nx, D => by rw [goW]; simp
  | n :: ns, nx, D => by
    have hdel : ∀ (ns : List Nat) (D : Fls), (delAllW p ns D).length ≤ D.length := by
      intro ns
      induction ns with
      | nil => intro D; exact Nat.le_refl _
      | cons m ns ih => intro D; exact Nat.le_trans (ih _) (remove_len _ _)
    rw [goW]
    split
    · have := hdel (n :: ns) D; simp only; omega
    · simp only
      split
      · have h1 := anew_len room D p n ((bytesOf (nameW p n) D).take (goodB (scanB (bytesOf (nameW p n) D))))
        have h2 := hdel ns (anewW room D p n ((bytesOf (nameW p n) D).take (goodB (scanB (bytesOf (nameW p n) D))))).2
        split
        · simp only; omega
        · simp only; omega
      · exact go_len room p ns _ D
theorem open_len (room : Nat) (p : Bt) (D : Fls) : (openW room D p).2.1.length ≤ D.length + 3 := by
  have h1 := go_len room p (numsW (removeD D (tmpW p)).2 p) none (removeD D (tmpW p)).2
  have h2 := remove_len D (tmpW p)
  unfold openW
  omega
/-- The state behind k acts. -/
structure PlayI (room k : Nat) (D : Fls) (F : List WF) : Prop where
  log : Log room [119] D F
  used : usedD D ≤ 1800 + 208 * k
  many : F.length ≤ 9 + 3 * k
  len : D.length ≤ 9 + 3 * k
namespace PlayI
theorem start (h : DOk room D) (hl : D.length ≤ 6) (hu : usedD D ≤ 1800) (h0 : (openW room D [119]).1 = 0) : PlayI room 0 (openW room D [119]).2.1 (openW room D [119]).2.2 := by
  obtain ⟨u1, u2⟩ := used_open h (p := [119]) (by decide)
  have := open_len room [119] D
  exact ⟨log_open h (by decide) h0, by omega, by omega, by omega⟩
theorem append (h : PlayI room k D F) (hm : 1 ≤ most) {r : Bt} (hr : r.length ≤ 200) : PlayI room (k + 1) (appendW room most [119] D F r).2.1 (appendW room most [119] D F r).2.2 := by
  obtain ⟨a1, a2, a3⟩ := h.log.app_any hm r (by omega)
  have := appendW_len (room := room) (most := most) (p := [119]) h.log.ok.srt F r
  have h1 := h.used; have h2 := h.many; have h3 := h.len
  exact ⟨a1, by omega, by omega, by omega⟩
theorem sync (h : PlayI room k D F) : PlayI room (k + 1) (syncW D [119] F) F := by
  obtain ⟨a1, _, a3, _⟩ := h.log.sync
  have := syncW_len h.log.ok.srt [119] F
  have h1 := h.used; have h2 := h.many; have h3 := h.len
  exact ⟨a1, by omega, by omega, by omega⟩
theorem drop (h : PlayI room k D F) (n : Nat) : PlayI room (k + 1) (dropW [119] n F D).1 (dropW [119] n F D).2 := by
  obtain ⟨D', F', e, a1, _, a3, _, _, _, _, a4⟩ := h.log.drop' n
  have := drop_len [119] n F D
  rw [e] at this ⊢
  have h1 := h.used; have h2 := h.many; have h3 := h.len
  simp only at this ⊢
  exact ⟨a1, by omega, by omega, by omega⟩
theorem cut (h : PlayI room k D F) (n : Nat) : PlayI room (k + 1) (cutW room [119] D F n).2.1 (cutW room [119] D F n).2.2 := by
  obtain ⟨a1, a2, a3⟩ := h.log.cut_any n
  have := cut_len room [119] D F n
  have h1 := h.used; have h2 := h.many; have h3 := h.len
  exact ⟨a1, by omega, by omega, by omega⟩
theorem same (h : PlayI room k D F) : PlayI room (k + 1) D F := by
  have h1 := h.used; have h2 := h.many; have h3 := h.len
  exact ⟨h.log, by omega, by omega, by omega⟩
theorem crash (h : PlayI room k D F) (keep : List Int) (h0 : (openW room (crashD keep 0 D) [119]).1 = 0) : PlayI room (k + 1) (openW room (crashD keep 0 D) [119]).2.1 (openW room (crashD keep 0 D) [119]).2.2 := by
  have hc := h.log.ok.crash keep
  obtain ⟨u1, u2⟩ := used_open hc (p := [119]) (by decide)
  have h4 := open_len room [119] (crashD keep 0 D)
  have h5 := used_crash keep 0 D h.log.ok.sync
  have h6 := crash_len keep 0 D
  have h1 := h.used; have h2 := h.many; have h3 := h.len
  exact ⟨log_open hc (by decide) h0, by omega, by omega, by omega⟩
/-- What the contracts ask. -/
theorem hyps (h : PlayI room k D F) (hk : k ≤ 40) : F.length + 1 ≤ 1000000 ∧ (∀ f ∈ F, f.size + 2000000 ≤ 1099511627776) ∧ D.length ≤ 999000 ∧ usedD D ≤ 500000000000 := by
  have h1 := h.used; have h2 := h.many; have h3 := h.len
  exact ⟨by omega, fun f hf => by have := h.log.fsize hf; omega, by omega, by omega⟩
end PlayI
theorem begD_ok (room : Nat) (hr : room ≤ 9223372036854775807) : ∀ (n : Nat) (fs : List Pair), fs.length ≤ n → DOk room (begD room [] fs) ∧ (begD room [] fs).length ≤ fs.length ∧ usedD (begD room [] fs) ≤ 300 * fs.length
  | 0, fs, h => by
    obtain rfl := List.eq_nil_of_length_eq_zero (by omega : fs.length = 0)
    exact ⟨⟨List.Pairwise.nil, by simp [usedD, begD], hr, (fun f hf => by cases hf), fun f hf => by cases hf⟩, by simp [begD], by simp [begD, usedD]⟩
  | n + 1, fs, h => by
    rcases fs.eq_nil_or_concat with rfl | ⟨l, x, rfl⟩
    · exact begD_ok room hr n [] (by simp)
    · rw [List.concat_eq_append] at h ⊢
      rw [List.length_append, List.length_singleton] at h ⊢
      obtain ⟨a1, a2, a3⟩ := begD_ok room hr n l (by omega)
      rw [begD_snoc]
      have b1 := a1.append (begN x) (begB x)
      have b2 := appendD_len room (begD room [] l) (begN x) (begB x)
      have b3 := used_app_le a1 (begN x) (begB x) (begN_ok x)
      have b4 : (begB x).length ≤ 300 := by rw [begB, List.length_take]; omega
      exact ⟨b1, by omega, by omega⟩
end
end Go.Proofs.YtdngjkjoahgelaaGreatDoor

namespace Go.Proofs.YtdngjkjoahgelaaGreatDoor
set_option linter.all false
open Go.RowKit
section
variable {B w w' : World} {L : List HP} {p room : Nat} {D : Fls} {v : Value}
/-- What Open makes, at any size of a file. -/
def openM (room : Nat) (most : Int) (D : Fls) : Int × Fls × List WF := if most < 1 then (2, D, []) else openW room D [119]
theorem pwOpenM (hE : Env B) (most : Int) (hm : most ≤ 9223372036854775807) (hl : D.length ≤ 999000) (hu : usedD D ≤ 500000000000) (h : Sat B (disk p room D :: L) w) :
    Calls Tryz.prog 8 #[.pointer (some ⟨p, 0, none⟩), .string (bA [119]), .int .i64 most] w fun y w' =>
      ((openM room most D).1 = 0 ∧ 1 ≤ most ∧ ∃ q, y = .returned (.tuple #[.pointer (some ⟨q, 0, none⟩), .int .i64 0]) ∧ Sat B (wal q p [119] most.toNat (openM room most D).2.2 :: disk p room (openM room most D).2.1 :: L) w') ∨
      ((openM room most D).1 ≠ 0 ∧ y = .returned (.tuple #[.pointer none, .int .i64 (openM room most D).1]) ∧ Sat B (disk p room (openM room most D).2.1 :: L) w') := by
  by_cases h1 : most < 1
  · refine (pwOpen_bad most h1 (by decide)).mono ?_
    rintro y w' ⟨rfl, rfl⟩
    rw [openM, if_pos h1]
    exact .inr ⟨show ¬ (2 : Int) = 0 by decide, rfl, h⟩
  · obtain ⟨m, rfl⟩ : ∃ m : Nat, most = (m : Int) := ⟨most.toNat, by omega⟩
    refine (pwOpenU hE (pre := [119]) (most := m) (by decide) (by omega) (by omega) (by omega) (by omega) h).mono ?_
    intro y w' hy
    rw [openM, if_neg h1, Int.toNat_natCast]
    rcases hy with ⟨e, q, e2, hs⟩ | ⟨e, e2, hs⟩
    · exact .inl ⟨e, by omega, q, e2, hs⟩
    · exact .inr ⟨e, e2, hs⟩
theorem pqOpenM (most : Int) (hm : most ≤ 9223372036854775807) (hD : DOk room D) (hl : D.length ≤ 999000) (hu : usedD D ≤ 500000000000) (hq : qR w v D) :
    Calls Tryz.prog 23 #[qval (room : Int) v, .string (bA [119]), .int .i64 most] w fun y w' => ∃ v' pr mo, y = .returned (.tuple #[wval (room : Int) v' pr mo, .int .i64 (openM room most D).1]) ∧
      ((openM room most D).1 = 0 → pr = [119] ∧ mo = most) ∧ qNew w w' v v' D (openM room most D).2.1 := by
  by_cases h1 : most < 1
  · refine (pqOpen_bad (p := [119]) hq (by decide) h1).mono ?_
    rintro y w' ⟨rfl, hb⟩
    rw [openM, if_pos h1]
    exact ⟨v, [], 0, rfl, (fun e => absurd (show (2 : Int) = 0 from e) (by decide)), .inr ⟨rfl, rfl, hb⟩⟩
  · refine (pqOpenW (p := [119]) hq hD hl hu (by decide) ⟨by omega, hm⟩).mono ?_
    rintro y w' ⟨v', rfl, hn⟩
    rw [open_eq hD (by decide)] at hn ⊢
    rw [openM, if_neg h1]
    exact ⟨v', [119], most, rfl, fun _ => ⟨rfl, rfl⟩, hn⟩
/-- What lies behind Open: the log and its disk, or the disk alone. -/
def opH (c : Int) (q p room : Nat) (most : Int) (D : Fls) (F : List WF) : HP := if c = 0 then stars [wal q p [119] most.toNat F, disk p room D] else stars [disk p room D]
def opV (c : Int) (q : Nat) : Value := if c = 0 then .pointer (some ⟨q, 0, none⟩) else .pointer none
/-- Open, both ways under one name. -/
theorem pwOpenX (hE : Env B) (most : Int) (hm : most ≤ 9223372036854775807) (hl : D.length ≤ 999000) (hu : usedD D ≤ 500000000000) (h : Sat B (disk p room D :: L) w) :
    Calls Tryz.prog 8 #[.pointer (some ⟨p, 0, none⟩), .string (bA [119]), .int .i64 most] w fun y w' =>
      ∃ q, y = .returned (.tuple #[opV (openM room most D).1 q, .int .i64 (openM room most D).1]) ∧ Sat B (opH (openM room most D).1 q p room most (openM room most D).2.1 (openM room most D).2.2 :: L) w' := by
  refine (pwOpenM hE most hm hl hu h).mono ?_
  rintro y w' (⟨e, _, q, rfl, hs⟩ | ⟨e, rfl, hs⟩)
  · refine ⟨q, by rw [opV, if_pos e, e], ?_⟩
    rw [opH, if_pos e]
    exact Sat.fold (L := [_, _]) hs
  · refine ⟨0, by rw [opV, if_neg e], ?_⟩
    rw [opH, if_neg e]
    exact Sat.fold (L := [_]) hs
theorem openM_ok {most : Int} {k : Nat} {F : List WF} (h : PlayI room k D F) (keep : List Int) (h0 : (openM room most (crashD keep 0 D)).1 = 0) : PlayI room (k + 1) (openM room most (crashD keep 0 D)).2.1 (openM room most (crashD keep 0 D)).2.2 := by
  by_cases h1 : most < 1
  · rw [openM, if_pos h1] at h0; cases h0
  · rw [openM, if_neg h1] at h0 ⊢; exact h.crash keep h0
theorem openM_start {most : Int} (h : DOk room D) (hl : D.length ≤ 6) (hu : usedD D ≤ 1800) (h0 : (openM room most D).1 = 0) : PlayI room 0 (openM room most D).2.1 (openM room most D).2.2 := by
  by_cases h1 : most < 1
  · rw [openM, if_pos h1] at h0; cases h0
  · rw [openM, if_neg h1] at h0 ⊢; exact PlayI.start h hl hu h0
/-- Where Open fails the disk is still small. -/
theorem openM_small {most : Int} (h : DOk room D) : usedD (openM room most D).2.1 ≤ usedD D ∧ (openM room most D).2.1.length ≤ D.length + 3 := by
  by_cases h1 : most < 1
  · rw [openM, if_pos h1]; exact ⟨Nat.le_refl _, by simp⟩
  · rw [openM, if_neg h1]; exact ⟨(used_open h (by decide)).1, open_len _ _ _⟩
end
end Go.Proofs.YtdngjkjoahgelaaGreatDoor

namespace Go.Proofs.YtdngjkjoahgelaaGreatDoor
set_option linter.all false
open Go.RowKit
/-- An act as it comes in. -/
structure ActV where
  kind : Int
  num : Nat
  text : ByteArray
  ka : Option Addr
  kn : Nat
  kc : Nat
  keep : List Int
def ActV.cells (x : ActV) : List Value := [.int .i64 x.kind, .int .u64 (x.num : Int), .string x.text, .slice x.ka x.kn x.kc]
structure ActV.Ok (W : World) (x : ActV) : Prop where
  kind : -9223372036854775808 ≤ x.kind ∧ x.kind ≤ 9223372036854775807
  num : x.num ≤ 18446744073709551615
  len : x.keep.length = x.kn
  keep : reads W (.slice x.ka x.kn x.kc) x.kn (ints64 x.keep)
theorem act_get : ∀ {acts : List ActV} {i : Nat} {x : ActV}, acts[i]? = some x → ∀ j u, x.cells[j]? = some u → (acts.flatMap ActV.cells)[i * 4 + j]? = some u
  | [], _, _, h, _, _, _ => by simp at h
  | y :: acts, 0, x, h, j, u, hu => by
    simp at h; subst h
    have hj : j < y.cells.length := (List.getElem?_eq_some_iff.1 hu).1
    rw [List.flatMap_cons, Nat.zero_mul, Nat.zero_add, List.getElem?_append_left hj]
    exact hu
  | y :: acts, i + 1, x, h, j, u, hu => by
    have ih := act_get (acts := acts) (i := i) (x := x) (by simpa using h) j u hu
    have el : y.cells.length = 4 := rfl
    rw [List.flatMap_cons, List.getElem?_append_right (by omega), el, show (i + 1) * 4 + j - 4 = i * 4 + j by omega]
    exact ih
/-- A slice's beginning. -/
theorem reads_takeI {w : World} {a : Option Addr} {n c : Nat} {zs : List Int} (k : Nat) (hl : zs.length = n) (h : reads w (.slice a n c) n (ints64 zs)) :
    reads w (.slice a (min n k) c) (zs.take k).length (ints64 (zs.take k)) := by
  obtain ⟨a', c', e, h1, h2, h3, h4⟩ := h
  cases e
  have hk : (zs.take k).length = min n k := by rw [List.length_take, hl, Nat.min_comm]
  refine ⟨a, c, by rw [hk], fun e => ?_, by omega, h3, fun j u hu => h4 j u ?_⟩
  · obtain ⟨e1, e2⟩ := h1 e
    exact ⟨by omega, e2⟩
  · rw [ints64, List.getElem?_map] at hu ⊢
    rw [List.getElem?_take] at hu
    split at hu
    · exact hu
    · cases hu
/-- What lies in a game: the log opened, or not opened. -/
def PlaySt (B : World) (L : List HP) (room : Nat) (most : Int) (p b9 k : Nat) (v7 v8 v10 : Value) (w : World) : Prop :=
  (∃ q D F v, v7 = .pointer (some ⟨q, 0, none⟩) ∧ v8 = .int .i64 0 ∧ v10 = .int .i64 0 ∧ 1 ≤ most ∧ PlayI room k D F ∧
    Sat B (wal q p [119] most.toNat F :: disk p room D :: qrow v D :: pt b9 (.cells #[.int .i64 (room : Int), v, .string (bA [119]), .int .i64 most] 58) :: L) w) ∨
  (∃ c D v pr mo, c ≠ 0 ∧ v7 = .pointer none ∧ v8 = .int .i64 c ∧ v10 = .int .i64 c ∧ D.length ≤ 1000000 ∧ usedD D ≤ 1099511627776 ∧
    Sat B (disk p room D :: qrow v D :: pt b9 (.cells #[.int .i64 (room : Int), v, .string (bA pr), .int .i64 mo] 58) :: L) w)
/-- What both states have: the disks that hold the same. -/
theorem PlaySt.disks {B : World} {L : List HP} {room p b9 k : Nat} {most : Int} {v7 v8 v10 : Value} {w : World} (h : PlaySt B L room most p b9 k v7 v8 v10 w) (hk : k ≤ 40) :
    ∃ c D a n cc pr mo M, v8 = .int .i64 c ∧ v10 = .int .i64 c ∧ D.length ≤ 1000000 ∧ usedD D ≤ 1099511627776 ∧
      Sat B (disk p room D :: qrow (.slice a n cc) D :: pt b9 (.cells #[.int .i64 (room : Int), .slice a n cc, .string (bA pr), .int .i64 mo] 58) :: M) w := by
  rcases h with ⟨q, D, F, v, rfl, rfl, rfl, hm, hI, h8⟩ | ⟨c, D, v, pr, mo, hc, rfl, rfl, rfl, hl, hu, h8⟩
  · obtain ⟨a, cc, rfl⟩ := h8.p2.q_row.len
    obtain ⟨_, _, y1, y2⟩ := hI.hyps hk
    exact ⟨0, D, a, _, cc, [119], most, _, rfl, rfl, by omega, by omega, h8.q3⟩
  · obtain ⟨a, cc, rfl⟩ := h8.swap.q_row.len
    exact ⟨c, D, a, _, cc, pr, mo, _, rfl, rfl, hl, hu, h8⟩
theorem openM_most {room : Nat} {most : Int} {D : Fls} (h : (openM room most D).1 = 0) : 1 ≤ most := by
  by_cases h1 : most < 1
  · rw [openM, if_pos h1] at h; exact absurd (show (2 : Int) = 0 from h) (by decide)
  · omega
end Go.Proofs.YtdngjkjoahgelaaGreatDoor
