/- A source's tokens in plain Lean: quoted texts, the head of a source, all of it. No program in sight. Conditions: none. -/
import Derived.Test.YtcigdlpljjkplaaDoorL4
import Derived.Test.YtcigdlpljjkplaaDoorJ1
namespace Go.Proofs.YtcigdlpljjkplaaDoor
open Go.RowKit

/-- The worth of a digit of base 16. -/
def hexN (c : UInt8) : Option Nat := if 48 ≤ c.toNat ∧ c.toNat ≤ 57 then some (c.toNat - 48) else if 97 ≤ c.toNat ∧ c.toNat ≤ 102 then some (c.toNat - 87) else none
theorem hexN_lt {c : UInt8} {n : Nat} (h : hexN c = some n) : n < 16 := by
  unfold hexN at h
  split at h
  · simp at h; omega
  · split at h
    · simp at h; omega
    · cases h
/-- What stands behind a backslash: its byte, and how long it is. -/
def pieceP : List UInt8 → Option (UInt8 × Nat)
  | [] => none
  | c :: r => if c.toNat = 110 then some (10, 1) else if c.toNat = 34 ∨ c.toNat = 92 then some (c, 1) else if c.toNat = 120 then
      (match r with
      | a :: b :: _ => (match hexN a, hexN b with | some h, some l => some (UInt8.ofNat (16 * h + l), 3) | _, _ => none)
      | _ => none) else none
/-- A piece of a quoted text, at the head. -/
def stepQ : List UInt8 → Option (UInt8 × Nat)
  | [] => none
  | c :: r => if c.toNat = 92 then (pieceP r).map fun x => (x.1, x.2 + 1) else if 32 ≤ c.toNat ∧ c.toNat ≤ 126 ∧ c.toNat ≠ 34 then some (c, 1) else none
theorem pieceP_pos {l : List UInt8} {v : UInt8} {m : Nat} (h : pieceP l = some (v, m)) : 1 ≤ m ∧ m ≤ 3 ∧ m ≤ l.length := by
  match l with
  | [] => simp [pieceP] at h
  | [c] =>
    simp only [pieceP] at h
    split at h
    · simp at h; simp; omega
    · split at h
      · simp at h; simp; omega
      · simp at h
  | [c, a] =>
    simp only [pieceP] at h
    split at h
    · simp at h; simp; omega
    · split at h
      · simp at h; simp; omega
      · simp at h
  | c :: a :: b :: r =>
    simp only [pieceP] at h
    split at h
    · simp at h; simp; omega
    · split at h
      · simp at h; simp; omega
      · split at h
        · split at h
          · simp at h; simp; omega
          · cases h
        · cases h
theorem stepQ_pos {l : List UInt8} {v : UInt8} {m : Nat} (h : stepQ l = some (v, m)) : 1 ≤ m ∧ m ≤ l.length := by
  match l with
  | [] => simp [stepQ] at h
  | c :: r =>
    rw [stepQ] at h
    split at h
    · rw [Option.map_eq_some_iff] at h
      obtain ⟨⟨v', m'⟩, h1, h2⟩ := h
      have := pieceP_pos h1
      simp at h2
      simp; omega
    · split at h
      · simp at h; simp; omega
      · cases h
/-- The rest of a quoted text, from a place on, what stands before it gathered: the value, the place behind it. -/
def qT (l : List UInt8) (acc : List UInt8) (k : Nat) : Option (List UInt8 × Nat) :=
  match l with
  | [] => none
  | c :: r => if c.toNat = 34 then (if 200 < acc.length then none else some (acc, k + 1)) else
    match _hq : stepQ (c :: r) with
    | none => none
    | some (v, m) => qT ((c :: r).drop m) (acc ++ [v]) (k + m)
termination_by l.length
decreasing_by have := stepQ_pos ‹stepQ (c :: r) = some (v, m)›; simp; omega
theorem qT_nil (acc : List UInt8) (k : Nat) : qT [] acc k = none := by rw [qT]
theorem qT_end {c : UInt8} (r acc : List UInt8) (k : Nat) (h : c.toNat = 34) : qT (c :: r) acc k = if 200 < acc.length then none else some (acc, k + 1) := by rw [qT, if_pos h]
theorem qT_none {c : UInt8} {r : List UInt8} (acc : List UInt8) (k : Nat) (h : c.toNat ≠ 34) (hs : stepQ (c :: r) = none) : qT (c :: r) acc k = none := by
  rw [qT, if_neg h]
  split
  · rfl
  · rename_i v m h2; rw [hs] at h2; cases h2
theorem qT_some {c : UInt8} {r : List UInt8} (acc : List UInt8) (k : Nat) {v : UInt8} {m : Nat} (h : c.toNat ≠ 34) (hs : stepQ (c :: r) = some (v, m)) : qT (c :: r) acc k = qT ((c :: r).drop m) (acc ++ [v]) (k + m) := by
  rw [qT, if_neg h]
  split
  · rename_i h2; rw [hs] at h2; cases h2
  · rename_i v' m' h2
    rw [hs] at h2
    simp only [Option.some.injEq, Prod.mk.injEq] at h2
    obtain ⟨rfl, rfl⟩ := h2
    rfl
/-- What a quoted text at the head stands for. -/
def quotedT (l : List UInt8) : (Int × Tk) × Nat :=
  match qT (l.drop 1) [] 1 with
  | none => ((33, tk0), 0)
  | some (b, k) => ((0, ⟨5, ⟨b.toArray⟩, 0, 0⟩), k)
/-- What the head of a source stands for. -/
def headT (l : List UInt8) : (Int × Tk) × Nat := if (l.head?.map (·.toNat)) = some 34 then quotedT l else firstT l
/-- The tokens of a source from a place on; or the error and its place. -/
def toksT (l : List UInt8) (k : Nat) : Except (Int × Nat) (List Tk) :=
  match l with
  | [] => .ok [⟨8, ⟨#[]⟩, 0, k⟩]
  | c :: r =>
    if blankB c then toksT r (k + 1)
    else if c.toNat = 35 then toksT (r.dropWhile (fun b => b != 10)) (k + 1 + (r.takeWhile (fun b => b != 10)).length)
    else if (headT (c :: r)).1.1 = 0 then
      (toksT (r.drop ((headT (c :: r)).2 - 1)) (k + 1 + ((headT (c :: r)).2 - 1))).map (fun ts => ⟨(headT (c :: r)).1.2.k, (headT (c :: r)).1.2.t, (headT (c :: r)).1.2.n, k⟩ :: ts)
    else .error ((headT (c :: r)).1.1, k)
termination_by l.length
decreasing_by
  · simp
  · have := (List.dropWhile_sublist (fun b : UInt8 => b != 10) (l := r)).length_le; simp; omega
  · simp; omega
theorem toks_nil (k : Nat) : toksT [] k = .ok [⟨8, ⟨#[]⟩, 0, k⟩] := by rw [toksT]
theorem toks_blank {c : UInt8} {r : List UInt8} {k : Nat} (h : blankB c = true) : toksT (c :: r) k = toksT r (k + 1) := by rw [toksT, if_pos h]
theorem toks_hash {c : UInt8} {r : List UInt8} {k : Nat} (h : blankB c = false) (h35 : c.toNat = 35) : toksT (c :: r) k = toksT (r.dropWhile (fun b => b != 10)) (k + 1 + (r.takeWhile (fun b => b != 10)).length) := by
  rw [toksT, if_neg (by rw [h]; decide), if_pos h35]
theorem toks_err {c : UInt8} {r : List UInt8} {k : Nat} (h : blankB c = false) (h35 : c.toNat ≠ 35) (he : (headT (c :: r)).1.1 ≠ 0) : toksT (c :: r) k = .error ((headT (c :: r)).1.1, k) := by
  rw [toksT, if_neg (by rw [h]; decide), if_neg h35, if_neg he]
theorem toks_ok {c : UInt8} {r : List UInt8} {k n : Nat} {t : Tk} (h : blankB c = false) (h35 : c.toNat ≠ 35) (he : headT (c :: r) = ((0, t), n)) (hn : 1 ≤ n) : toksT (c :: r) k = (toksT ((c :: r).drop n) (k + n)).map (fun ts => ⟨t.k, t.t, t.n, k⟩ :: ts) := by
  rw [toksT, if_neg (by rw [h]; decide), if_neg h35, he, if_pos rfl]
  obtain ⟨m, rfl⟩ : ∃ m, n = m + 1 := ⟨n - 1, by omega⟩
  simp only [Nat.add_sub_cancel, List.drop_succ_cons]
  rw [show k + 1 + m = k + (m + 1) by omega]
theorem skip_span (r : List UInt8) : (∃ m, Lib.indexByte r 10 = m ∧ (m = -1 → r.dropWhile (fun b => b != 10) = [] ∧ (r.takeWhile (fun b => b != 10)).length = r.length) ∧ (m ≠ -1 → 0 ≤ m ∧ m.toNat < r.length ∧ r.dropWhile (fun b => b != 10) = r.drop m.toNat ∧ (r.takeWhile (fun b => b != 10)).length = m.toNat)) := by
  refine ⟨_, rfl, ?_⟩
  induction r with
  | nil => simp [Lib.indexByte]
  | cons b r ih =>
    rw [Lib.indexByte]
    by_cases hb : b = 10
    · subst hb
      simp
    · have hbq : (b == 10) = false := beq_eq_false_iff_ne.2 hb
      have hbn : (b != 10) = true := by simp [hb]
      simp only [hbq, Bool.false_eq_true, if_false, List.dropWhile_cons, List.takeWhile_cons, hbn, if_true]
      by_cases hm : Lib.indexByte r 10 = -1
      · obtain ⟨h1, h2⟩ := ih.1 hm
        rw [hm]
        simp [h1, h2]
      · obtain ⟨h1, h2, h3, h4⟩ := ih.2 hm
        have hmq : (Lib.indexByte r 10 == -1) = false := beq_eq_false_iff_ne.2 hm
        simp only [hmq, Bool.false_eq_true, if_false]
        have e : (Lib.indexByte r 10 + 1).toNat = (Lib.indexByte r 10).toNat + 1 := by omega
        refine ⟨fun h => by omega, fun _ => ⟨by omega, by rw [e]; simp; omega, by rw [e, List.drop_succ_cons]; exact h3, by rw [e, List.length_cons, h4]⟩⟩
end Go.Proofs.YtcigdlpljjkplaaDoor
