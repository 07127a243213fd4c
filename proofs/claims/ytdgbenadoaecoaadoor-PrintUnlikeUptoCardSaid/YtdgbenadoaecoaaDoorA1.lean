/- The contracts of the reference's check of atoms and of its columns. Conditions: the terms lie in memory as they are told; a text is no longer than 2^40 bytes. -/
import Derived.Test.YtdgbenadoaecoaaDoorMC
namespace Go.Proofs.YtdgbenadoaecoaaDoor
open Go.RowKit

theorem any_bad_no {ts : List Tm} (h : ∀ m, (hm : m < ts.length) → tmOk ts[m] = true) : ts.any tmBad = false := by
  rw [List.any_eq_false]
  intro t ht
  obtain ⟨m, hm, rfl⟩ := List.mem_iff_getElem.1 ht
  simp [tmBad, h m hm]
theorem any_bad_yes {ts : List Tm} {m : Nat} (hm : m < ts.length) (h : tmOk ts[m] = false) : ts.any tmBad = true := by
  rw [List.any_eq_true]
  exact ⟨ts[m], List.getElem_mem hm, by simp [tmBad, h]⟩
theorem sepL_take : ∀ (f : Bool) (l : List (List UInt8)) (j : Nat), (sepL f (l.take j)).length ≤ (sepL f l).length
  | f, [], j => by simp
  | f, x :: r, 0 => by simp [sepL]
  | f, x :: r, j + 1 => by
    have := sepL_take false r j
    simp [sepL]
    omega
theorem sepL_count : ∀ (f : Bool) (l : List (List UInt8)), l.length ≤ (sepL f l).length
  | _, [] => by simp
  | f, x :: r => by
    have := sepL_count false r
    cases f <;> simp [sepL] <;> omega
/-- Texts in a row of memory. -/
def StrsAt (w : World) (p : Option Addr) (l : List (List UInt8)) : Prop := l.length = 0 ∨ ∃ a o, p = some ⟨a, o, none⟩ ∧ ∀ i, (h : i < l.length) → w.cell? ⟨a, o + i, none⟩ = some (.string ⟨l[i].toArray⟩)
theorem bl_app (a b : ByteArray) : bl (a ++ b) = bl a ++ bl b := by simp [bl]
/-- What the columns' loop has gathered behind j columns. -/
def colsJ (l : List (List UInt8)) (j : Nat) : List UInt8 := if j = 0 then [40] else sepL true (l.take j)
theorem colsJ_zero (l : List (List UInt8)) : colsJ l 0 = [40] := rfl
theorem colsJ_one {l : List (List UInt8)} (h : 0 < l.length) : colsJ l (0 + 1) = ([40] : List UInt8) ++ l[0] := by
  cases l with
  | nil => simp at h
  | cons x r => simp [colsJ, sepL]
theorem colsJ_succ {l : List (List UInt8)} {j : Nat} (hj : j ≠ 0) (h : j < l.length) : colsJ l (j + 1) = colsJ l j ++ ([44, 32] ++ l[j]) := by
  have h1 : (l.take j).isEmpty = false := by
    cases l with
    | nil => simp at h
    | cons x r =>
      cases j with
      | zero => exact absurd rfl hj
      | succ j => rfl
  simp only [colsJ, hj, if_false, Nat.add_eq_zero_iff, and_false, Nat.succ_ne_self]
  rw [← List.take_append_getElem h, sepL_snoc, h1]
  simp
theorem colsJ_le (l : List (List UInt8)) (j : Nat) : (colsJ l j).length ≤ (sepL true l).length + 1 := by
  unfold colsJ
  split
  · simp
  · have := sepL_take true l j
    omega
def ColsRel (name : ByteArray) (l : List (List UInt8)) (w : World) (v i : Value) (wr : World) : Prop :=
  ∃ (j : Nat) (s : ByteArray), i = .int .i64 j ∧ v = .string s ∧ j ≤ l.length ∧ bl s = bl name ++ colsJ l j ∧ wr = w
end Go.Proofs.YtdgbenadoaecoaaDoor
