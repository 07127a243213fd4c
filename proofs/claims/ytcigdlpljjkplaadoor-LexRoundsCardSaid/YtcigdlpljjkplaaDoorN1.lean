/- Laws of a source's tokens in plain Lean: what is cut off behind a token changes nothing of it; nor does a line's end put behind it. No program in sight. Conditions: none. -/
import Derived.Test.YtcigdlpljjkplaaDoorK1
namespace Go.Proofs.YtcigdlpljjkplaaDoor
open Go.RowKit

theorem pieceP_n {c : UInt8} {r : List UInt8} (h : c.toNat = 110) : pieceP (c :: r) = some (10, 1) := by simp only [pieceP, if_pos h]
theorem pieceP_q {c : UInt8} {r : List UInt8} (h1 : ¬ c.toNat = 110) (h : c.toNat = 34 ∨ c.toNat = 92) : pieceP (c :: r) = some (c, 1) := by simp only [pieceP, if_neg h1, if_pos h]
theorem pieceP_ext {l : List UInt8} {v : UInt8} {m : Nat} (h : pieceP l = some (v, m)) (q : List UInt8) : pieceP (l ++ q) = some (v, m) := by
  match l, h with
  | [], h => simp [pieceP] at h
  | [c], h =>
    simp only [pieceP] at h
    simp only [List.cons_append, List.nil_append, pieceP]
    split at h
    · rename_i h1; rw [if_pos h1]; exact h
    · rename_i h1
      split at h
      · rename_i h2; rw [if_neg h1, if_pos h2]; exact h
      · simp at h
  | [c, a], h =>
    simp only [pieceP] at h
    simp only [List.cons_append, List.nil_append, pieceP]
    split at h
    · rename_i h1; rw [if_pos h1]; exact h
    · rename_i h1
      split at h
      · rename_i h2; rw [if_neg h1, if_pos h2]; exact h
      · simp at h
  | c :: a :: b :: r, h => exact h
theorem pieceP_cut {l : List UInt8} {v : UInt8} {m : Nat} (h : pieceP l = some (v, m)) (j : Nat) (hj : m ≤ j) : pieceP (l.take j) = some (v, m) := by
  have hp := pieceP_pos h
  match l, h with
  | [], h => simp [pieceP] at h
  | [c], h =>
    obtain ⟨i, rfl⟩ : ∃ i, j = i + 1 := ⟨j - 1, by omega⟩
    simpa using h
  | [c, a], h =>
    obtain ⟨i, rfl⟩ : ∃ i, j = i + 1 := ⟨j - 1, by omega⟩
    simp only [pieceP] at h
    simp only [List.take_succ_cons]
    cases i with
    | zero =>
      simp only [List.take_zero, pieceP]
      split at h
      · rename_i h1; rw [if_pos h1]; exact h
      · rename_i h1
        split at h
        · rename_i h2; rw [if_neg h1, if_pos h2]; exact h
        · simp at h
    | succ i => simpa [pieceP] using h
  | c :: a :: b :: r, h =>
    obtain ⟨i, rfl⟩ : ∃ i, j = i + 1 := ⟨j - 1, by omega⟩
    simp only [pieceP] at h
    simp only [List.take_succ_cons]
    split at h
    · rename_i h1; rw [pieceP_n h1]; exact h
    · rename_i h1
      split at h
      · rename_i h2; rw [pieceP_q h1 h2]; exact h
      · rename_i h2
        split at h
        · rename_i h3
          have hm : m = 3 := by
            split at h
            · simp at h; omega
            · cases h
          obtain ⟨i2, rfl⟩ : ∃ i2, i = i2 + 2 := ⟨i - 2, by omega⟩
          simp only [List.take_succ_cons, pieceP, if_neg h1, if_neg h2, if_pos h3]
          exact h
        · cases h
theorem stepQ_ext {l : List UInt8} {v : UInt8} {m : Nat} (h : stepQ l = some (v, m)) {q : List UInt8} : stepQ (l ++ q) = some (v, m) := by
  match l, h with
  | [], h => simp [stepQ] at h
  | c :: r, h =>
    rw [List.cons_append]
    rw [stepQ] at h ⊢
    split at h
    · rename_i h1
      rw [if_pos h1]
      rw [Option.map_eq_some_iff] at h ⊢
      obtain ⟨⟨v', m'⟩, h2, h3⟩ := h
      exact ⟨(v', m'), pieceP_ext h2 q, h3⟩
    · rename_i h1
      rw [if_neg h1]
      exact h
theorem stepQ_cut {l : List UInt8} {v : UInt8} {m : Nat} (h : stepQ l = some (v, m)) (j : Nat) (hj : m ≤ j) : stepQ (l.take j) = some (v, m) := by
  have hp := stepQ_pos h
  match l, h with
  | [], h => simp [stepQ] at h
  | c :: r, h =>
    obtain ⟨i, rfl⟩ : ∃ i, j = i + 1 := ⟨j - 1, by omega⟩
    rw [List.take_succ_cons]
    rw [stepQ] at h ⊢
    split at h
    · rename_i h1
      rw [if_pos h1]
      rw [Option.map_eq_some_iff] at h ⊢
      obtain ⟨⟨v', m'⟩, h2, h3⟩ := h
      refine ⟨(v', m'), pieceP_cut h2 i ?_, h3⟩
      simp at h3
      omega
    · rename_i h1
      rw [if_neg h1]
      exact h
theorem qT_more {l acc : List UInt8} {k : Nat} {b : List UInt8} {k' : Nat} (h : qT l acc k = some (b, k')) : k < k' := by
  induction l, acc, k using qT.induct with
  | case1 acc k => rw [qT_nil] at h; cases h
  | case2 acc k c r h34 hb => rw [qT_end _ _ _ h34, if_pos hb] at h; cases h
  | case3 acc k c r h34 hb => rw [qT_end _ _ _ h34, if_neg hb] at h; simp at h; omega
  | case4 acc k c r h34 hq => rw [qT_none _ _ h34 hq] at h; cases h
  | case5 acc k c r h34 v m hq ih =>
    rw [qT_some _ _ h34 hq] at h
    have := ih h
    omega
/-- A quoted text's end hangs on no more than is behind it. -/
theorem qT_ext (l acc : List UInt8) (k : Nat) (q : List UInt8) : ∀ b k', qT l acc k = some (b, k') → qT (l ++ q) acc k = some (b, k') := by
  induction l, acc, k using qT.induct with
  | case1 acc k => intro b k' h; rw [qT_nil] at h; cases h
  | case2 acc k c r h34 hb => intro b k' h; rw [qT_end _ _ _ h34, if_pos hb] at h; cases h
  | case3 acc k c r h34 hb => intro b k' h; rw [qT_end _ _ _ h34, if_neg hb] at h; rw [List.cons_append, qT_end _ _ _ h34, if_neg hb]; exact h
  | case4 acc k c r h34 hq => intro b k' h; rw [qT_none _ _ h34 hq] at h; cases h
  | case5 acc k c r h34 v m hq ih =>
    intro b k' h
    rw [qT_some _ _ h34 hq] at h
    have h1 := ih b k' h
    have h2 := stepQ_pos hq
    rw [List.cons_append, qT_some (v := v) (m := m) _ _ h34 (by rw [← List.cons_append]; exact stepQ_ext hq)]
    rw [← List.cons_append, List.drop_append_of_le_length h2.2]
    exact h1
theorem qT_cut (l acc : List UInt8) (k : Nat) : ∀ b k', qT l acc k = some (b, k') → ∀ m, k' ≤ k + m → m ≤ l.length → qT (l.take m) acc k = some (b, k') := by
  induction l, acc, k using qT.induct with
  | case1 acc k => intro b k' h; rw [qT_nil] at h; cases h
  | case2 acc k c r h34 hb => intro b k' h; rw [qT_end _ _ _ h34, if_pos hb] at h; cases h
  | case3 acc k c r h34 hb =>
    intro b k' h m hm hl
    rw [qT_end _ _ _ h34, if_neg hb] at h
    obtain ⟨j, rfl⟩ : ∃ j, m = j + 1 := ⟨m - 1, by simp at h; omega⟩
    rw [List.take_succ_cons, qT_end _ _ _ h34, if_neg hb]
    exact h
  | case4 acc k c r h34 hq => intro b k' h; rw [qT_none _ _ h34 hq] at h; cases h
  | case5 acc k c r h34 v m hq ih =>
    intro b k' h j hj hl
    rw [qT_some _ _ h34 hq] at h
    have h2 := stepQ_pos hq
    have h3 := qT_more h
    obtain ⟨i, rfl⟩ : ∃ i, j = i + 1 := ⟨j - 1, by omega⟩
    have h5 := stepQ_cut hq (i + 1) (by omega)
    rw [List.take_succ_cons] at h5 ⊢
    rw [qT_some _ _ h34 h5, ← List.take_succ_cons, List.drop_take]
    exact ih b k' h (i + 1 - m) (by omega) (by simp at hl ⊢; omega)
end Go.Proofs.YtcigdlpljjkplaaDoor
