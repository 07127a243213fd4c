/- Plain laws on a quoted text; no program in sight. Conditions: none. -/
import Derived.Test.YtcigdlpljjkplaaDoorAux
namespace Go.Proofs.YtcigdlpljjkplaaDoor

theorem escL_append (a b : List UInt8) : escL (a ++ b) = escL a ++ escL b := by
  induction a with
  | nil => rfl
  | cons c r ih => simp [escL, ih]
theorem escB_le (c : UInt8) : (escB c).length ≤ 4 := by
  unfold escB
  repeat' split
  all_goals simp
theorem escL_le (l : List UInt8) : (escL l).length ≤ 4 * l.length := by
  induction l with
  | nil => simp [escL]
  | cons c r ih => have := escB_le c; simp [escL]; omega
theorem take_snoc (s : ByteArray) (k : Nat) (h : k < s.size) : (bl s).take (k + 1) = (bl s).take k ++ [s[k]] := by
  rw [List.take_succ_eq_append_getElem (by rw [size_bl]; exact h), get_bl s k h]
theorem esc_snoc (s : ByteArray) (k : Nat) (h : k < s.size) : escL ((bl s).take (k + 1)) = escL ((bl s).take k) ++ escB s[k] := by
  rw [take_snoc s k h, escL_append]; simp [escL]
theorem esc_len (s : ByteArray) (k : Nat) (h : k ≤ s.size) : (escL ((bl s).take k)).length ≤ 4 * k := by
  have := escL_le ((bl s).take k)
  rw [List.length_take, size_bl] at this
  omega
theorem take_all (s : ByteArray) : (bl s).take s.size = bl s := List.take_of_length_le (by rw [size_bl]; exact Nat.le_refl _)
theorem esc_10 {c : UInt8} (h : c.toNat = 10) : escB c = [92, 110] := by rw [escB, if_pos h]
theorem esc_q {c : UInt8} (h0 : ¬ c.toNat = 10) (h : c.toNat = 34 ∨ c.toNat = 92) : escB c = [92, c] := by rw [escB, if_neg h0, if_pos h]
theorem esc_p {c : UInt8} (h0 : ¬ c.toNat = 10) (_h1 : ¬ c.toNat = 34) (_h2 : ¬ c.toNat = 92) (h : 32 ≤ c.toNat ∧ c.toNat ≤ 126) : escB c = [c] := by
  rw [escB, if_neg h0, if_neg (by omega), if_pos h]
theorem esc_x {c : UInt8} (h0 : ¬ c.toNat = 10) (_h1 : ¬ c.toNat = 34) (_h2 : ¬ c.toNat = 92) (h : ¬ (32 ≤ c.toNat ∧ c.toNat ≤ 126)) : escB c = [92, 120, hexD (c.toNat / 16), hexD (c.toNat % 16)] := by
  rw [escB, if_neg h0, if_neg (by omega), if_neg h]
theorem hexLit (m : Nat) (h : m < (⟨#[48, 49, 50, 51, 52, 53, 54, 55, 56, 57, 97, 98, 99, 100, 101, 102]⟩ : ByteArray).size) :
    (⟨#[48, 49, 50, 51, 52, 53, 54, 55, 56, 57, 97, 98, 99, 100, 101, 102]⟩ : ByteArray)[m]'h = hexD m := by
  have h16 : m < 16 := h
  have H : ∀ m : Fin 16, (#[48, 49, 50, 51, 52, 53, 54, 55, 56, 57, 97, 98, 99, 100, 101, 102] : Array UInt8)[m.val]'(by simp) = hexD m.val := by decide
  exact H ⟨m, h16⟩
theorem quote_eq (l : List UInt8) : 34 :: escL l ++ [34] = quoteL l := rfl
end Go.Proofs.YtcigdlpljjkplaaDoor
