/- Laws on worlds and on plain lists that the walks lean on; no program in sight. Conditions: as each law says. -/
import Derived.Test.YtcigdlpljjkplaaDoorSpec
import Derived.Lib.ConvBytes
import Derived.Lib.Hide
namespace Go.Proofs.YtcigdlpljjkplaaDoor
open Go.RowKit

theorem ret_bool {a b : Bool} (h : a = b) : Ending.returned (.bool a) = .returned (.bool b) := by rw [h]
theorem ret_int {k : IntKind} {a b : Int} (h : a = b) : Ending.returned (.int k a) = .returned (.int k b) := by rw [h]
theorem ret_str {a b : List UInt8} (h : a = b) : Ending.returned (.string ⟨a.toArray⟩) = .returned (.string ⟨b.toArray⟩) := by rw [h]
theorem str_eta (s : ByteArray) : (⟨(bl s).toArray⟩ : ByteArray) = s := by cases s; simp [bl]

/-- A string turned into bytes: a new row that holds them. -/
theorem bytes_of {P : Program} (w : World) (src dst e : TypeId) (s : ByteArray) {u : TypeDesc}
    (hs : P.underlying src = some u) (hd : P.underlying dst = some (.slice e)) (he : P.underlying e = some (.int .u8)) :
    ∃ cap w1, (convert src dst (.string s)).run P w = .ok (.slice (some ⟨w.heap.size, 0, none⟩) s.size cap) w1 ∧ Below w.heap.size w w1 ∧ w1.heap.size = w.heap.size + 1 ∧
      (∀ j, (h : j < s.size) → w1.cell? ⟨w.heap.size, j, none⟩ = some (.int .u8 (s[j]).toNat)) := by
  refine ⟨_, _, Lib.run_convert_string_bytes w src dst e s hs hd he, ⟨rfl, rfl, rfl, ?_, fun k hk => Lib.bytesWorld_at_old w e s k hk⟩, Lib.bytesWorld_size w e s, fun j h => ?_⟩
  · rw [Lib.bytesWorld_size]; omega
  · rw [Lib.bytesWorld_cell w e s j h]
    have h2 : j < s.data.toList.length := by rw [Array.length_toList]; exact h
    have e1 : s.data.toList.getD j 0 = s[j] := by
      rw [List.getD_eq_getElem?_getD, List.getElem?_eq_getElem h2]
      exact Array.getElem_toList h
    rw [e1]

theorem size_bl (s : ByteArray) : (bl s).length = s.size := Array.length_toList
theorem get_bl (s : ByteArray) (j : Nat) (h : j < s.size) : (bl s)[j]'(by rw [size_bl]; exact h) = s[j] := Array.getElem_toList h

theorem all_true (p : UInt8 → Bool) (s : ByteArray) (h : ∀ j, (h : j < s.size) → p s[j] = true) : (bl s).all p = true := by
  rw [List.all_eq_true]
  intro c hc
  obtain ⟨j, hj, rfl⟩ := List.getElem_of_mem hc
  rw [get_bl s j (by rw [← size_bl]; exact hj)]
  exact h j _
theorem all_false (p : UInt8 → Bool) (s : ByteArray) (j : Nat) (hj : j < s.size) (h : p s[j] = false) : (bl s).all p = false := by
  rw [List.all_eq_false]
  exact ⟨s[j], by rw [← get_bl s j hj]; exact List.getElem_mem _, by simp [h]⟩
theorem runB_no0 (fr to : UInt8) (s : ByteArray) (h : s.size = 0) : runB fr to (bl s) = false := by
  have : bl s = [] := List.eq_nil_of_length_eq_zero (by rw [size_bl]; exact h)
  rw [this]; rfl
theorem runB_eq (fr to : UInt8) (s : ByteArray) (h : 0 < s.size) :
    runB fr to (bl s) = (decide (s.size ≤ 120) && decide (fr.toNat ≤ s[0].toNat) && decide (s[0].toNat ≤ to.toNat) && (bl s).all wordB) := by
  have hl := size_bl s
  have h0 := get_bl s 0 h
  obtain ⟨c, r, hcr⟩ : ∃ c r, bl s = c :: r := by
    match hb : bl s with
    | [] => rw [hb] at hl; simp at hl; omega
    | c :: r => exact ⟨c, r, rfl⟩
  rw [List.getElem_of_eq hcr, List.getElem_cons_zero] at h0
  rw [← h0, hcr]
  rw [hcr, List.length_cons] at hl
  rw [show decide (s.size ≤ 120) = decide (r.length < 120) from by rw [← hl]; exact decide_eq_decide.2 (by omega)]
  rfl
theorem bcell {W w1 : World} (hb : Below W.heap.size W w1) : (∀ b o, b < W.heap.size → w1.cell? ⟨b, o, none⟩ = W.cell? ⟨b, o, none⟩) ∧ (∀ b o, b < W.heap.size → w1.frozen? ⟨b, o, none⟩ = W.frozen? ⟨b, o, none⟩) :=
  ⟨fun b o h => hb.cell (p := ⟨b, o, none⟩) h, fun b o h => hb.frozen (p := ⟨b, o, none⟩) h⟩
theorem step_all {p : UInt8 → Bool} {s : ByteArray} {k : Nat} (hw : ∀ j, (h : j < s.size) → j < k → p s[j] = true) (hk : k < s.size) (h : p s[k] = true) : ∀ j, (h : j < s.size) → j < k + 1 → p s[j] = true := by
  intro j hj hjk
  by_cases e : j = k
  · subst e; exact h
  · exact hw j hj (by omega)
theorem wordB_iff (c : UInt8) : wordB c = true ↔ (97 ≤ c.toNat ∧ c.toNat ≤ 122) ∨ (65 ≤ c.toNat ∧ c.toNat ≤ 90) ∨ (48 ≤ c.toNat ∧ c.toNat ≤ 57) ∨ c.toNat = 95 := by
  simp [wordB, lowerB, upperB, digitB, or_assoc]
theorem wordB_false (c : UInt8) (h : ¬ ((97 ≤ c.toNat ∧ c.toNat ≤ 122) ∨ (65 ≤ c.toNat ∧ c.toNat ≤ 90) ∨ (48 ≤ c.toNat ∧ c.toNat ≤ 57) ∨ c.toNat = 95)) : wordB c = false := by
  rw [← Bool.not_eq_true, wordB_iff]; exact h
theorem runB_all {fr to : UInt8} {s : ByteArray} (h : 0 < s.size) (h1 : s.size ≤ 120) (h2 : fr.toNat ≤ s[0].toNat) (h3 : s[0].toNat ≤ to.toNat) : runB fr to (bl s) = (bl s).all wordB := by
  rw [runB_eq fr to s h]; simp [h1, h2, h3]
theorem runB_not {fr to : UInt8} {s : ByteArray} (h : 0 < s.size) (hg : ¬ (s.size ≤ 120 ∧ fr.toNat ≤ s[0].toNat ∧ s[0].toNat ≤ to.toNat)) : runB fr to (bl s) = false := by
  rw [runB_eq fr to s h]
  by_cases h1 : s.size ≤ 120
  · by_cases h2 : fr.toNat ≤ s[0].toNat
    · by_cases h3 : s[0].toNat ≤ to.toNat
      · exact absurd ⟨h1, h2, h3⟩ hg
      · rw [decide_eq_false h3]; simp
    · rw [decide_eq_false h2]; simp
  · rw [decide_eq_false h1]; simp
end Go.Proofs.YtcigdlpljjkplaaDoor
