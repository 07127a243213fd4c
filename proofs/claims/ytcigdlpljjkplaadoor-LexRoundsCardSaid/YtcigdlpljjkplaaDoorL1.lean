/- The contracts of lex.Variable and inWord, and of the reference's Keyword, run, Name, Variable. Conditions: a text is no longer than the model lets any be. -/
import Derived.Test.YtcigdlpljjkplaaDoorV3
namespace Go.Proofs.YtcigdlpljjkplaaDoor
open Go.RowKit

theorem lVariable (s : ByteArray) (w : World) (hs : s.size ≤ maxLen) :
    Calls Tryd.prog 26 #[.string s] w fun e w' => e = .returned (.bool (varB (bl s))) ∧ Below w.heap.size w w' := by
  go_enter Tryd.func26, Tryd.ntmps26
  go_wp2_with fail
  refine (lSpelt s 65 90 _ hs).mono ?_
  rintro e w1 ⟨rfl, hb⟩
  have Hb := Lib.hid hb; clear hb
  go_wp2_with fail
  go_ret
  exact ⟨rfl, Hb.out⟩
theorem kKeyword (s : ByteArray) (w : World) :
    Calls Tryd.prog 23 #[.string s] w fun e w' => e = .returned (.bool (kwB (bl s))) ∧ w = w' := by
  go_enter Tryd.func23, Tryd.ntmps23
  go_wp2
  all_goals go_ret
  all_goals simp_all [kwB, bl, ← ByteArray.toList_eq]
theorem kSmall (c : UInt8) (w : World) :
    Calls Tryd.prog 45 #[.int .u8 c.toNat] w fun e w' => e = .returned (.bool (lowerB c)) ∧ w = w' := by
  go_enter Tryd.func45, Tryd.ntmps45
  go_wp2
  all_goals go_ret
  all_goals (refine ⟨ret_bool ?_, rfl⟩; rw [Bool.eq_iff_iff]; simp [lowerB]; omega)
theorem kCapital (c : UInt8) (w : World) :
    Calls Tryd.prog 47 #[.int .u8 c.toNat] w fun e w' => e = .returned (.bool (upperB c)) ∧ w = w' := by
  go_enter Tryd.func47, Tryd.ntmps47
  go_wp2
  all_goals go_ret
  all_goals (refine ⟨ret_bool ?_, rfl⟩; rw [Bool.eq_iff_iff]; simp [upperB]; omega)
theorem kDigit (c : UInt8) (w : World) :
    Calls Tryd.prog 49 #[.int .u8 c.toNat] w fun e w' => e = .returned (.bool (digitB c)) ∧ w = w' := by
  go_enter Tryd.func49, Tryd.ntmps49
  go_wp2
  all_goals go_ret
  all_goals (refine ⟨ret_bool ?_, rfl⟩; rw [Bool.eq_iff_iff]; simp [digitB]; omega)
theorem kMore (c : UInt8) (w : World) :
    Calls Tryd.prog 62 #[.int .u8 c.toNat] w fun e w' => e = .returned (.bool (wordB c)) ∧ w = w' := by
  rcases h1 : lowerB c with _ | _
  · rcases h2 : upperB c with _ | _
    · rcases h3 : digitB c with _ | _
      · have H1 := Lib.hid h1; clear h1
        have H2 := Lib.hid h2; clear h2
        have H3 := Lib.hid h3; clear h3
        go_enter Tryd.func62, Tryd.ntmps62
        go_wp2_with fail
        refine (kSmall c _).mono ?_
        rintro e w1 ⟨rfl, rfl⟩
        rw [H1.out]
        go_wp2_with fail
        refine (kCapital c _).mono ?_
        rintro e w1 ⟨rfl, rfl⟩
        rw [H2.out]
        go_wp2_with fail
        refine (kDigit c _).mono ?_
        rintro e w1 ⟨rfl, rfl⟩
        rw [H3.out]
        go_wp2_with fail
        all_goals go_ret
        all_goals (refine ⟨ret_bool ?_, rfl⟩; rw [wordB, H1.out, H2.out, H3.out]; rw [Bool.eq_iff_iff]; simp; try omega)
      · have H1 := Lib.hid h1; clear h1
        have H2 := Lib.hid h2; clear h2
        have H3 := Lib.hid h3; clear h3
        go_enter Tryd.func62, Tryd.ntmps62
        go_wp2_with fail
        refine (kSmall c _).mono ?_
        rintro e w1 ⟨rfl, rfl⟩
        rw [H1.out]
        go_wp2_with fail
        refine (kCapital c _).mono ?_
        rintro e w1 ⟨rfl, rfl⟩
        rw [H2.out]
        go_wp2_with fail
        refine (kDigit c _).mono ?_
        rintro e w1 ⟨rfl, rfl⟩
        rw [H3.out]
        go_wp2_with fail
        go_ret
        exact ⟨ret_bool (by rw [wordB, H1.out, H2.out, H3.out]; rfl), rfl⟩
    · have H1 := Lib.hid h1; clear h1
      have H2 := Lib.hid h2; clear h2
      go_enter Tryd.func62, Tryd.ntmps62
      go_wp2_with fail
      refine (kSmall c _).mono ?_
      rintro e w1 ⟨rfl, rfl⟩
      rw [H1.out]
      go_wp2_with fail
      refine (kCapital c _).mono ?_
      rintro e w1 ⟨rfl, rfl⟩
      rw [H2.out]
      go_wp2_with fail
      go_ret
      exact ⟨ret_bool (by rw [wordB, H1.out, H2.out]; rfl), rfl⟩
  · have H1 := Lib.hid h1; clear h1
    go_enter Tryd.func62, Tryd.ntmps62
    go_wp2_with fail
    refine (kSmall c _).mono ?_
    rintro e w1 ⟨rfl, rfl⟩
    rw [H1.out]
    go_wp2_with fail
    go_ret
    exact ⟨ret_bool (by rw [wordB, H1.out]; rfl), rfl⟩
/-- The longest row of word bytes at the head. -/
def runL (l : List UInt8) : List UInt8 := l.takeWhile wordB
theorem take_while {p : UInt8 → Bool} : ∀ (l : List UInt8) (n : Nat), n ≤ l.length → (∀ j, (h : j < l.length) → j < n → p l[j] = true) → (n = l.length ∨ ∃ h : n < l.length, p l[n] = false) → l.takeWhile p = l.take n
  | [], n, h, _, _ => by simp
  | x :: r, 0, _, _, h2 => by
    rcases h2 with h | ⟨h, h2⟩
    · simp at h
    · simp at h2; simp [h2]
  | x :: r, n + 1, h, h1, h2 => by
    have h3 := h1 0 (by simp) (by omega)
    simp at h3
    have h4 := take_while r n (by simpa using h) (fun j hj hjn => h1 (j + 1) (by simp; omega) (by omega)) (by
      rcases h2 with h | ⟨h, h2⟩
      · left; simpa using h
      · right; exact ⟨by simpa using h, by simpa using h2⟩)
    simp [h3, h4]
theorem run_all : ∀ l : List UInt8, (runL l == l) = l.all wordB
  | [] => rfl
  | x :: r => by
    have ih := run_all r
    unfold runL at ih ⊢
    cases hx : wordB x
    · simp [hx]
    · rw [List.takeWhile_cons, hx, if_pos rfl, List.all_cons, hx, Bool.true_and, ← ih]
      rw [Bool.eq_iff_iff, beq_iff_eq, beq_iff_eq]
      simp
end Go.Proofs.YtcigdlpljjkplaaDoor
