/- The contracts of the reference's run, Name and Variable, and of lex.inWord. Conditions: a text is no longer than the model lets any be. -/
import Derived.Test.YtcigdlpljjkplaaDoorL1
namespace Go.Proofs.YtcigdlpljjkplaaDoor
open Go.RowKit

theorem lInWord (c : UInt8) (w : World) :
    Calls Tryd.prog 55 #[.int .u8 c.toNat] w fun e w' => e = .returned (.bool (wordB c)) ∧ w = w' := by
  have HW := Lib.hid (rune_word c)
  have hc := c.toNat_lt
  go_enter Tryd.func55, Tryd.ntmps55
  go_wp2_with fail
  refine (lRune _ _).mono ?_
  rintro e w1 ⟨rfl, rfl⟩
  rw [HW.out]
  go_wp2_with fail
  go_ret
  exact ⟨rfl, rfl⟩
set_option maxHeartbeats 1000000 in
theorem kRun (s : ByteArray) (a : Nat) (w : World) (ha : a ≤ s.size) (hs : s.size ≤ maxLen) :
    Calls Tryd.prog 46 #[.string s, .int .i64 a] w fun e w' => e = .returned (.string ⟨(runL ((bl s).drop a)).toArray⟩) ∧ w = w' := by
  unfold maxLen at hs
  go_enter Tryd.func46, Tryd.ntmps46
  go_wp2_with fail
  go_loop [5] (fun i => ∃ k : Nat, a ≤ k ∧ k ≤ s.size ∧ i = .int .i64 k ∧ ∀ j, (h : j < s.size) → a ≤ j → j < k → wordB s[j] = true) (fun i => s.size - (intOf i).toNat)
  case atStart => exact ⟨a, by omega, by omega, rfl, fun j _ h1 h2 => by omega⟩
  case round =>
    obtain ⟨k, hak, hk, rfl, hw⟩ := hrel
    have HW := Lib.hid hw; clear hw
    have HE := Lib.hid (fun (h2 : k = s.size ∨ ∃ h : k < s.size, wordB s[k] = false) => show runL ((bl s).drop a) = ((bl s).drop a).take (k - a) from by
      refine take_while _ _ (by simp; omega) (fun j hj hjn => ?_) ?_
      · rw [List.getElem_drop, get_bl s (a + j) (by simp at hj; omega)]
        exact HW.out (a + j) _ (by omega) (by omega)
      · rcases h2 with h | ⟨h, h2⟩
        · left; simp; omega
        · right
          refine ⟨by simp; omega, ?_⟩
          rw [List.getElem_drop]
          have e : a + (k - a) = k := by omega
          simp only [e]
          rw [get_bl s k h]
          exact h2)
    by_cases hlt : k < s.size
    · rcases hwd : wordB s[k] with _ | _
      · have HWD := Lib.hid hwd; clear hwd
        go_wp2_with fail
        refine (kMore _ _).mono ?_
        rintro e w1 ⟨rfl, rfl⟩
        rw [HWD.out]
        go_wp2_with fail
        go_ret
        exact ⟨ret_bytes (by rw [bl_extract, HE.out (.inr ⟨hlt, HWD.out⟩)]), rfl⟩
      · have HWD := Lib.hid hwd; clear hwd
        go_wp2_with fail
        refine (kMore _ _).mono ?_
        rintro e w1 ⟨rfl, rfl⟩
        rw [HWD.out]
        go_wp2_with fail
        exact ⟨⟨k + 1, by omega, by omega, by go_num, fun j hj h1 h2 => by
          by_cases e : j = k
          · subst e; exact HWD.out
          · exact HW.out j hj h1 (by omega)⟩, by simp [intOf]; omega⟩
    · obtain rfl : k = s.size := by omega
      go_wp2_with fail
      go_ret
      exact ⟨ret_bytes (by rw [bl_extract, HE.out (by simp)]), rfl⟩
set_option maxHeartbeats 1000000 in
theorem kName (s : ByteArray) (w : World) (hs : s.size ≤ maxLen) :
    Calls Tryd.prog 25 #[.string s] w fun e w' => e = .returned (.bool (nameB (bl s))) ∧ w = w' := by
  by_cases h0 : s.size = 0
  · have HE := Lib.hid (show nameB (bl s) = false by simp [nameB, runB_no0 _ _ _ h0])
    have g0 : decide (0 < s.size) = false := decide_eq_false (by omega)
    clear h0
    go_enter Tryd.func25, Tryd.ntmps25
    go_wp2_with fail
    go_ret
    exact ⟨ret_bool HE.out.symm, rfl⟩
  · have g0 : decide (0 < s.size) = true := decide_eq_true (by omega)
    have h0' : 0 < s.size := by omega
    by_cases h1 : 120 < s.size
    · have HE := Lib.hid (show nameB (bl s) = false by simp [nameB, runB_not (fr := 97) (to := 122) h0' (by omega)])
      have g1 : decide ((s.size : Int) ≤ 120) = false := decide_eq_false (by omega)
      clear h0
      go_enter Tryd.func25, Tryd.ntmps25
      go_wp2_with fail
      go_ret
      exact ⟨ret_bool HE.out.symm, rfl⟩
    · have g1 : decide ((s.size : Int) ≤ 120) = true := decide_eq_true (by omega)
      rcases hf : lowerB s[0] with _ | _
      · have HE := Lib.hid (show nameB (bl s) = false by
          have h9 : runB 97 122 (bl s) = false := runB_not h0' (by intro ⟨_, h2, h3⟩; rw [lowerB] at hf; simp at hf; simp at h2 h3; omega)
          simp [nameB, h9])
        have HF := Lib.hid hf; clear hf
        clear h0
        go_enter Tryd.func25, Tryd.ntmps25
        go_wp2_with fail
        refine (kSmall _ _).mono ?_
        rintro e w1 ⟨rfl, rfl⟩
        rw [HF.out]
        go_wp2_with fail
        go_ret
        exact ⟨ret_bool HE.out.symm, rfl⟩
      · have HE := Lib.hid (show runB 97 122 (bl s) = (runL (bl s) == bl s) by
          rw [run_all]
          exact runB_all h0' (by omega) (by rw [lowerB] at hf; simp at hf; simp; omega) (by rw [lowerB] at hf; simp at hf; simp; omega))
        have HF := Lib.hid hf; clear hf
        clear h0
        obtain ⟨r, hr⟩ : ∃ r : ByteArray, r = ⟨(runL (bl s)).toArray⟩ := ⟨_, rfl⟩
        have HR := Lib.hid (show bl r = runL (bl s) by rw [hr])
        have hcall := fun w' => kRun s 0 w' (by omega) hs
        rw [List.drop_zero, ← hr] at hcall
        have HC := Lib.hid hcall; clear hcall hr
        rcases hq : r.toList == s.toList with _ | _
        · have HQ := Lib.hid (show (runL (bl s) == bl s) = false by rw [← HR.out, bl, bl, ← ByteArray.toList_eq, ← ByteArray.toList_eq]; exact hq)
          go_enter Tryd.func25, Tryd.ntmps25
          go_wp2_with fail
          refine (kSmall _ _).mono ?_
          rintro e w1 ⟨rfl, rfl⟩
          rw [HF.out]
          go_wp2_with fail
          refine (HC.out _).mono ?_
          rintro e w1 ⟨rfl, rfl⟩
          go_wp2_with fail
          go_ret
          exact ⟨ret_bool (by simp [nameB, HE.out, HQ.out]), rfl⟩
        · have HQ := Lib.hid (show (runL (bl s) == bl s) = true by rw [← HR.out, bl, bl, ← ByteArray.toList_eq, ← ByteArray.toList_eq]; exact hq)
          go_enter Tryd.func25, Tryd.ntmps25
          go_wp2_with fail
          refine (kSmall _ _).mono ?_
          rintro e w1 ⟨rfl, rfl⟩
          rw [HF.out]
          go_wp2_with fail
          refine (HC.out _).mono ?_
          rintro e w1 ⟨rfl, rfl⟩
          go_wp2_with fail
          refine (kKeyword s _).mono ?_
          rintro e w1 ⟨rfl, rfl⟩
          go_wp2_with fail
          go_ret
          exact ⟨ret_bool (by simp [nameB, HE.out, HQ.out]), rfl⟩
set_option maxHeartbeats 1000000 in
theorem kVariable (s : ByteArray) (w : World) (hs : s.size ≤ maxLen) :
    Calls Tryd.prog 27 #[.string s] w fun e w' => e = .returned (.bool (varB (bl s))) ∧ w = w' := by
  by_cases h0 : s.size = 0
  · have HE := Lib.hid (show varB (bl s) = false by simp [varB, runB_no0 _ _ _ h0])
    have g0 : decide (0 < s.size) = false := decide_eq_false (by omega)
    clear h0
    go_enter Tryd.func27, Tryd.ntmps27
    go_wp2_with fail
    go_ret
    exact ⟨ret_bool HE.out.symm, rfl⟩
  · have g0 : decide (0 < s.size) = true := decide_eq_true (by omega)
    have h0' : 0 < s.size := by omega
    by_cases h1 : 120 < s.size
    · have HE := Lib.hid (show varB (bl s) = false by simp [varB, runB_not (fr := 65) (to := 90) h0' (by omega)])
      have g1 : decide ((s.size : Int) ≤ 120) = false := decide_eq_false (by omega)
      clear h0
      go_enter Tryd.func27, Tryd.ntmps27
      go_wp2_with fail
      go_ret
      exact ⟨ret_bool HE.out.symm, rfl⟩
    · have g1 : decide ((s.size : Int) ≤ 120) = true := decide_eq_true (by omega)
      rcases hf : upperB s[0] with _ | _
      · have HE := Lib.hid (show varB (bl s) = false by
          have h9 : runB 65 90 (bl s) = false := runB_not h0' (by intro ⟨_, h2, h3⟩; rw [upperB] at hf; simp at hf; simp at h2 h3; omega)
          simp [varB, h9])
        have HF := Lib.hid hf; clear hf
        clear h0
        go_enter Tryd.func27, Tryd.ntmps27
        go_wp2_with fail
        refine (kCapital _ _).mono ?_
        rintro e w1 ⟨rfl, rfl⟩
        rw [HF.out]
        go_wp2_with fail
        go_ret
        exact ⟨ret_bool HE.out.symm, rfl⟩
      · have HE := Lib.hid (show runB 65 90 (bl s) = (runL (bl s) == bl s) by
          rw [run_all]
          exact runB_all h0' (by omega) (by rw [upperB] at hf; simp at hf; simp; omega) (by rw [upperB] at hf; simp at hf; simp; omega))
        have HF := Lib.hid hf; clear hf
        clear h0
        obtain ⟨r, hr⟩ : ∃ r : ByteArray, r = ⟨(runL (bl s)).toArray⟩ := ⟨_, rfl⟩
        have HR := Lib.hid (show bl r = runL (bl s) by rw [hr])
        have hcall := fun w' => kRun s 0 w' (by omega) hs
        rw [List.drop_zero, ← hr] at hcall
        have HC := Lib.hid hcall; clear hcall hr
        rcases hq : r.toList == s.toList with _ | _
        · have HQ := Lib.hid (show (runL (bl s) == bl s) = false by rw [← HR.out, bl, bl, ← ByteArray.toList_eq, ← ByteArray.toList_eq]; exact hq)
          go_enter Tryd.func27, Tryd.ntmps27
          go_wp2_with fail
          refine (kCapital _ _).mono ?_
          rintro e w1 ⟨rfl, rfl⟩
          rw [HF.out]
          go_wp2_with fail
          refine (HC.out _).mono ?_
          rintro e w1 ⟨rfl, rfl⟩
          go_wp2_with fail
          go_ret
          exact ⟨ret_bool (by simp [varB, HE.out, HQ.out]), rfl⟩
        · have HQ := Lib.hid (show (runL (bl s) == bl s) = true by rw [← HR.out, bl, bl, ← ByteArray.toList_eq, ← ByteArray.toList_eq]; exact hq)
          go_enter Tryd.func27, Tryd.ntmps27
          go_wp2_with fail
          refine (kCapital _ _).mono ?_
          rintro e w1 ⟨rfl, rfl⟩
          rw [HF.out]
          go_wp2_with fail
          refine (HC.out _).mono ?_
          rintro e w1 ⟨rfl, rfl⟩
          go_wp2_with fail
          go_ret
          exact ⟨ret_bool (by simp [varB, HE.out, HQ.out]), rfl⟩
end Go.Proofs.YtcigdlpljjkplaaDoor
