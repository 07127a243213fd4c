/- The contracts of the functions that ask whether a text is a name or a variable, more. Conditions: a text is no longer than the model lets any be. -/
import Derived.Test.YtlghiakckkhekaaDoorW2
namespace Go.Proofs.YtlghiakckkhekaaDoor
open Go.RowKit

theorem tName (s : ByteArray) (w : World) (hs : s.size ≤ maxLen) :
    Calls Tryd.prog 91 #[.string s] w fun e w' => e = .returned (.bool (nameB (bl s))) ∧ Below w.heap.size w w' := by
  by_cases hk : kwB (bl s) = true
  · have HE := Lib.hid (show nameB (bl s) = false by simp [nameB, hk])
    have hk' := hk
    simp only [kwB, bl, ← ByteArray.toList_eq, Bool.or_eq_true] at hk'
    clear hk
    rcases hk' with ((((((h | h) | h) | h) | h) | h) | h) | h
    all_goals
      replace h := eq_of_beq h
      go_enter Tryd.func91, Tryd.ntmps91
      go_wp2_with fail
      go_ret
      exact ⟨ret_bool HE.out.symm, Below.refl _ _⟩
  · have HE := Lib.hid (show nameB (bl s) = runB 97 122 (bl s) by simp [nameB, hk])
    have hk' := hk
    simp only [kwB, bl, ← ByteArray.toList_eq, Bool.or_eq_true, not_or, Bool.not_eq_true] at hk'
    obtain ⟨⟨⟨⟨⟨⟨⟨h1, h2⟩, h3⟩, h4⟩, h5⟩, h6⟩, h7⟩, h8⟩ := hk'
    clear hk
    go_enter Tryd.func91, Tryd.ntmps91
    go_wp2_with fail
    refine (tWord s 97 122 _ hs).mono ?_
    rintro e w' ⟨rfl, hb⟩
    have Hb := Lib.hid hb; clear hb
    go_wp2_with fail
    go_ret
    exact ⟨ret_bool HE.out.symm, Hb.out⟩
theorem rWritten (s : ByteArray) (fr to : UInt8) (w : World) (hs : s.size ≤ maxLen) (hft : ∀ c : UInt8, fr.toNat ≤ c.toNat → c.toNat ≤ to.toNat → wordB c = true) :
    Calls Tryd.prog 115 #[.string s, .int .u8 fr.toNat, .int .u8 to.toNat] w fun e w' => e = .returned (.bool (runB fr to (bl s))) ∧ w = w' := by
  unfold maxLen at hs
  have Hft := Lib.hid hft; clear hft
  by_cases h0 : s.size = 0
  · have HE := Lib.hid (runB_no0 fr to s h0)
    have g0 : decide ((s.size : Int) < 1) = true := decide_eq_true (by omega)
    go_enter Tryd.func115, Tryd.ntmps115
    go_wp2_with fail
    go_ret
    exact ⟨ret_bool HE.out.symm, rfl⟩
  · have h0' : 0 < s.size := by omega
    have g0 : decide ((s.size : Int) < 1) = false := decide_eq_false (by omega)
    by_cases hg : s.size ≤ 120 ∧ fr.toNat ≤ s[0].toNat ∧ s[0].toNat ≤ to.toNat
    · obtain ⟨hg1, hg2, hg3⟩ := hg
      have HE := Lib.hid (runB_all h0' hg1 hg2 hg3)
      have H0 := Lib.hid (Hft.out s[0] hg2 hg3)
      have g1 : decide (120 < (s.size : Int)) = false := decide_eq_false (by omega)
      have g2 : decide (s[0].toNat < fr.toNat) = false := decide_eq_false (by omega)
      have g3 : decide (to.toNat < s[0].toNat) = false := decide_eq_false (by omega)
      go_enter Tryd.func115, Tryd.ntmps115
      go_wp2_with fail
      clear g0 g1 g2 g3 hg1 hg2 hg3
      go_loop [7] (fun i => ∃ k : Nat, 1 ≤ k ∧ k ≤ s.size ∧ i = .int .i64 k ∧ ∀ j, (h : j < s.size) → j < k → wordB s[j] = true) (fun i => s.size - (intOf i).toNat)
      case atStart => exact ⟨1, by omega, by omega, rfl, fun j _ h => by obtain rfl : j = 0 := by omega
                                                                         exact H0.out⟩
      case round =>
        obtain ⟨k, hk1, hk, rfl, hw⟩ := hrel
        have Hw := Lib.hid hw; clear hw
        by_cases hlt : k < s.size
        · rcases hwk : wordB s[k] with _ | _
          · have hwk' := Lib.hid hwk
            go_wp2_with (go_at_call 135; refine (rLetter s[k] _).mono ?_; rintro e w' ⟨rfl, rfl⟩)
            go_ret
            exact ⟨ret_bool (by rw [HE.out, all_false wordB s k hlt hwk'.out]), rfl⟩
          · have hwk' := Lib.hid hwk
            go_wp2_with (go_at_call 135; refine (rLetter s[k] _).mono ?_; rintro e w' ⟨rfl, rfl⟩)
            go_round
            case rel => exact ⟨k + 1, by omega, by omega, by go_num, step_all Hw.out hlt hwk'.out⟩
            case measure => simp [intOf]; omega
        · go_wp2_with fail
          go_ret
          exact ⟨ret_bool (by rw [HE.out, all_true wordB s (fun j h => Hw.out j h (by omega))]), rfl⟩
    · have HE := Lib.hid (runB_not h0' hg)
      by_cases h1 : 120 < s.size
      · have g1 : decide (120 < (s.size : Int)) = true := decide_eq_true (by omega)
        clear hg
        go_enter Tryd.func115, Tryd.ntmps115
        go_wp2_with fail
        go_ret
        exact ⟨ret_bool HE.out.symm, rfl⟩
      · have g1 : decide (120 < (s.size : Int)) = false := decide_eq_false (by omega)
        by_cases h2 : s[0].toNat < fr.toNat
        · have g2 : decide (s[0].toNat < fr.toNat) = true := decide_eq_true h2
          clear hg h1
          go_enter Tryd.func115, Tryd.ntmps115
          go_wp2_with fail
          go_ret
          exact ⟨ret_bool HE.out.symm, rfl⟩
        · have g2 : decide (s[0].toNat < fr.toNat) = false := decide_eq_false h2
          have g3 : decide (to.toNat < s[0].toNat) = true := decide_eq_true (by omega)
          clear hg h1 h2
          go_enter Tryd.func115, Tryd.ntmps115
          go_wp2_with fail
          go_ret
          exact ⟨ret_bool HE.out.symm, rfl⟩
end Go.Proofs.YtlghiakckkhekaaDoor
