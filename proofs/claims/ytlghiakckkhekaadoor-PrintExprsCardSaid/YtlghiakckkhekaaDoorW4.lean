/- The contract of value.name. Conditions: a text is no longer than the model lets any be. -/
import Derived.Test.YtlghiakckkhekaaDoorW2
namespace Go.Proofs.YtlghiakckkhekaaDoor
open Go.RowKit

set_option maxHeartbeats 1000000 in
set_option maxRecDepth 100000 in
theorem vName (s : ByteArray) (w : World) (hs : s.size ≤ maxLen) :
    Calls Tryd.prog 99 #[.string s] w fun e w' => e = .returned (.bool (nameB (bl s))) ∧ Below w.heap.size w w' := by
  unfold maxLen at hs
  by_cases h0 : s.size = 0
  · go_enter Tryd.func99, Tryd.ntmps99
    go_wp2
    go_ret
    exact ⟨ret_bool (by rw [nameB, runB_no0 _ _ _ h0]; rfl), Below.refl _ _⟩
  · have h0' : 0 < s.size := by omega
    obtain ⟨cap, w1, hconv, hb, hz, hc⟩ := bytes_of (P := Tryd.prog) w 9 90 5 s Tryd.underlying9 Tryd.underlying90 Tryd.underlying5
    have Hb := Lib.hid hb; clear hb
    have Hz := Lib.hid hz; clear hz
    have Hc := Lib.hid hc; clear hc
    have g0 : ((s.size : Int) == 0) = false := beq_eq_false_iff_ne.2 (by omega)
    by_cases hg : s.size ≤ 120 ∧ 97 ≤ s[0].toNat ∧ s[0].toNat ≤ 122
    · obtain ⟨hg1, hg2, hg3⟩ := hg
      have HE := Lib.hid (show nameB (bl s) = ((bl s).all wordB && !kwB (bl s)) by rw [nameB, runB_all (fr := 97) (to := 122) h0' hg1 hg2 hg3])
      have g1 : decide (120 < (s.size : Int)) = false := decide_eq_false (by omega)
      have g2 : decide ((s[0].toNat : Int) < 97) = false := decide_eq_false (by omega)
      have g3 : decide ((122 : Int) < (s[0].toNat : Int)) = false := decide_eq_false (by omega)
      go_enter Tryd.func99, Tryd.ntmps99
      go_wp2
      clear hconv g0 g1 g2 g3 hg1 hg2 hg3
      go_loop [26] (fun i => ∃ k : Nat, k ≤ s.size ∧ i = .int .i64 k ∧ ∀ j, (h : j < s.size) → j < k → wordB s[j] = true) (fun i => s.size - (intOf i).toNat)
      case atStart => exact ⟨0, by omega, rfl, fun j _ h => by omega⟩
      case round =>
        obtain ⟨k, hk, rfl, hw⟩ := hrel
        have Hw := Lib.hid hw; clear hw
        by_cases hlt : k < s.size
        · have hcell := Hc.out k hlt
          by_cases h95 : s[k].toNat = 95
          · have hq : ((s[k].toNat : Int) != 95) = false := by simp [h95]
            have hwk := Lib.hid ((wordB_iff s[k]).2 (by omega))
            go_wp2
            all_goals exact ⟨⟨k + 1, by omega, by go_num, step_all Hw.out hlt hwk.out⟩, by simp [intOf]; omega⟩
          · have hq : ((s[k].toNat : Int) != 95) = true := by simp; omega
            go_wp2
            all_goals first
              | (go_ret; refine ⟨ret_bool ?_, Hb.out⟩; rw [HE.out, all_false wordB s k hlt (wordB_false _ (by omega))]; rfl)
              | exact ⟨⟨k + 1, by omega, by go_num, step_all Hw.out hlt ((wordB_iff s[k]).2 (by omega))⟩, by simp [intOf]; omega⟩
        · have HF := Lib.hid (show nameB (bl s) = !kwB (bl s) by rw [HE.out, all_true wordB s (fun j h => Hw.out j h (by omega))]; rfl)
          clear HE
          go_wp2_with fail
          all_goals go_ret
          all_goals refine ⟨ret_bool ?_, Hb.out⟩
          all_goals rw [HF.out]
          all_goals simp_all [kwB, bl, ← ByteArray.toList_eq]
    · have HE := Lib.hid (show nameB (bl s) = false by rw [nameB, runB_not (fr := 97) (to := 122) h0' hg]; rfl)
      clear hconv Hb Hz Hc
      by_cases h1 : 120 < s.size
      · have g1 : decide (120 < (s.size : Int)) = true := decide_eq_true (by omega)
        clear hg
        go_enter Tryd.func99, Tryd.ntmps99
        go_wp2
        go_ret
        exact ⟨ret_bool HE.out.symm, Below.refl _ _⟩
      · have g1 : decide (120 < (s.size : Int)) = false := decide_eq_false (by omega)
        by_cases h2 : s[0].toNat < 97
        · have g2 : decide ((s[0].toNat : Int) < 97) = true := decide_eq_true (by omega)
          clear hg h1
          go_enter Tryd.func99, Tryd.ntmps99
          go_wp2
          go_ret
          exact ⟨ret_bool HE.out.symm, Below.refl _ _⟩
        · have g2 : decide ((s[0].toNat : Int) < 97) = false := decide_eq_false (by omega)
          have g3 : decide ((122 : Int) < (s[0].toNat : Int)) = true := decide_eq_true (by omega)
          clear hg h1 h2
          go_enter Tryd.func99, Tryd.ntmps99
          go_wp2
          go_ret
          exact ⟨ret_bool HE.out.symm, Below.refl _ _⟩
end Go.Proofs.YtlghiakckkhekaaDoor
