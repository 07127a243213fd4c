/- The contracts of term.CheckTerm and of the reference's. Conditions: a text is no longer than the model lets any be. -/
import Derived.Test.YtlghiakckkhekaaDoorW10
namespace Go.Proofs.YtlghiakckkhekaaDoor
open Go.RowKit

def zeroVl : Value := .agg #[.int .i8 0, .int .i64 0, .string ⟨#[]⟩]
theorem vl_eq0 (k n : Int) (t : ByteArray) (w : World) :
    (binOp .eql 25 (.agg #[.int .i8 k, .int .i64 n, .string t]) (.agg #[.int .i8 0, .int .i64 0, .string ⟨#[]⟩])).run Tryd.prog w = .ok (.bool (vlZero ⟨k, n, t⟩)) w := by
  by_cases hk : k = 0
  · by_cases hn : n = 0
    · subst hk; subst hn
      go_simp
      by_cases ht : t.toList = [] <;> simp [vlZero, bl, ← ByteArray.toList_eq, ht]
    · subst hk
      go_simp
      simp [vlZero, hn]
  · go_simp
    simp [vlZero, hk]
set_option maxHeartbeats 1000000 in
theorem tCheckTerm (v : ByteArray) (k n : Int) (t : ByteArray) (w : World) (hv : v.size ≤ maxLen) :
    Calls Tryd.prog 27 #[.agg #[.string v, .int .i8 k, .int .i64 n, .string t]] w fun e w' => e = .returned (.int .i64 (okCode (tmOk ⟨v, ⟨k, n, t⟩⟩) 40)) ∧ Below w.heap.size w w' := by
  by_cases h0 : v.toList.isEmpty = true
  · have HE := Lib.hid (show tmOk ⟨v, ⟨k, n, t⟩⟩ = vlOk ⟨k, n, t⟩ by unfold tmOk; rw [if_pos (by rw [bl, ← ByteArray.toList_eq]; exact h0)])
    go_enter Tryd.func27, Tryd.ntmps27
    go_wp2_with fail
    refine (vCheck k n t _).mono ?_
    rintro e w1 ⟨rfl, hb⟩
    have Hb := Lib.hid hb; clear hb
    obtain ⟨x, hx⟩ : ∃ x, x = vlOk ⟨k, n, t⟩ := ⟨_, rfl⟩
    rw [← hx] at HE
    rw [← hx]
    clear hx
    cases x
    all_goals
      first | rw [show okCode false 10 = 10 from rfl] | rw [show okCode true 10 = 0 from rfl]
      go_wp2_with fail
      refine (tCode _ _).mono ?_
      rintro e w2 ⟨rfl, rfl⟩
      go_wp2_with fail
      go_ret
      exact ⟨ret_int (by rw [HE.out]), ((Below.refl _ _).alloc (Nat.le_refl _) _).trans (Hb.out.mono (by simp))⟩
  · have h0' : v.toList.isEmpty = false := by simpa using h0
    have hq : ∀ w, _ := fun w => vl_eq0 k n t w
    have HE := Lib.hid (show tmOk ⟨v, ⟨k, n, t⟩⟩ = (vlZero ⟨k, n, t⟩ && (bl v == [95] || varB (bl v))) by unfold tmOk; rw [if_neg (by rw [bl, ← ByteArray.toList_eq]; exact h0)])
    obtain ⟨z, hz⟩ : ∃ z, z = vlZero ⟨k, n, t⟩ := ⟨_, rfl⟩
    rw [← hz] at HE
    simp only [← hz] at hq
    clear hz h0
    cases z
    · go_enter Tryd.func27, Tryd.ntmps27
      go_wp2_with fail
      refine (tCode _ _).mono ?_
      rintro e w2 ⟨rfl, rfl⟩
      go_wp2_with fail
      go_ret
      exact ⟨ret_int (by rw [HE.out]; rfl), ((Below.refl _ _).alloc (Nat.le_refl _) _)⟩
    · by_cases h95 : v.toList = [95]
      · have h95' : (v.toList == [95]) = true := by simp [h95]
        have HE2 := Lib.hid (show tmOk ⟨v, ⟨k, n, t⟩⟩ = true by rw [HE.out, bl, ← ByteArray.toList_eq, h95']; rfl)
        clear HE h95
        go_enter Tryd.func27, Tryd.ntmps27
        go_wp2_with fail
        refine (tCode _ _).mono ?_
        rintro e w2 ⟨rfl, rfl⟩
        go_wp2_with fail
        go_ret
        exact ⟨ret_int (by rw [HE2.out]), ((Below.refl _ _).alloc (Nat.le_refl _) _)⟩
      · have h95' : (v.toList == [95]) = false := by simpa using h95
        have HE2 := Lib.hid (show tmOk ⟨v, ⟨k, n, t⟩⟩ = varB (bl v) by rw [HE.out, show (bl v == [95]) = false by rw [bl, ← ByteArray.toList_eq]; exact h95']; rfl)
        clear HE h95
        go_enter Tryd.func27, Tryd.ntmps27
        go_wp2_with fail
        refine (tWord v 65 90 _ hv).mono ?_
        rintro e w1 ⟨rfl, hb⟩
        have Hb := Lib.hid hb; clear hb
        rw [show runB 65 90 (bl v) = varB (bl v) from rfl]
        obtain ⟨z, hz⟩ : ∃ z, z = varB (bl v) := ⟨_, rfl⟩
        rw [← hz] at HE2
        rw [← hz]
        clear hz
        go_wp2_with fail
        refine (tCode _ _).mono ?_
        rintro e w2 ⟨rfl, rfl⟩
        go_wp2_with fail
        go_ret
        exact ⟨ret_int (by rw [HE2.out]), ((Below.refl _ _).alloc (Nat.le_refl _) _).trans (Hb.out.mono (by simp))⟩
end Go.Proofs.YtlghiakckkhekaaDoor
