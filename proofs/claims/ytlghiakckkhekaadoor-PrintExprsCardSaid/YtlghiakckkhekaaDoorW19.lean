/- The contracts of term.none, arity and solid, and of the reference's kids. Conditions: a text is no longer than the model lets any be. -/
import Derived.Test.YtlghiakckkhekaaDoorEx
namespace Go.Proofs.YtlghiakckkhekaaDoor
open Go.RowKit

theorem tm_eq0 (v : ByteArray) (k n : Int) (t : ByteArray) (w : World) :
    (binOp .eql 27 (.agg #[.string v, .int .i8 k, .int .i64 n, .string t]) (.agg #[.string ⟨#[]⟩, .int .i8 0, .int .i64 0, .string ⟨#[]⟩])).run Tryd.prog w = .ok (.bool (tmZero ⟨v, ⟨k, n, t⟩⟩)) w := by
  by_cases hv : v.toList = []
  · by_cases hk : k = 0
    · by_cases hn : n = 0
      · subst hk; subst hn
        go_simp
        by_cases ht : t.toList = [] <;> simp [tmZero, vlZero, bl, ← ByteArray.toList_eq, ht, hv]
      · subst hk
        go_simp
        simp [tmZero, vlZero, hn]
    · go_simp
      simp [tmZero, vlZero, hk]
  · go_simp
    simp [tmZero, bl, ← ByteArray.toList_eq, hv]
theorem tNone (v : ByteArray) (k n : Int) (t : ByteArray) (w : World) :
    Calls Tryd.prog 109 #[.agg #[.string v, .int .i8 k, .int .i64 n, .string t]] w fun e w' => e = .returned (.bool (tmZero ⟨v, ⟨k, n, t⟩⟩)) ∧ Below w.heap.size w w' := by
  have hq := fun w => tm_eq0 v k n t w
  obtain ⟨z, hz⟩ : ∃ z, z = tmZero ⟨v, ⟨k, n, t⟩⟩ := ⟨_, rfl⟩
  simp only [← hz] at hq ⊢
  clear hz
  go_enter Tryd.func109, Tryd.ntmps109
  go_wp2_with fail
  go_ret
  exact ⟨rfl, below_alloc _ _⟩
theorem tArity (op : Int) (w : World) :
    Calls Tryd.prog 110 #[.int .i8 op] w fun e w' => e = .returned (.int .i64 (arityI op)) ∧ w = w' := by
  go_enter Tryd.func110, Tryd.ntmps110
  go_wp2_with fail
  all_goals go_ret
  all_goals refine ⟨ret_int ?_, rfl⟩
  all_goals simp_all [arityI]
  all_goals omega
theorem rKids (op : Int) (w : World) :
    Calls Tryd.prog 107 #[.int .i8 op] w fun e w' => e = .returned (.int .i64 (arityI op)) ∧ w = w' := by
  go_enter Tryd.func107, Tryd.ntmps107
  go_wp2_with fail
  all_goals go_ret
  all_goals refine ⟨ret_int ?_, rfl⟩
  all_goals simp_all [arityI]
  all_goals omega
theorem tSolid (v : ByteArray) (k n : Int) (t : ByteArray) (w : World) (hv : v.size ≤ maxLen) :
    Calls Tryd.prog 108 #[.agg #[.string v, .int .i8 k, .int .i64 n, .string t]] w fun e w' => e = .returned (.bool (solidB ⟨v, ⟨k, n, t⟩⟩)) ∧ Below w.heap.size w w' := by
  by_cases h95 : v.toList = [95]
  · have HE := Lib.hid (show solidB ⟨v, ⟨k, n, t⟩⟩ = false by simp [solidB, bl, ← ByteArray.toList_eq, h95])
    have q : (v.toList == [95]) = true := by simp [h95]
    clear h95
    go_enter Tryd.func108, Tryd.ntmps108
    go_wp2_with fail
    go_ret
    exact ⟨ret_bool HE.out.symm, below_alloc _ _⟩
  · have HE := Lib.hid (show solidB ⟨v, ⟨k, n, t⟩⟩ = tmOk ⟨v, ⟨k, n, t⟩⟩ by simp [solidB, bl, ← ByteArray.toList_eq, h95])
    have q : (v.toList == [95]) = false := by simpa using h95
    clear h95
    obtain ⟨y, hy⟩ : ∃ y, y = tmOk ⟨v, ⟨k, n, t⟩⟩ := ⟨_, rfl⟩
    have HY := Lib.hid hy; clear hy
    cases y
    all_goals
      go_enter Tryd.func108, Tryd.ntmps108
      go_wp2_with fail
      refine (tCheckTerm v k n t _ hv).mono ?_
      rintro e w1 ⟨rfl, hb⟩
      have Hb := Lib.hid hb; clear hb
      rw [← HY.out]
      first | rw [show okCode false 40 = 40 from rfl] | rw [show okCode true 40 = 0 from rfl]
      go_wp2_with fail
      go_ret
      exact ⟨ret_bool (by rw [HE.out, ← HY.out]), (below_alloc _ _).trans (Hb.out.mono (by simp))⟩
end Go.Proofs.YtlghiakckkhekaaDoor
