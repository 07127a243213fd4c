/- The contracts of the small functions of value, term and the references below print: each returns what its plain function says. Conditions: none. -/
import Derived.Test.YtlghiakckkhekaaDoorProg
import Derived.Test.YtlghiakckkhekaaDoorAux
namespace Go.Proofs.YtlghiakckkhekaaDoor
open Go.RowKit

theorem vCheck (k n : Int) (t : ByteArray) (w : World) :
    Calls Tryd.prog 60 #[.agg #[.int .i8 k, .int .i64 n, .string t]] w fun e w' => e = .returned (.int .i64 (okCode (vlOk ⟨k, n, t⟩) 10)) ∧ Below w.heap.size w w' := by
  go_enter Tryd.func60, Tryd.ntmps60
  go_wp2
  all_goals go_ret
  all_goals refine ⟨?_, (Below.refl _ _).alloc (Nat.le_refl _) _⟩
  all_goals simp_all [okCode, vlOk, bl, ← ByteArray.toList_eq]
  all_goals omega
theorem rCheck (k n : Int) (t : ByteArray) (w : World) :
    Calls Tryd.prog 81 #[.agg #[.int .i8 k, .int .i64 n, .string t]] w fun e w' => e = .returned (.int .i64 (okCode (vlOk ⟨k, n, t⟩) 10)) ∧ Below w.heap.size w w' := by
  go_enter Tryd.func81, Tryd.ntmps81
  go_wp2
  all_goals go_ret
  all_goals refine ⟨?_, (Below.refl _ _).alloc (Nat.le_refl _) _⟩
  all_goals simp_all [okCode, vlOk, bl, ← ByteArray.toList_eq]
  all_goals omega
theorem tCode (b : Bool) (w : World) :
    Calls Tryd.prog 59 #[.bool b] w fun e w' => e = .returned (.int .i64 (okCode b 40)) ∧ w = w' := by
  go_enter Tryd.func59, Tryd.ntmps59
  go_wp2
  all_goals go_ret
  all_goals simp_all [okCode]
theorem rSaid (b : Bool) (w : World) :
    Calls Tryd.prog 63 #[.bool b] w fun e w' => e = .returned (.int .i64 (okCode b 40)) ∧ w = w' := by
  go_enter Tryd.func63, Tryd.ntmps63
  go_wp2
  all_goals go_ret
  all_goals simp_all [okCode]
theorem rLetter (c : UInt8) (w : World) :
    Calls Tryd.prog 135 #[.int .u8 c.toNat] w fun e w' => e = .returned (.bool (wordB c)) ∧ w = w' := by
  go_enter Tryd.func135, Tryd.ntmps135
  go_wp2
  all_goals go_ret
  all_goals (refine ⟨ret_bool ?_, rfl⟩; rw [Bool.eq_iff_iff]; simp [wordB, lowerB, upperB, digitB]; omega)
theorem rKeyword (s : ByteArray) (w : World) :
    Calls Tryd.prog 116 #[.string s] w fun e w' => e = .returned (.bool (kwB (bl s))) ∧ w = w' := by
  go_enter Tryd.func116, Tryd.ntmps116
  go_wp2
  all_goals go_ret
  all_goals simp_all [kwB, bl, ← ByteArray.toList_eq]
end Go.Proofs.YtlghiakckkhekaaDoor
