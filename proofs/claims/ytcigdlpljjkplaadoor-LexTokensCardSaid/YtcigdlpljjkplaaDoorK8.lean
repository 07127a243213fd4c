/- The contracts of the reference's word and token. Conditions: a text takes at most 2^16 bytes. -/
import Derived.Test.YtcigdlpljjkplaaDoorK7
import Derived.Test.YtcigdlpljjkplaaDoorG5
namespace Go.Proofs.YtcigdlpljjkplaaDoor
open Go.RowKit

/-- A token with its place, or an error's number beside the zero token. -/
def WdR (x : Int × Tk) (p : Nat) : Value := if x.1 = 0 then .tuple #[.agg #[.int .i8 x.2.k, .string x.2.t, .int .i64 x.2.n, .int .i64 (p : Int)], .int .i64 0] else .tuple #[.agg #[.int .i8 0, .string ⟨#[]⟩, .int .i64 0, .int .i64 0], .int .i64 x.1]
theorem wordT_cons {c : UInt8} {r : List UInt8} (h : lowerB c = true ∨ upperB c = true) : wordT (c :: r) = if 120 < (c :: r).length then (30, tk0) else if upperB c then (0, ⟨2, ⟨(c :: r).toArray⟩, 0, 0⟩) else if kwB (c :: r) then (0, ⟨6, ⟨(c :: r).toArray⟩, 0, 0⟩) else (0, ⟨1, ⟨(c :: r).toArray⟩, 0, 0⟩) := by
  have h1 : ¬ c.toNat = 95 := by rcases h with h | h <;> simp [lowerB, upperB] at h <;> omega
  have h2 : digitB c = false := by rcases h with h | h <;> simp [lowerB, upperB] at h <;> simp [digitB] <;> omega
  simp only [wordT, if_neg h1, h2, Bool.false_eq_true, if_false]
theorem kw_lower {c : UInt8} {r : List UInt8} (h : kwB (c :: r) = true) : upperB c = false := by
  unfold kwB at h
  simp only [Bool.or_eq_true, beq_iff_eq, List.cons.injEq] at h
  rcases h with ((((((h | h) | h) | h) | h) | h) | h) | h <;> rw [h.1] <;> decide
set_option maxHeartbeats 8000000 in
set_option maxRecDepth 100000 in
theorem kWord (s : ByteArray) (p : Nat) (w : World) (h0 : 0 < s.size) (hs : s.size ≤ 65536) (hl : lowerB s[0] = true ∨ upperB s[0] = true) :
    Calls Tryd.prog 48 #[.string s, .int .i64 p] w fun e w' => e = .returned (WdR (wordT (bl s)) p) ∧ Below w.heap.size w w' := by
  have hi0 : (0 : Int) < (s.size : Int) := by omega
  have HD0 := Lib.hid (show bl s = s[0] :: (bl s).drop 1 by have := drop_get s 0 h0; rwa [List.drop_zero] at this)
  have HT := Lib.hid (show wordT (bl s) = if 120 < s.size then ((30 : Int), tk0) else if upperB s[0] then (0, ⟨2, s, 0, 0⟩) else if kwB (bl s) then (0, ⟨6, s, 0, 0⟩) else (0, ⟨1, s, 0, 0⟩) by
    have h1 := wordT_cons (r := (bl s).drop 1) hl
    rw [← HD0.out, size_bl, str_eta] at h1
    exact h1)
  clear hl
  by_cases hbig : 120 < s.size
  · have q : decide (120 < (s.size : Int)) = true := decide_eq_true (by omega)
    have HR := Lib.hid (show WdR (wordT (bl s)) p = .tuple #[.agg #[.int .i8 0, .string ⟨#[]⟩, .int .i64 0, .int .i64 0], .int .i64 30] by rw [HT.out, if_pos hbig]; rfl)
    go_enter Tryd.func48, Tryd.ntmps48
    go_wp2_with fail
    refine bodyPost_ret (v := .tuple #[.agg #[.int .i8 0, .string ⟨#[]⟩, .int .i64 0, .int .i64 0], .int .i64 30]) (by simp [results, Tryd.results48, go_sem]) rfl ?_
    exact ⟨by rw [HR.out], below_alloc _ _⟩
  · have q : decide (120 < (s.size : Int)) = false := decide_eq_false (by omega)
    rcases hu : upperB s[0] with _ | _
    · rcases hk : kwB (bl s) with _ | _
      · have HR := Lib.hid (show WdR (wordT (bl s)) p = .tuple #[.agg #[.int .i8 1, .string s, .int .i64 0, .int .i64 (p : Int)], .int .i64 0] by rw [HT.out, if_neg hbig, hu, hk]; rfl)
        have HU := Lib.hid hu
        have HKW := Lib.hid hk
        clear hu hk hbig
        go_enter Tryd.func48, Tryd.ntmps48
        go_wp2_with fail
        refine (kKeyword s _).mono ?_
        rintro e w1 ⟨rfl, hw1⟩
        rw [HKW.out, ← hw1]
        clear hw1
        go_wp2_with fail
        refine (kCapital _ _).mono ?_
        rintro e w1 ⟨rfl, hw1⟩
        rw [HU.out, ← hw1]
        clear hw1
        go_wp2_with fail
        refine bodyPost_ret (v := .tuple #[.agg #[.int .i8 1, .string s, .int .i64 0, .int .i64 (p : Int)], .int .i64 0]) (by simp [results, Tryd.results48, go_sem]) rfl ?_
        exact ⟨by rw [HR.out], (below_alloc _ _).trans ((below_alloc _ _).mono (by simp))⟩
      · have HR := Lib.hid (show WdR (wordT (bl s)) p = .tuple #[.agg #[.int .i8 6, .string s, .int .i64 0, .int .i64 (p : Int)], .int .i64 0] by rw [HT.out, if_neg hbig, hu, hk]; rfl)
        have HU := Lib.hid hu
        have HKW := Lib.hid hk
        clear hu hk hbig
        go_enter Tryd.func48, Tryd.ntmps48
        go_wp2_with fail
        refine (kKeyword s _).mono ?_
        rintro e w1 ⟨rfl, hw1⟩
        rw [HKW.out, ← hw1]
        clear hw1
        go_wp2_with fail
        refine (kCapital _ _).mono ?_
        rintro e w1 ⟨rfl, hw1⟩
        rw [HU.out, ← hw1]
        clear hw1
        go_wp2_with fail
        refine bodyPost_ret (v := .tuple #[.agg #[.int .i8 6, .string s, .int .i64 0, .int .i64 (p : Int)], .int .i64 0]) (by simp [results, Tryd.results48, go_sem]) rfl ?_
        exact ⟨by rw [HR.out], (below_alloc _ _).trans ((below_alloc _ _).mono (by simp))⟩
    · have HR := Lib.hid (show WdR (wordT (bl s)) p = .tuple #[.agg #[.int .i8 2, .string s, .int .i64 0, .int .i64 (p : Int)], .int .i64 0] by rw [HT.out, if_neg hbig, hu]; rfl)
      have HKW := Lib.hid (show kwB (bl s) = false by
        rcases hk : kwB (bl s) with _ | _
        · rfl
        · rw [HD0.out] at hk; rw [kw_lower hk] at hu; cases hu)
      have HU := Lib.hid hu
      clear hu hbig
      go_enter Tryd.func48, Tryd.ntmps48
      go_wp2_with fail
      refine (kKeyword s _).mono ?_
      rintro e w1 ⟨rfl, hw1⟩
      rw [HKW.out, ← hw1]
      clear hw1
      go_wp2_with fail
      refine (kCapital _ _).mono ?_
      rintro e w1 ⟨rfl, hw1⟩
      rw [HU.out, ← hw1]
      clear hw1
      go_wp2_with fail
      refine bodyPost_ret (v := .tuple #[.agg #[.int .i8 2, .string s, .int .i64 0, .int .i64 (p : Int)], .int .i64 0]) (by simp [results, Tryd.results48, go_sem]) rfl ?_
      exact ⟨by rw [HR.out], (below_alloc _ _).trans ((below_alloc _ _).mono (by simp))⟩
end Go.Proofs.YtcigdlpljjkplaaDoor
