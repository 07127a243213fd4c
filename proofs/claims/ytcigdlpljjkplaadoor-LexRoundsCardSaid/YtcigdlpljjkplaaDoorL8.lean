/- What the statements on lex ask first; the walk of LexWords. Conditions: the tables lie as the program lays them. -/
import Derived.Test.YtcigdlpljjkplaaDoorL7
namespace Go.Proofs.YtcigdlpljjkplaaDoor
open Go.RowKit

set_option maxHeartbeats 4000000 in
set_option maxRecDepth 100000 in
theorem lvLives (w : World) (hE : ErrAt w) (hK : KwAt w) (hG : SgAt w) :
    Calls Tryd.prog 14 #[] w fun r w' => r = .returned (.bool true) ∧ Below w.heap.size w w' := by
  have HK := Lib.hid hK
  have HG := Lib.hid hG
  go_enter Tryd.func14, Tryd.ntmps14
  go_wp2_with fail
  refine (lvTokens w hE hK hG).mono ?_
  clear hE hK hG
  rintro e w1 ⟨a, cap, rfl, ha, hc, hb⟩
  have HF := Lib.hid (show Four w1 a from ⟨hc 0 (by omega), hc 1 (by omega), hc 2 (by omega), hc 3 (by omega), hc 4 (by omega), hc 5 (by omega), hc 6 (by omega), hc 7 (by omega), hc 8 (by omega), hc 9 (by omega), hc 10 (by omega), hc 11 (by omega), hc 12 (by omega), hc 13 (by omega), hc 14 (by omega), hc 15 (by omega)⟩)
  have Hb := Lib.hid hb; clear hb hc
  have hs1 := Hb.out.size
  go_wp2_with fail
  refine (lvJoin a cap _ (by simp; omega) (HF.out.up (below_alloc _ _) ha) (HK.out.at (Hb.out.trans ((below_alloc _ _).mono hs1))) (HG.out.at (Hb.out.trans ((below_alloc _ _).mono hs1)))).mono ?_
  rintro e w2 ⟨rfl, hb2⟩
  have hx := (hb2.block w1.heap.size (by simp)).trans (heap_alloc_new w1 (.cells #[.int .i64 0, .int .i64 0] 25))
  obtain ⟨x0, x1⟩ := two hx
  have hb12 := (below_alloc w1 (.cells #[.int .i64 0, .int .i64 0] 25)).trans (hb2.mono (by simp))
  obtain ⟨_, _, _, _, c4, c5, _, _, _, _, c10, _, _, _, _, _⟩ := HF.out.up hb12 ha
  have Hb2 := Lib.hid (Hb.out.trans (hb12.mono hs1)); clear hb12 hb2 hx
  go_wp2_with fail
  refine (lKeyword ⟨#[110, 111, 116]⟩ _ (HK.out.at Hb2.out)).mono ?_
  rintro e w3 ⟨rfl, hw3⟩
  rw [show kwB (bl ⟨#[110, 111, 116]⟩) = true from rfl, ← hw3]
  clear hw3
  go_wp2_with fail
  go_ret
  exact ⟨rfl, Hb2.out⟩
set_option maxHeartbeats 4000000 in
theorem lexWords (s : ByteArray) (w : World) (hs : s.size ≤ maxLen) (hE : ErrAt w) (hK : KwAt w) (hG : SgAt w) :
    Calls Tryd.prog 6 #[.string s] w fun r w' => r = .returned (.bool true) ∧ Below w.heap.size w w' := by
  have HE := Lib.hid hE; clear hE
  have HK := Lib.hid hK; clear hK
  have HG := Lib.hid hG; clear hG
  obtain ⟨kb, hkb⟩ : ∃ b, b = kwB (bl s) := ⟨_, rfl⟩
  obtain ⟨nb, hnb⟩ : ∃ b, b = nameB (bl s) := ⟨_, rfl⟩
  obtain ⟨vb, hvb⟩ : ∃ b, b = varB (bl s) := ⟨_, rfl⟩
  have HKB := Lib.hid hkb; clear hkb
  have HNB := Lib.hid hnb; clear hnb
  have HVB := Lib.hid hvb; clear hvb
  go_enter Tryd.func6, Tryd.ntmps6
  go_wp2_with fail
  refine (lKeyword s _ HK.out).mono ?_
  rintro e w1 ⟨rfl, rfl⟩
  rw [← HKB.out]
  go_wp2_with fail
  refine (kKeyword s _).mono ?_
  rintro e w1 ⟨rfl, rfl⟩
  rw [← HKB.out]
  go_wp2_with fail
  refine (lName s _ hs HK.out).mono ?_
  rintro e w1 ⟨rfl, hb⟩
  have Hb := Lib.hid hb; clear hb
  rw [← HNB.out]
  go_wp2_with fail
  refine (kName s _ hs).mono ?_
  rintro e w2 ⟨rfl, hw⟩
  rw [← HNB.out, ← hw]
  clear hw
  go_wp2_with fail
  refine (lVariable s _ hs).mono ?_
  rintro e w3 ⟨rfl, hb⟩
  have Hb3 := Lib.hid (Hb.out.trans (hb.mono Hb.out.size)); clear hb
  rw [← HVB.out]
  go_wp2_with fail
  refine (kVariable s _ hs).mono ?_
  rintro e w4 ⟨rfl, hw⟩
  rw [← HVB.out, ← hw]
  clear hw
  go_wp2_with fail
  refine (lvLives _ (HE.out.at Hb3.out) (HK.out.at Hb3.out) (HG.out.at Hb3.out)).mono ?_
  rintro e w5 ⟨rfl, hb⟩
  have Hb5 := Lib.hid (Hb3.out.trans (hb.mono Hb3.out.size)); clear hb
  go_wp2_with fail
  go_ret
  exact ⟨rfl, Hb5.out⟩
end Go.Proofs.YtcigdlpljjkplaaDoor
