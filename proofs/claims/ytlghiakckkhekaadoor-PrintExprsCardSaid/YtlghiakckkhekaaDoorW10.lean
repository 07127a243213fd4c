/- The contracts of value.Show and of the reference's. Conditions: a number is one that int64 holds; a text is no longer than the model lets any be. -/
import Derived.Test.YtlghiakckkhekaaDoorW3
import Derived.Test.YtlghiakckkhekaaDoorW4
import Derived.Test.YtlghiakckkhekaaDoorW7
import Derived.Test.YtlghiakckkhekaaDoorW8
import Derived.Test.YtlghiakckkhekaaDoorW9
import Derived.Test.YtlghiakckkhekaaDoorTabs
import Derived.Test.YtlghiakckkhekaaDoorShelf
namespace Go.Proofs.YtlghiakckkhekaaDoor
open Go.RowKit

/-- What a value is within its types' bounds. -/
structure VlR (k n : Int) (t : ByteArray) : Prop where
  n0 : -9223372036854775808 ≤ n
  n1 : n ≤ 9223372036854775807
  t0 : t.size ≤ maxLen
theorem vFormat (n : Int) (h0 : -9223372036854775808 ≤ n) (h1 : n ≤ 9223372036854775807) (w : World) (hT : Tabs w) :
    Calls Tryd.prog 98 #[.int .i64 n, .int .i64 10] w fun e w' => e = .returned (.string ⟨(Lib.itoa n).toArray⟩) ∧ Below w.heap.size w w' := by
  refine (Tryd.strconv_FormatInt_10 n h0 h1 w hT.pow).mono ?_
  rintro e w' ⟨rfl, k, os, rfl⟩
  exact ⟨rfl, Lib.below_grow _ _ (Nat.le_refl _) _ _⟩
theorem rName (s : ByteArray) (w : World) (hs : s.size ≤ maxLen) :
    Calls Tryd.prog 80 #[.string s] w fun e w' => e = .returned (.bool (nameB (bl s))) ∧ w = w' := by
  rcases hr : runB 97 122 (bl s) with _ | _
  · have HE := Lib.hid (show nameB (bl s) = false by simp [nameB, hr])
    have HR := Lib.hid hr; clear hr
    go_enter Tryd.func80, Tryd.ntmps80
    go_wp2_with fail
    refine (rWritten s 97 122 _ hs (fun c h1 h2 => (wordB_iff c).2 (.inl ⟨h1, h2⟩))).mono ?_
    rintro e w' ⟨rfl, rfl⟩
    rw [HR.out]
    go_wp2_with fail
    go_ret
    exact ⟨ret_bool HE.out.symm, rfl⟩
  · have HE := Lib.hid (show nameB (bl s) = !kwB (bl s) by simp [nameB, hr])
    have HR := Lib.hid hr; clear hr
    go_enter Tryd.func80, Tryd.ntmps80
    go_wp2_with fail
    refine (rWritten s 97 122 _ hs (fun c h1 h2 => (wordB_iff c).2 (.inl ⟨h1, h2⟩))).mono ?_
    rintro e w' ⟨rfl, rfl⟩
    rw [HR.out]
    go_wp2_with fail
    refine (rKeyword s _).mono ?_
    rintro e w' ⟨rfl, rfl⟩
    go_wp2_with fail
    go_ret
    exact ⟨ret_bool HE.out.symm, rfl⟩
theorem rVariable (s : ByteArray) (w : World) (hs : s.size ≤ maxLen) :
    Calls Tryd.prog 101 #[.string s] w fun e w' => e = .returned (.bool (varB (bl s))) ∧ w = w' := by
  go_enter Tryd.func101, Tryd.ntmps101
  go_wp2_with fail
  refine (rWritten s 65 90 _ hs (fun c h1 h2 => (wordB_iff c).2 (.inr (.inl ⟨h1, h2⟩)))).mono ?_
  rintro e w' ⟨rfl, rfl⟩
  go_wp2_with fail
  go_ret
  exact ⟨rfl, rfl⟩
theorem ret_show {a b : List UInt8} {m n : Int} (h : a = b) (hm : m = n) : Ending.returned (.tuple #[.string ⟨a.toArray⟩, .int .i64 m]) = .returned (.tuple #[.string ⟨b.toArray⟩, .int .i64 n]) := by rw [h, hm]
set_option maxHeartbeats 1000000 in
theorem vShow (k n : Int) (t : ByteArray) (w : World) (hr : VlR k n t) (hT : Tabs w) :
    Calls Tryd.prog 62 #[.agg #[.int .i8 k, .int .i64 n, .string t]] w fun e w' => e = .returned (.tuple #[.string ⟨(showL ⟨k, n, t⟩).toArray⟩, .int .i64 (okCode (vlOk ⟨k, n, t⟩) 10)]) ∧ Below w.heap.size w w' := by
  have HT := Lib.hid hT; clear hT
  have HR := Lib.hid hr; clear hr
  rcases hv : vlOk ⟨k, n, t⟩ with _ | _
  · have HS := Lib.hid (show showL ⟨k, n, t⟩ = [] by simp [showL, hv])
    have HV := Lib.hid hv; clear hv
    go_enter Tryd.func62, Tryd.ntmps62
    go_wp2_with fail
    refine (vCheck k n t _).mono ?_
    rintro e w1 ⟨rfl, hb⟩
    rw [HV.out, show okCode false 10 = 10 from rfl]
    have Hb := Lib.hid hb; clear hb
    go_wp2_with fail
    go_ret2
    exact ⟨ret_show HS.out.symm rfl, ((Below.refl _ _).alloc (Nat.le_refl _) _).trans (Hb.out.mono (by simp))⟩
  · by_cases hk : k = 1
    · have HS := Lib.hid (show showL ⟨k, n, t⟩ = Lib.itoa n by unfold showL; rw [if_pos hv]; simp [hk])
      have HV := Lib.hid hv; clear hv
      have hk1 : (k == 1) = true := by simp [hk]
      clear hk
      go_enter Tryd.func62, Tryd.ntmps62
      go_wp2_with fail
      refine (vCheck k n t _).mono ?_
      rintro e w1 ⟨rfl, hb⟩
      rw [HV.out, show okCode true 10 = 0 from rfl]
      obtain ⟨hc, hf⟩ := bcell hb
      have Hb := Lib.hid hb; clear hb
      go_wp2_with fail
      refine (vFormat n HR.out.n0 HR.out.n1 _ ((HT.out.alloc _).at Hb.out)).mono ?_
      rintro e w2 ⟨rfl, hb2⟩
      have Hb2 := Lib.hid hb2; clear hb2
      clear hc hf
      go_wp2_with fail
      go_ret2
      exact ⟨ret_show HS.out.symm rfl, (((Below.refl _ _).alloc (Nat.le_refl _) _).trans (Hb.out.mono (by simp))).trans (Hb2.out.mono (by have := Hb.out.size; simp at this; omega))⟩
    · have hk1 : (k == 1) = false := by simpa using hk
      have h200 : t.size ≤ 200 := by
        simp [vlOk, hk] at hv; omega
      rcases hn : nameB (bl t) with _ | _
      · have HS := Lib.hid (show showL ⟨k, n, t⟩ = quoteL (bl t) by unfold showL; rw [if_pos hv]; simp [hk, hn])
        have HV := Lib.hid hv; clear hv
        have HN := Lib.hid hn; clear hn
        clear hk
        go_enter Tryd.func62, Tryd.ntmps62
        go_wp2_with fail
        refine (vCheck k n t _).mono ?_
        rintro e w1 ⟨rfl, hb⟩
        rw [HV.out, show okCode true 10 = 0 from rfl]
        obtain ⟨hc, hf⟩ := bcell hb
        have Hb := Lib.hid hb; clear hb
        have hsz1 : w.heap.size < w1.heap.size := by have := Hb.out.size; simp at this; omega
        go_wp2_with fail
        refine (vName t _ HR.out.t0).mono ?_
        rintro e w2 ⟨rfl, hb2⟩
        rw [HN.out]
        obtain ⟨hc2, hf2⟩ := bcell hb2
        have Hb2 := Lib.hid hb2; clear hb2
        go_wp2_with fail
        refine (vQuoted t _ h200).mono ?_
        rintro e w3 ⟨rfl, hb3⟩
        have Hb3 := Lib.hid hb3; clear hb3
        clear hc hf hc2 hf2
        go_wp2_with fail
        go_ret2
        exact ⟨ret_show HS.out.symm rfl, ((((Below.refl _ _).alloc (Nat.le_refl _) _).trans (Hb.out.mono (by simp))).trans (Hb2.out.mono (by omega))).trans (Hb3.out.mono (by have := Hb2.out.size; omega))⟩
      · have HS := Lib.hid (show showL ⟨k, n, t⟩ = bl t by unfold showL; rw [if_pos hv]; simp [hk, hn])
        have HV := Lib.hid hv; clear hv
        have HN := Lib.hid hn; clear hn
        clear hk
        go_enter Tryd.func62, Tryd.ntmps62
        go_wp2_with fail
        refine (vCheck k n t _).mono ?_
        rintro e w1 ⟨rfl, hb⟩
        rw [HV.out, show okCode true 10 = 0 from rfl]
        obtain ⟨hc, hf⟩ := bcell hb
        have Hb := Lib.hid hb; clear hb
        have hsz1 : w.heap.size < w1.heap.size := by have := Hb.out.size; simp at this; omega
        go_wp2_with fail
        refine (vName t _ HR.out.t0).mono ?_
        rintro e w2 ⟨rfl, hb2⟩
        rw [HN.out]
        obtain ⟨hc2, hf2⟩ := bcell hb2
        have Hb2 := Lib.hid hb2; clear hb2
        go_wp2_with fail
        go_ret2
        refine ⟨?_, (((Below.refl _ _).alloc (Nat.le_refl _) _).trans (Hb.out.mono (by simp))).trans (Hb2.out.mono (by omega))⟩
        rw [HS.out, str_eta]; rfl
set_option maxHeartbeats 1000000 in
theorem rShow (k n : Int) (t : ByteArray) (w : World) (hr : VlR k n t) :
    Calls Tryd.prog 65 #[.agg #[.int .i8 k, .int .i64 n, .string t]] w fun e w' => e = .returned (.tuple #[.string ⟨(showL ⟨k, n, t⟩).toArray⟩, .int .i64 (okCode (vlOk ⟨k, n, t⟩) 10)]) ∧ Below w.heap.size w w' := by
  have HR := Lib.hid hr; clear hr
  rcases hv : vlOk ⟨k, n, t⟩ with _ | _
  · have HS := Lib.hid (show showL ⟨k, n, t⟩ = [] by simp [showL, hv])
    have HV := Lib.hid hv; clear hv
    go_enter Tryd.func65, Tryd.ntmps65
    go_wp2_with fail
    refine (rCheck k n t _).mono ?_
    rintro e w1 ⟨rfl, hb⟩
    rw [HV.out, show okCode false 10 = 10 from rfl]
    have Hb := Lib.hid hb; clear hb
    go_wp2_with fail
    go_ret2
    exact ⟨ret_show HS.out.symm rfl, ((Below.refl _ _).alloc (Nat.le_refl _) _).trans (Hb.out.mono (by simp))⟩
  · by_cases hk : k = 1
    · have HS := Lib.hid (show showL ⟨k, n, t⟩ = Lib.itoa n by unfold showL; rw [if_pos hv]; simp [hk])
      have HV := Lib.hid hv; clear hv
      have hk1 : (k == 1) = true := by simp [hk]
      clear hk
      go_enter Tryd.func65, Tryd.ntmps65
      go_wp2_with fail
      refine (rCheck k n t _).mono ?_
      rintro e w1 ⟨rfl, hb⟩
      rw [HV.out, show okCode true 10 = 0 from rfl]
      obtain ⟨hc, hf⟩ := bcell hb
      have Hb := Lib.hid hb; clear hb
      go_wp2_with fail
      refine (rDigits n HR.out.n0 HR.out.n1 _).mono ?_
      rintro e w2 ⟨rfl, hb2⟩
      have Hb2 := Lib.hid hb2; clear hb2
      clear hc hf
      go_wp2_with fail
      go_ret2
      exact ⟨ret_show HS.out.symm rfl, (((Below.refl _ _).alloc (Nat.le_refl _) _).trans (Hb.out.mono (by simp))).trans (Hb2.out.mono (by have := Hb.out.size; simp at this; omega))⟩
    · have hk1 : (k == 1) = false := by simpa using hk
      have h200 : t.size ≤ 200 := by
        simp [vlOk, hk] at hv; omega
      rcases hn : nameB (bl t) with _ | _
      · have HS := Lib.hid (show showL ⟨k, n, t⟩ = quoteL (bl t) by unfold showL; rw [if_pos hv]; simp [hk, hn])
        have HV := Lib.hid hv; clear hv
        have HN := Lib.hid hn; clear hn
        clear hk
        go_enter Tryd.func65, Tryd.ntmps65
        go_wp2_with fail
        refine (rCheck k n t _).mono ?_
        rintro e w1 ⟨rfl, hb⟩
        rw [HV.out, show okCode true 10 = 0 from rfl]
        obtain ⟨hc, hf⟩ := bcell hb
        have Hb := Lib.hid hb; clear hb
        have hsz1 : w.heap.size < w1.heap.size := by have := Hb.out.size; simp at this; omega
        go_wp2_with fail
        refine (rName t _ HR.out.t0).mono ?_
        rintro e w2 ⟨rfl, rfl⟩
        rw [HN.out]
        go_wp2_with fail
        refine (rQuoted t _ h200).mono ?_
        rintro e w3 ⟨rfl, hb3⟩
        have Hb3 := Lib.hid hb3; clear hb3
        clear hc hf
        go_wp2_with fail
        go_ret2
        exact ⟨ret_show HS.out.symm rfl, (((Below.refl _ _).alloc (Nat.le_refl _) _).trans (Hb.out.mono (by simp))).trans (Hb3.out.mono (by omega))⟩
      · have HS := Lib.hid (show showL ⟨k, n, t⟩ = bl t by unfold showL; rw [if_pos hv]; simp [hk, hn])
        have HV := Lib.hid hv; clear hv
        have HN := Lib.hid hn; clear hn
        clear hk
        go_enter Tryd.func65, Tryd.ntmps65
        go_wp2_with fail
        refine (rCheck k n t _).mono ?_
        rintro e w1 ⟨rfl, hb⟩
        rw [HV.out, show okCode true 10 = 0 from rfl]
        obtain ⟨hc, hf⟩ := bcell hb
        have Hb := Lib.hid hb; clear hb
        have hsz1 : w.heap.size < w1.heap.size := by have := Hb.out.size; simp at this; omega
        go_wp2_with fail
        refine (rName t _ HR.out.t0).mono ?_
        rintro e w2 ⟨rfl, rfl⟩
        rw [HN.out]
        go_wp2_with fail
        go_ret2
        refine ⟨?_, ((Below.refl _ _).alloc (Nat.le_refl _) _).trans (Hb.out.mono (by simp))⟩
        rw [HS.out, str_eta]; rfl
end Go.Proofs.YtlghiakckkhekaaDoor
