/- The contracts of the reference's sign and Sign. Conditions: the text is one that its type holds. -/
import Derived.Test.YtcigdlpljjkplaaDoorL5
namespace Go.Proofs.YtcigdlpljjkplaaDoor
open Go.RowKit

theorem pre_take (x l : List UInt8) : x.isPrefixOf l = (l.take x.length == x) := by
  rw [Bool.eq_iff_iff, List.isPrefixOf_iff_prefix, List.prefix_iff_eq_take, beq_iff_eq]
  exact ⟨fun h => h.symm, fun h => h.symm⟩
theorem two_pre (s x : ByteArray) (hx : (bl x).length = 2) : (bl x).isPrefixOf (bl s) = ((s.extract 0 2).toList == x.toList) := by
  rw [pre_take, hx, ByteArray.toList_eq, ByteArray.toList_eq]
  show _ = (bl (s.extract 0 2) == bl x)
  rw [bl_extract]
  rfl
theorem two_short (s x : ByteArray) (hx : (bl x).length = 2) (h : s.size < 2) : (bl x).isPrefixOf (bl s) = false := by
  rw [pre_take, hx]
  refine beq_eq_false_iff_ne.2 fun e => ?_
  have := congrArg List.length e
  rw [List.length_take, size_bl, hx] at this
  omega
theorem bl_nil (s : ByteArray) (h : s.size = 0) : bl s = [] := List.eq_nil_of_length_eq_zero (by rw [size_bl]; exact h)
theorem bl_cons (s : ByteArray) (h : 0 < s.size) : bl s = s[0] :: (bl s).drop 1 := by
  have := drop_get s 0 h
  simpa using this
theorem sg_len (k : Nat) (h : k < 4) : (bl (signsT.getD k ⟨#[]⟩)).length = 2 := by
  rcases (show k = 0 ∨ k = 1 ∨ k = 2 ∨ k = 3 by omega) with rfl | rfl | rfl | rfl <;> rfl
def oneS : ByteArray := ⟨#[40, 41, 44, 46, 63, 61, 60, 62, 43, 45, 42, 47, 37, 38]⟩
theorem one_sz : oneS.size = 14 := rfl
theorem one_at (k : Nat) (h : k < oneS.size) : signsT.getD (4 + k) ⟨#[]⟩ = ⟨#[oneS[k]]⟩ := by
  have h' : k < 14 := h
  rcases (show k = 0 ∨ k = 1 ∨ k = 2 ∨ k = 3 ∨ k = 4 ∨ k = 5 ∨ k = 6 ∨ k = 7 ∨ k = 8 ∨ k = 9 ∨ k = 10 ∨ k = 11 ∨ k = 12 ∨ k = 13 by omega) with rfl | rfl | rfl | rfl | rfl | rfl | rfl | rfl | rfl | rfl | rfl | rfl | rfl | rfl <;> rfl
theorem one_pre (s : ByteArray) (c : UInt8) (h : 0 < s.size) : (bl (⟨#[c]⟩ : ByteArray)).isPrefixOf (bl s) = ((s[0].toNat : Int) == (c.toNat : Int)) := by
  rw [bl_cons s h, Bool.eq_iff_iff]
  show (([c] : List UInt8).isPrefixOf (s[0] :: (bl s).drop 1) = true) ↔ _
  simp [List.isPrefixOf]
  constructor
  · rintro rfl; rfl
  · intro e; exact UInt8.toNat_inj.1 (by omega)
theorem ext_one (s : ByteArray) (h : 0 < s.size) : s.extract 0 1 = ⟨#[s[0]]⟩ := by
  refine str_at _ [s[0]] ?_
  rw [bl_extract]
  conv => lhs; rw [bl_cons s h]
  rfl
theorem one_short (s : ByteArray) (c : UInt8) (h : ¬ 1 ≤ s.size) : (bl (⟨#[c]⟩ : ByteArray)).isPrefixOf (bl s) = false := by
  rw [bl_nil s (by omega)]
  rfl
set_option maxHeartbeats 4000000 in
set_option maxRecDepth 100000 in
theorem kSgn (s : ByteArray) (w : World) (hs : s.size ≤ maxLen) :
    Calls Tryd.prog 52 #[.string s] w fun e w' => e = .returned (.string ((headSign (bl s)).getD ⟨#[]⟩)) ∧ Below w.heap.size w w' := by
  unfold maxLen at hs
  have HE := Lib.hid (show headSign (bl s) = sgFrom 0 (bl s) from rfl)
  go_enter Tryd.func52, Tryd.ntmps52
  go_wp2_with fail
  obtain ⟨W, hW⟩ : ∃ W, W = w.alloc (.cells #[.string ⟨#[58, 45]⟩, .string ⟨#[33, 61]⟩, .string ⟨#[60, 61]⟩, .string ⟨#[62, 61]⟩] 9) := ⟨_, rfl⟩
  have hcl : ∀ k, k < 4 → W.cell? ⟨w.heap.size, k, none⟩ = some (.string (signsT.getD k ⟨#[]⟩)) := fun k hk => by
    subst hW
    rw [Lib.cell_of_heap (heap_alloc_new w _)]
    rcases (show k = 0 ∨ k = 1 ∨ k = 2 ∨ k = 3 by omega) with rfl | rfl | rfl | rfl <;> rfl
  have HC := Lib.hid hcl; clear hcl
  have hlt : w.heap.size < W.heap.size := by rw [hW]; simp
  have HB := Lib.hid (show Below w.heap.size w W by rw [hW]; exact below_alloc _ _)
  try rw [← hW]
  clear hW
  go_loopw [4] (fun i wr => ∃ k : Nat, k ≤ 4 ∧ i = .int .i64 k ∧ sgFrom 0 (bl s) = sgFrom k (bl s) ∧ Below W.heap.size W wr) (fun i _ => 4 - (intOf i).toNat)
  case atStart => exact ⟨0, by omega, rfl, rfl, Below.refl _ _⟩
  case round =>
    obtain ⟨k, hk, rfl, hw, hb⟩ := hrel
    have HW := Lib.hid hw; clear hw
    have Hb := Lib.hid hb; clear hb
    by_cases hlt4 : k < 4
    · have hc := (Hb.out.cell (p := ⟨w.heap.size, k, none⟩) hlt).trans (HC.out k hlt4)
      have HS := Lib.hid (sgFrom_step k (by omega) (bl s))
      have HL := Lib.hid (sg_len k hlt4)
      obtain ⟨x, hx⟩ : ∃ x, x = signsT.getD k ⟨#[]⟩ := ⟨_, rfl⟩
      have HX := Lib.hid hx
      rw [← hx] at hc
      clear hx
      by_cases h2 : 2 ≤ s.size
      · have q2 : decide (2 ≤ (s.size : Int)) = true := decide_eq_true (by omega)
        rcases hq : (s.extract 0 2).toList == x.toList with _ | _
        · have HP := Lib.hid ((two_pre s x (by rw [HX.out]; exact HL.out)).trans hq)
          go_wp2_with fail
          go_quiet (fail)
          go_wp2_with fail
          go_roundw
          case rel => exact ⟨k + 1, by omega, by go_num, by rw [HW.out, HS.out, ← HX.out, HP.out]; rfl, Hb.out.trans ((below_drewN _ _).mono Hb.out.size)⟩
          case measure => simp [intOf]; omega
        · have HP := Lib.hid ((two_pre s x (by rw [HX.out]; exact HL.out)).trans hq)
          go_wp2_with fail
          go_quiet (fail)
          go_wp2_with fail
          go_ret
          exact ⟨by rw [HE.out, HW.out, HS.out, ← HX.out, HP.out]; rfl, HB.out.trans ((Hb.out.trans ((below_drewN _ _).mono Hb.out.size)).mono (by omega))⟩
      · have q2 : decide (2 ≤ (s.size : Int)) = false := decide_eq_false (by omega)
        have HP := Lib.hid (two_short s x (by rw [HX.out]; exact HL.out) (by omega))
        go_wp2_with fail
        go_quiet (fail)
        go_wp2_with fail
        go_roundw
        case rel => exact ⟨k + 1, by omega, by go_num, by rw [HW.out, HS.out, ← HX.out, HP.out]; rfl, Hb.out.trans ((below_drewN _ _).mono Hb.out.size)⟩
        case measure => simp [intOf]; omega
    · obtain rfl : k = 4 := by omega
      obtain ⟨O, hO⟩ : ∃ O, O = oneS := ⟨_, rfl⟩
      have hos1 : O.size ≤ 14 := by rw [hO]; exact Nat.le_refl _
      have hos2 : 14 ≤ O.size := by rw [hO]; exact Nat.le_refl _
      have HO := Lib.hid hO
      have hsg : ∀ (k : Nat) (h : k < O.size), signsT.getD (4 + k) ⟨#[]⟩ = ⟨#[O[k]]⟩ := by subst hO; exact one_at
      have HSG := Lib.hid hsg
      clear hsg hlt4
      go_wp2_with fail
      rw [show (⟨#[40, 41, 44, 46, 63, 61, 60, 62, 43, 45, 42, 47, 37, 38]⟩ : ByteArray) = O from hO.symm]
      clear hO
      go_loopw [6] (fun i wr2 => ∃ k : Nat, k ≤ 14 ∧ i = .int .i64 k ∧ sgFrom 4 (bl s) = sgFrom (4 + k) (bl s) ∧ Below W.heap.size W wr2) (fun i _ => 14 - (intOf i).toNat)
      case atStart => exact ⟨0, by omega, rfl, rfl, Hb.out⟩
      case round =>
        clear Hb
        obtain ⟨k, hk, rfl, hw2, hb⟩ := hrel
        have HW2 := Lib.hid hw2; clear hw2
        have Hb := Lib.hid hb; clear hb
        by_cases hk14 : k < 14
        · have HS := Lib.hid (sgFrom_step (4 + k) (by omega) (bl s))
          have HG := Lib.hid (HSG.out k (by omega))
          by_cases h1 : 1 ≤ s.size
          · have q1 : decide (1 ≤ (s.size : Int)) = true := decide_eq_true (by omega)
            have hs0 : 0 < s.size := by omega
            have hsi : (0 : Int) < (s.size : Int) := by omega
            have hk0 : k < O.size := by omega
            have hki : (k : Int) < (O.size : Int) := by omega
            have HP := Lib.hid (one_pre s (O[k]'(by omega)) (by omega))
            rcases hq : ((s[0].toNat : Int) == ((O[k]'(by omega)).toNat : Int)) with _ | _
            · have HQ := Lib.hid (HP.out.trans hq)
              go_wp2_with fail
              go_quiet (fail)
              go_wp2_with fail
              go_roundw
              case rel => exact ⟨k + 1, by omega, by go_num, by rw [HW2.out, HS.out, HG.out, HQ.out]; rfl, Hb.out.trans ((below_drewN _ _).mono Hb.out.size)⟩
              case measure => simp [intOf]; omega
            · have HQ := Lib.hid (HP.out.trans hq)
              have HX := Lib.hid (ext_one s (by omega))
              have he : s[0] = O[k]'(by omega) := UInt8.toNat_inj.1 (by have := beq_iff_eq.1 hq; omega)
              have HEE := Lib.hid he; clear he
              go_wp2_with fail
              go_quiet (fail)
              go_wp2_with fail
              go_ret
              exact ⟨by rw [HX.out, HEE.out, HE.out, HW.out, HW2.out, HS.out, HG.out, HQ.out]; rfl, HB.out.trans ((Hb.out.trans ((below_drewN _ _).mono Hb.out.size)).mono (by omega))⟩
          · have q1 : decide (1 ≤ (s.size : Int)) = false := decide_eq_false (by omega)
            have HQ := Lib.hid (one_short s (O[k]'(by omega)) (by omega))
            go_wp2_with fail
            go_quiet (fail)
            go_wp2_with fail
            go_roundw
            case rel => exact ⟨k + 1, by omega, by go_num, by rw [HW2.out, HS.out, HG.out, HQ.out]; rfl, Hb.out.trans ((below_drewN _ _).mono Hb.out.size)⟩
            case measure => simp [intOf]; omega
        · obtain rfl : k = 14 := by omega
          go_wp2_with fail
          go_ret
          exact ⟨by rw [HE.out, HW.out, HW2.out, sgFrom_end 18 (by omega)]; rfl, HB.out.trans (Hb.out.mono (by omega))⟩
theorem sign_eq (s : ByteArray) : signB (bl s) = (decide (0 < s.size) && (((headSign (bl s)).getD ⟨#[]⟩).toList == s.toList)) := by
  rw [ByteArray.toList_eq, ByteArray.toList_eq, Bool.eq_iff_iff, Bool.and_eq_true, decide_eq_true_iff, beq_iff_eq]
  constructor
  · intro h
    have h2 : ∃ g ∈ signsT, bl s = bl g := by simpa [signB] using h
    obtain ⟨g, hg, hl⟩ := h2
    have h3 : ∀ g ∈ signsT, 0 < (bl g).length ∧ bl ((headSign (bl g)).getD ⟨#[]⟩) = bl g := by decide
    obtain ⟨h4, h5⟩ := h3 g hg
    exact ⟨by rw [← size_bl, hl]; exact h4, by rw [← hl] at h5; exact h5⟩
  · rintro ⟨h1, h2⟩
    rcases hh : headSign (bl s) with _ | g
    · rw [hh] at h2
      have h3 : bl s = [] := h2.symm
      rw [← size_bl, h3] at h1
      simp at h1
    · rw [hh] at h2
      have h3 : bl g = bl s := h2
      unfold signB
      rw [List.any_eq_true]
      exact ⟨g, List.mem_of_find?_eq_some hh, by rw [h3]; exact beq_self_eq_true _⟩
set_option maxHeartbeats 2000000 in
theorem kSign (s : ByteArray) (w : World) (hs : s.size ≤ maxLen) :
    Calls Tryd.prog 37 #[.string s] w fun e w' => e = .returned (.bool (signB (bl s))) ∧ Below w.heap.size w w' := by
  have HE := Lib.hid (sign_eq s)
  by_cases h0 : s.size = 0
  · have g : s.toList.isEmpty = true := by rw [ByteArray.toList_eq, List.isEmpty_iff_length_eq_zero]; rw [← size_bl] at h0; exact h0
    have g0 : decide (0 < s.size) = false := decide_eq_false (by omega)
    have HR := Lib.hid (show signB (bl s) = false by rw [HE.out, g0]; rfl)
    clear h0 g0
    go_enter Tryd.func37, Tryd.ntmps37
    go_wp2_with fail
    go_ret
    exact ⟨ret_bool HR.out.symm, Below.refl _ _⟩
  · have g : s.toList.isEmpty = false := by rw [ByteArray.toList_eq, Bool.eq_false_iff]; intro h; rw [List.isEmpty_iff_length_eq_zero] at h; exact h0 (by rw [← size_bl]; exact h)
    have g0 : decide (0 < s.size) = true := decide_eq_true (by omega)
    obtain ⟨r, hr⟩ : ∃ r, r = (headSign (bl s)).getD ⟨#[]⟩ := ⟨_, rfl⟩
    have HC := Lib.hid (fun w' => kSgn s w' hs)
    have HR := Lib.hid (show signB (bl s) = (r.toList == s.toList) by rw [HE.out, g0, hr]; rfl)
    rw [← hr] at HC
    clear h0 g0 hr
    go_enter Tryd.func37, Tryd.ntmps37
    go_wp2_with fail
    refine (HC.out _).mono ?_
    rintro e w1 ⟨rfl, hb⟩
    have Hb := Lib.hid hb; clear hb
    go_wp2_with fail
    go_ret
    exact ⟨ret_bool HR.out.symm, Hb.out⟩
end Go.Proofs.YtcigdlpljjkplaaDoor
