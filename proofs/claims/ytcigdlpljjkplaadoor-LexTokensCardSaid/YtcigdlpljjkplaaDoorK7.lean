/- The contract of the reference's number. Conditions: a run takes at most 2^16 bytes. -/
import Derived.Test.YtcigdlpljjkplaaDoorK6
namespace Go.Proofs.YtcigdlpljjkplaaDoor
open Go.RowKit

/-- What decimal digits spell behind others; none: one is no digit. -/
def numV : Nat → List UInt8 → Option Nat
  | acc, [] => some acc
  | acc, c :: r => if digitB c then numV (acc * 10 + (c.toNat - 48)) r else none
theorem digit_iff (c : UInt8) : digitB c = true ↔ 48 ≤ c.toNat ∧ c.toNat ≤ 57 := by simp [digitB]
theorem parse_num {M : Nat} : ∀ (l : List UInt8) (acc u : Nat), Lib.parseUintM M acc l = .ok u → numV acc l = some u
  | [], acc, u, h => by simpa [Lib.parseUintM, numV] using h
  | c :: r, acc, u, h => by
    rw [Lib.parseUintM] at h
    split at h
    · rename_i hd
      split at h
      · cases h
      · split at h
        · cases h
        · rw [numV, if_pos ((digit_iff c).2 hd)]
          exact parse_num r _ u h
    · cases h
theorem pow_le19 {k : Nat} (h : k ≤ 19) : 10 ^ k ≤ 10000000000000000000 := Nat.le_trans (Nat.pow_le_pow_right (by omega) h) (by decide)
theorem num_parse : ∀ (l : List UInt8) (acc n k : Nat), acc < 10 ^ k → k + l.length ≤ 19 → numV acc l = some n → Lib.parseUintM (2 ^ 64 - 1) acc l = .ok n
  | [], acc, n, k, _, _, h => by simpa [Lib.parseUintM, numV] using h
  | c :: r, acc, n, k, ha, hk, h => by
    rw [numV] at h
    split at h
    · rename_i hd
      have hd2 := (digit_iff c).1 hd
      have h18 : 10 ^ k ≤ 1000000000000000000 := Nat.le_trans (Nat.pow_le_pow_right (by omega) (show k ≤ 18 by simp at hk; omega)) (by decide)
      rw [Lib.parseUintM, if_pos hd2, if_neg (by omega), if_neg (by omega)]
      exact num_parse r _ n (k + 1) (by rw [Nat.pow_succ]; omega) (by simp at hk; omega) h
    · cases h
theorem num_ge : ∀ (l : List UInt8) (acc n : Nat), numV acc l = some n → acc * 10 ^ l.length ≤ n
  | [], acc, n, h => by simp [numV] at h; simp [h]
  | c :: r, acc, n, h => by
    rw [numV] at h
    split at h
    · have h1 := num_ge r _ n h
      rw [List.length_cons, Nat.pow_succ, Nat.mul_comm (10 ^ r.length) 10, ← Nat.mul_assoc]
      exact Nat.le_trans (Nat.mul_le_mul_right _ (by omega)) h1
    · cases h
theorem numT_long {c : UInt8} {r : List UInt8} (h : 19 < (c :: r).length) : numT (c :: r) = (32, tk0) := by
  unfold numT
  cases hp : Lib.parseUintB 64 (c :: r) with
  | ok u =>
    by_cases h0 : c = 48
    · simp only
      rw [if_pos (.inr ⟨by rw [h0]; rfl, by intro e; rw [e] at h; simp at h⟩)]
    · simp only
      rw [if_pos]
      left
      unfold Lib.parseUintB at hp
      rw [if_neg (by simp)] at hp
      have h1 := parse_num _ _ _ hp
      rw [numV] at h1
      split at h1
      · rename_i hd
        have hd2 := (digit_iff c).1 hd
        have h2 := num_ge r _ u h1
        have h3 : 48 < c.toNat := by
          rcases Nat.lt_or_ge 48 c.toNat with h4 | h4
          · exact h4
          · exact absurd (UInt8.toNat_inj.1 (show c.toNat = (48 : UInt8).toNat by have : (48 : UInt8).toNat = 48 := rfl; omega)) h0
        have h4 : 10 ^ 19 ≤ 10 ^ r.length := Nat.pow_le_pow_right (by omega) (by simp at h; omega)
        have h5 : 1 * 10 ^ r.length ≤ (0 * 10 + (c.toNat - 48)) * 10 ^ r.length := Nat.mul_le_mul_right _ (by omega)
        have h6 : (10 : Nat) ^ 19 = 10000000000000000000 := by decide
        omega
      · cases h1
  | _ => rfl
theorem numT_zero {r : List UInt8} (h : 1 < ((48 : UInt8) :: r).length) : numT (48 :: r) = (32, tk0) := by
  unfold numT
  cases hp : Lib.parseUintB 64 (48 :: r) with
  | ok u =>
    simp only
    rw [if_pos (.inr ⟨rfl, by intro e; simp at e; rw [e] at h; simp at h⟩)]
  | _ => rfl
theorem numT_bad {l : List UInt8} (h : numV 0 l = none) : numT l = (32, tk0) := by
  unfold numT
  cases hp : Lib.parseUintB 64 l with
  | ok u =>
    unfold Lib.parseUintB at hp
    split at hp
    · cases hp
    · rw [parse_num _ _ _ hp] at h; cases h
  | _ => rfl
theorem numT_good {l : List UInt8} {n : Nat} (h0 : l ≠ []) (hl : l.length ≤ 19) (hz : ¬ (l.head? = some 48 ∧ 1 < l.length)) (h : numV 0 l = some n) : numT l = if 9223372036854775808 < n then (32, tk0) else (0, ⟨4, ⟨#[]⟩, wrap64 (n : Int), 0⟩) := by
  have hp : Lib.parseUintB 64 l = .ok n := by
    unfold Lib.parseUintB
    rw [if_neg h0]
    exact num_parse l 0 n 0 (by decide) (by omega) h
  unfold numT
  rw [hp]
  simp only
  by_cases hb : 9223372036854775808 < n
  · rw [if_pos (.inl hb), if_pos hb]
  · rw [if_neg, if_neg hb]
    rintro (h1 | ⟨h1, h2⟩)
    · exact hb h1
    · refine hz ⟨h1, ?_⟩
      match l, h0, h1, h2 with
      | [a], _, h1, h2 => simp at h1; rw [h1] at h2; exact absurd rfl h2
      | a :: b :: r, _, _, _ => simp
/-- What the reference's number leaves. -/
def NmPost (l : List UInt8) (w : World) (e : Ending) (w' : World) : Prop :=
  ∃ (v : Int) (b : Bool), e = .returned (.tuple #[.int .i64 v, .bool b]) ∧ w = w' ∧ (b = true → numT l = (0, ⟨4, ⟨#[]⟩, v, 0⟩)) ∧ (b = false → numT l = (32, tk0))
set_option maxHeartbeats 8000000 in
set_option maxRecDepth 100000 in
theorem kNumber (s : ByteArray) (w : World) (h0 : 0 < s.size) (hs : s.size ≤ 65536) :
    Calls Tryd.prog 50 #[.string s] w (NmPost (bl s) w) := by
  have g : s.toList.isEmpty = false := by rw [ByteArray.toList_eq, Bool.eq_false_iff]; intro h; rw [List.isEmpty_iff_length_eq_zero] at h; have := size_bl s; unfold bl at this; omega
  have hi0 : (0 : Int) < (s.size : Int) := by omega
  have HD0 := Lib.hid (show bl s = s[0] :: (bl s).drop 1 by have := drop_get s 0 h0; rwa [List.drop_zero] at this)
  by_cases h19 : 19 < s.size
  · have q19 : decide (19 < (s.size : Int)) = true := decide_eq_true (by omega)
    have HR := Lib.hid (show numT (bl s) = (32, tk0) by rw [HD0.out]; exact numT_long (by rw [← HD0.out, size_bl]; exact h19))
    clear h19
    go_enter Tryd.func50, Tryd.ntmps50
    go_wp2_with fail
    go_ret2
    exact ⟨0, false, rfl, rfl, (fun h => nomatch h), fun _ => HR.out⟩
  · have q19 : decide (19 < (s.size : Int)) = false := decide_eq_false (by omega)
    by_cases hz : s[0].toNat = 48 ∧ 1 < s.size
    · have qz : ((s[0].toNat : Int) == 48) = true := by simp [hz.1]
      have q1 : decide (1 < (s.size : Int)) = true := decide_eq_true (by omega)
      have HR := Lib.hid (show numT (bl s) = (32, tk0) by
        have e : s[0] = 48 := UInt8.toNat_inj.1 hz.1
        rw [HD0.out, e]
        exact numT_zero (by rw [← e, ← HD0.out, size_bl]; exact hz.2))
      clear hz h19
      go_enter Tryd.func50, Tryd.ntmps50
      go_wp2_with fail
      go_ret2
      exact ⟨0, false, rfl, rfl, (fun h => nomatch h), fun _ => HR.out⟩
    · have HG := Lib.hid (fun n h => numT_good (l := bl s) (n := n) (by intro e; have := size_bl s; rw [e] at this; simp at this; omega) (by rw [size_bl]; omega) (by
        rintro ⟨h1, h2⟩
        rw [HD0.out] at h1
        simp at h1
        exact hz ⟨by rw [h1]; rfl, by rw [size_bl] at h2; exact h2⟩) h)
      have HZ := Lib.hid hz
      have hsl : s.size ≤ 19 := by omega
      go_enter Tryd.func50, Tryd.ntmps50
      rcases qz : ((s[0].toNat : Int) == 48) with _ | _
      · clear hz h19
        go_wp2_with fail
        clear g qz
        go_loop [4, 5] (fun v i => ∃ k m : Nat, k ≤ s.size ∧ v = .int .u64 m ∧ i = .int .i64 k ∧ m < 10 ^ k ∧ numV 0 (bl s) = numV m ((bl s).drop k)) (fun _ i => s.size - (intOf i).toNat)
        case atStart => exact ⟨0, 0, by omega, rfl, rfl, by decide, by rw [List.drop_zero]⟩
        case round =>
          obtain ⟨k, m, hk, rfl, rfl, hm, hv⟩ := hrel
          have HV := Lib.hid hv; clear hv
          by_cases hlt : k < s.size
          · have HM := Lib.hid hm
            have hm18 : m < 1000000000000000000 := Nat.lt_of_lt_of_le hm (Nat.le_trans (Nat.pow_le_pow_right (by omega) (show k ≤ 18 by omega)) (by decide))
            clear hm
            have hki : (k : Int) < (s.size : Int) := by omega
            have hk0 : (0 : Int) ≤ (k : Int) := by omega
            have HD := Lib.hid (drop_get s k hlt)
            rcases hd : digitB s[k] with _ | _
            · have HDG := Lib.hid hd
              have HR := Lib.hid (numT_bad (show numV 0 (bl s) = none by rw [HV.out, HD.out, numV, hd]; rfl))
              clear hd
              go_wp2_with fail
              refine (kDigit _ _).mono ?_
              rintro e w1 ⟨rfl, rfl⟩
              rw [HDG.out]
              go_wp2_with fail
              go_ret2
              exact ⟨0, false, rfl, rfl, (fun h => nomatch h), fun _ => HR.out⟩
            · have HDG := Lib.hid hd
              have hd2 := (digit_iff s[k]).1 hd
              have HNX := Lib.hid (show numV 0 (bl s) = numV (m * 10 + (s[k].toNat - 48)) ((bl s).drop (k + 1)) by rw [HV.out, HD.out, numV, hd]; rfl)
              have HM2 := Lib.hid (show m * 10 + (s[k].toNat - 48) < 10 ^ (k + 1) by have := HM.out; rw [Nat.pow_succ]; omega)
              clear hd
              go_wp2_with fail
              refine (kDigit _ _).mono ?_
              rintro e w1 ⟨rfl, rfl⟩
              rw [HDG.out]
              go_wp2_with fail
              exact ⟨⟨k + 1, m * 10 + (s[k].toNat - 48), by omega, by go_num, by go_num, HM2.out, HNX.out⟩, by simp [intOf]; omega⟩
          · obtain rfl : k = s.size := by omega
            have HVN := Lib.hid (show numV 0 (bl s) = some m by rw [HV.out, List.drop_of_length_le (by rw [size_bl]; exact Nat.le_refl _)]; rfl)
            have hm19 : m < 10000000000000000000 := Nat.lt_of_lt_of_le hm (pow_le19 hsl)
            clear hm
            by_cases hb : 9223372036854775808 < m
            · have q : decide ((m : Int) ≤ 9223372036854775808) = false := decide_eq_false (by omega)
              have HR := Lib.hid (show numT (bl s) = (32, tk0) by rw [HG.out m HVN.out, if_pos hb])
              go_wp2_with fail
              go_ret2
              exact ⟨_, false, rfl, rfl, (fun h => nomatch h), fun _ => HR.out⟩
            · have q : decide ((m : Int) ≤ 9223372036854775808) = true := decide_eq_true (by omega)
              have HR := Lib.hid (show numT (bl s) = (0, ⟨4, ⟨#[]⟩, wrap64 (m : Int), 0⟩) by rw [HG.out m HVN.out, if_neg hb])
              go_wp2_with fail
              go_ret2
              exact ⟨wrap64 (m : Int), true, rfl, rfl, fun _ => HR.out, (fun h => nomatch h)⟩
      · have q1 : decide (1 < (s.size : Int)) = false := decide_eq_false (by simp at qz; omega)
        clear hz h19
        go_wp2_with fail
        clear g qz
        go_loop [4, 5] (fun v i => ∃ k m : Nat, k ≤ s.size ∧ v = .int .u64 m ∧ i = .int .i64 k ∧ m < 10 ^ k ∧ numV 0 (bl s) = numV m ((bl s).drop k)) (fun _ i => s.size - (intOf i).toNat)
        case atStart => exact ⟨0, 0, by omega, rfl, rfl, by decide, by rw [List.drop_zero]⟩
        case round =>
          obtain ⟨k, m, hk, rfl, rfl, hm, hv⟩ := hrel
          have HV := Lib.hid hv; clear hv
          by_cases hlt : k < s.size
          · have HM := Lib.hid hm
            have hm18 : m < 1000000000000000000 := Nat.lt_of_lt_of_le hm (Nat.le_trans (Nat.pow_le_pow_right (by omega) (show k ≤ 18 by omega)) (by decide))
            clear hm
            have hki : (k : Int) < (s.size : Int) := by omega
            have hk0 : (0 : Int) ≤ (k : Int) := by omega
            have HD := Lib.hid (drop_get s k hlt)
            rcases hd : digitB s[k] with _ | _
            · have HDG := Lib.hid hd
              have HR := Lib.hid (numT_bad (show numV 0 (bl s) = none by rw [HV.out, HD.out, numV, hd]; rfl))
              clear hd
              go_wp2_with fail
              refine (kDigit _ _).mono ?_
              rintro e w1 ⟨rfl, rfl⟩
              rw [HDG.out]
              go_wp2_with fail
              go_ret2
              exact ⟨0, false, rfl, rfl, (fun h => nomatch h), fun _ => HR.out⟩
            · have HDG := Lib.hid hd
              have hd2 := (digit_iff s[k]).1 hd
              have HNX := Lib.hid (show numV 0 (bl s) = numV (m * 10 + (s[k].toNat - 48)) ((bl s).drop (k + 1)) by rw [HV.out, HD.out, numV, hd]; rfl)
              have HM2 := Lib.hid (show m * 10 + (s[k].toNat - 48) < 10 ^ (k + 1) by have := HM.out; rw [Nat.pow_succ]; omega)
              clear hd
              go_wp2_with fail
              refine (kDigit _ _).mono ?_
              rintro e w1 ⟨rfl, rfl⟩
              rw [HDG.out]
              go_wp2_with fail
              exact ⟨⟨k + 1, m * 10 + (s[k].toNat - 48), by omega, by go_num, by go_num, HM2.out, HNX.out⟩, by simp [intOf]; omega⟩
          · obtain rfl : k = s.size := by omega
            have HVN := Lib.hid (show numV 0 (bl s) = some m by rw [HV.out, List.drop_of_length_le (by rw [size_bl]; exact Nat.le_refl _)]; rfl)
            have hm19 : m < 10000000000000000000 := Nat.lt_of_lt_of_le hm (pow_le19 hsl)
            clear hm
            by_cases hb : 9223372036854775808 < m
            · have q : decide ((m : Int) ≤ 9223372036854775808) = false := decide_eq_false (by omega)
              have HR := Lib.hid (show numT (bl s) = (32, tk0) by rw [HG.out m HVN.out, if_pos hb])
              go_wp2_with fail
              go_ret2
              exact ⟨_, false, rfl, rfl, (fun h => nomatch h), fun _ => HR.out⟩
            · have q : decide ((m : Int) ≤ 9223372036854775808) = true := decide_eq_true (by omega)
              have HR := Lib.hid (show numT (bl s) = (0, ⟨4, ⟨#[]⟩, wrap64 (m : Int), 0⟩) by rw [HG.out m HVN.out, if_neg hb])
              go_wp2_with fail
              go_ret2
              exact ⟨wrap64 (m : Int), true, rfl, rfl, fun _ => HR.out, (fun h => nomatch h)⟩
end Go.Proofs.YtcigdlpljjkplaaDoor
