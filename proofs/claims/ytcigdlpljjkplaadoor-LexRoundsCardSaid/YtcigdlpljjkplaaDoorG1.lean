/- The contracts of lex.show and of the reference's Quoted. Conditions: the text has at most 200 bytes. -/
import Derived.Test.YtcigdlpljjkplaaDoorW7
import Derived.Laws.BytesArg
import Derived.Deep.RegionLaw
namespace Go.Proofs.YtcigdlpljjkplaaDoor
open Go.RowKit

set_option maxHeartbeats 2000000 in
set_option maxRecDepth 100000 in
theorem lShow (s : ByteArray) (w : World) (hs : s.size ≤ 200) :
    Calls Tryd.prog 36 #[.string s] w fun e w' => e = .returned (.string ⟨(quoteL (bl s)).toArray⟩) ∧ Below w.heap.size w w' := by
  go_enter Tryd.func36, Tryd.ntmps36
  go_wp2_with fail
  refine (bByteI wtB w.heap.size [] 34 34 rfl _ (wr_fresh _ w) (by simp)).mono ?_
  rintro e w1 ⟨rfl, hw1, hk1⟩
  have HW := Lib.hid hw1; clear hw1
  have HK := Lib.hid hk1; clear hk1
  have hlt1 := HW.out.lt
  go_wp2_with fail
  go_loopw [9] (fun i wr => ∃ k : Nat, k ≤ s.size ∧ i = .int .i64 k ∧ Wr 56 w.heap.size (34 :: escL ((bl s).take k)) wr ∧ Kp w.heap.size w1 wr) (fun i _ => s.size - (intOf i).toNat)
  case atStart => exact ⟨0, by omega, rfl, HW.out, Kp.refl _ _⟩
  case round =>
    obtain ⟨k, hk, rfl, hw, hkp⟩ := hrel
    have hln := esc_len s k hk
    have Hw := Lib.hid hw; clear hw
    have Hk := Lib.hid hkp; clear hkp
    by_cases hlt : k < s.size
    · have hes := Lib.hid (esc_snoc s k hlt)
      by_cases h10 : s[k].toNat = 10
      · have q10 : ((s[k].toNat : Int) == 10) = true := by simp [h10]
        have HE := Lib.hid (esc_10 h10)
        clear h10
        go_wp2_with fail
        refine (bString wtB w.heap.size _ ⟨#[92, 110]⟩ _ Hw.out (by simp [ByteArray.size]; omega)).mono ?_
        rintro e wa ⟨rfl, hwa, hka⟩
        have Hwa := Lib.hid hwa; clear hwa
        have Hka := Lib.hid hka; clear hka
        go_wp2_with fail
        go_roundw
        case rel => exact ⟨k + 1, by omega, by go_num, by rw [hes.out, HE.out]; exact Hwa.out, Hk.out.trans Hka.out⟩
        case measure => simp [intOf]; omega
      · have q10 : ((s[k].toNat : Int) == 10) = false := by simp; omega
        by_cases hq : s[k].toNat = 34 ∨ s[k].toNat = 92
        · have HE := Lib.hid (esc_q h10 hq)
          rcases hq with h34 | h92
          · have q34 : ((s[k].toNat : Int) == 34) = true := by simp [h34]
            clear h34 h10
            go_wp2_with fail
            refine (bByteI wtB w.heap.size _ 92 92 rfl _ Hw.out (by simp; omega)).mono ?_
            rintro e wa ⟨rfl, hwa, hka⟩
            have Hwa := Lib.hid hwa; clear hwa
            have Hka := Lib.hid hka; clear hka
            go_wp2_with fail
            refine (bByteI wtB w.heap.size _ _ s[k] rfl _ Hwa.out (by simp; omega)).mono ?_
            rintro e wb ⟨rfl, hwb, hkb⟩
            have Hwb := Lib.hid hwb; clear hwb
            have Hkb := Lib.hid hkb; clear hkb
            go_wp2_with fail
            go_roundw
            case rel => exact ⟨k + 1, by omega, by go_num, by rw [hes.out, HE.out]; simpa using Hwb.out, (Hk.out.trans Hka.out).trans Hkb.out⟩
            case measure => simp [intOf]; omega
          · have q34 : ((s[k].toNat : Int) == 34) = false := by simp; omega
            have q92 : ((s[k].toNat : Int) == 92) = true := by simp [h92]
            clear h92 h10
            go_wp2_with fail
            refine (bByteI wtB w.heap.size _ 92 92 rfl _ Hw.out (by simp; omega)).mono ?_
            rintro e wa ⟨rfl, hwa, hka⟩
            have Hwa := Lib.hid hwa; clear hwa
            have Hka := Lib.hid hka; clear hka
            go_wp2_with fail
            refine (bByteI wtB w.heap.size _ _ s[k] rfl _ Hwa.out (by simp; omega)).mono ?_
            rintro e wb ⟨rfl, hwb, hkb⟩
            have Hwb := Lib.hid hwb; clear hwb
            have Hkb := Lib.hid hkb; clear hkb
            go_wp2_with fail
            go_roundw
            case rel => exact ⟨k + 1, by omega, by go_num, by rw [hes.out, HE.out]; simpa using Hwb.out, (Hk.out.trans Hka.out).trans Hkb.out⟩
            case measure => simp [intOf]; omega
        · have q34 : ((s[k].toNat : Int) == 34) = false := by simp; omega
          have q92 : ((s[k].toNat : Int) == 92) = false := by simp; omega
          by_cases hp : 32 ≤ s[k].toNat ∧ s[k].toNat ≤ 126
          · have q1 : decide ((s[k].toNat : Int) < 32) = false := decide_eq_false (by omega)
            have q2 : decide (126 < (s[k].toNat : Int)) = false := decide_eq_false (by omega)
            have HE := Lib.hid (esc_p h10 (fun e => hq (.inl e)) (fun e => hq (.inr e)) hp)
            clear hq hp
            go_wp2_with fail
            refine (bByteI wtB w.heap.size _ _ s[k] rfl _ Hw.out (by simp; omega)).mono ?_
            rintro e wb ⟨rfl, hwb, hkb⟩
            have Hwb := Lib.hid hwb; clear hwb
            have Hkb := Lib.hid hkb; clear hkb
            go_wp2_with fail
            go_roundw
            case rel => exact ⟨k + 1, by omega, by go_num, by rw [hes.out, HE.out]; exact Hwb.out, Hk.out.trans Hkb.out⟩
            case measure => simp [intOf]; omega
          · have HE := Lib.hid (esc_x h10 (fun e => hq (.inl e)) (fun e => hq (.inr e)) hp)
            clear hq
            have hcb := s[k].toNat_lt
            go_wp2_with fail
            all_goals
              refine (bString wtB w.heap.size _ ⟨#[92, 120]⟩ _ Hw.out (by simp [ByteArray.size]; omega)).mono ?_
              rintro e wa ⟨rfl, hwa, hka⟩
              have Hwa := Lib.hid hwa; clear hwa
              have Hka := Lib.hid hka; clear hka
              go_wp2_with fail
            all_goals
              refine (bByteI wtB w.heap.size _ _ (hexD (s[k].toNat / 16)) (by exact congrArg (fun c : UInt8 => (c.toNat : Int)) (hexLit _ _)) _ Hwa.out (by simp; omega)).mono ?_
              rintro e wb ⟨rfl, hwb, hkb⟩
              have Hwb := Lib.hid hwb; clear hwb
              have Hkb := Lib.hid hkb; clear hkb
              go_wp2_with fail
              refine (bByteI wtB w.heap.size _ _ (hexD (s[k].toNat % 16)) (by exact congrArg (fun c : UInt8 => (c.toNat : Int)) (hexLit _ _)) _ Hwb.out (by simp; omega)).mono ?_
              rintro e wc ⟨rfl, hwc, hkc⟩
              have Hwc := Lib.hid hwc; clear hwc
              have Hkc := Lib.hid hkc; clear hkc
              go_wp2_with fail
              go_roundw
              case rel => exact ⟨k + 1, by omega, by go_num, by rw [hes.out, HE.out]; exact wr_eq (by simp; rfl) Hwc.out, ((Hk.out.trans Hka.out).trans Hkb.out).trans Hkc.out⟩
              case measure => simp [intOf]; omega
    · obtain rfl : k = s.size := by omega
      have hta := Lib.hid (take_all s)
      go_wp2_with fail
      refine (bByteI wtB w.heap.size _ 34 34 rfl _ Hw.out (by simp; omega)).mono ?_
      rintro e wb ⟨rfl, hwb, hkb⟩
      have Hwb := Lib.hid hwb; clear hwb
      have Hkb := Lib.hid hkb; clear hkb
      go_wp2_with fail
      refine (bText w.heap.size _ _ Hwb.out).mono ?_
      rintro e wc ⟨rfl, hkc⟩
      have Hkc := Lib.hid hkc; clear hkc
      go_wp2_with fail
      go_ret
      refine ⟨ret_str (by rw [hta.out]; exact quote_eq _), ?_⟩
      exact ((Below.refl _ w).alloc (Nat.le_refl _) _).trans (((HK.out.trans Hk.out).trans Hkb.out).trans Hkc.out).below
end Go.Proofs.YtcigdlpljjkplaaDoor
