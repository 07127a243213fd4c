/- The contract of value.quoted. Conditions: the text has at most 200 bytes. -/
import Derived.Test.YtlghiakckkhekaaDoorW6
import Derived.Test.YtlghiakckkhekaaDoorEsc
namespace Go.Proofs.YtlghiakckkhekaaDoor
open Go.RowKit

theorem wr_fresh (T : Nat) (w : World) : Wr T w.heap.size [] (w.alloc (.cells #[.pointer none, .slice none 0 0] T)) :=
  ⟨_, _, .inl rfl, heap_alloc_new w _, ⟨rfl, .inl ⟨rfl, rfl⟩⟩, by simp [Value.ownBlock], fun _ => rfl⟩
theorem bByteI {T : Nat} (hT : Wt T) (b : Nat) (l : List UInt8) (n : Int) (c : UInt8) (hn : n = (c.toNat : Int)) (w : World) (h : Wr T b l w) (hlen : l.length + 1 ≤ 140737488355328) :
    Calls Tryd.prog 130 #[.pointer (some ⟨b, 0, none⟩), .int .u8 n] w fun e w' => e = .returned .nilIface ∧ Wr T b (l ++ [c]) w' ∧ Kp b w w' := by
  rw [hn]; exact bByte hT b l c w h hlen
theorem nb_fresh {T b : Nat} {l : List UInt8} {w : World} (h : Wr T b l w) : NB b w.heap.size w := by
  intro p v T2 fz hq hg
  obtain ⟨p1, v1, _, hb, hown, _⟩ := h
  rw [hb] at hq
  simp at hq
  obtain ⟨⟨_, rfl⟩, _⟩ := hq
  have := (hown.lt _ hg).2
  omega
theorem wr_eq {T b : Nat} {l m : List UInt8} {w : World} (e : l = m) (h : Wr T b l w) : Wr T b m w := e ▸ h
theorem Wr.up {T b : Nat} {l : List UInt8} {w w' : World} (h : Wr T b l w) (hb : Below w.heap.size w w') : Wr T b l w' := by
  have hlt := h.lt
  obtain ⟨p, v, hp, hbk, hown, hne, hnil⟩ := h
  refine ⟨p, v, hp, (hb.block b hlt).trans hbk, ⟨hown.1, ?_⟩, hne, hnil⟩
  rcases hown.2 with h | ⟨g, cap, cur, fz, hv, hg, hh, r⟩
  · exact .inl h
  · exact .inr ⟨g, cap, cur, fz, hv, hg, (hb.block g (Array.getElem?_eq_some_iff.1 hh).1).trans hh, r⟩
theorem NB.up {b c : Nat} {w w' : World} (h : NB b c w) (hlt : b < w.heap.size) (hb : Below w.heap.size w w') : NB b c w' := by
  intro p v T fz hq
  rw [hb.block b hlt] at hq
  exact h p v T fz hq
/-- New memory alone. -/
theorem Kp.of_below {b : Nat} {w w' : World} (hlt : b < w.heap.size) (hb : Below w.heap.size w w') : Kp b w w' :=
  ⟨hb.mono (by omega), fun k o hk _ _ => (hb.block k (Array.getElem?_eq_some_iff.1 hk).1).trans hk, fun c hc _ hn => ⟨hb.block c hc, hn.up hlt hb⟩⟩
set_option maxHeartbeats 2000000 in
set_option maxRecDepth 100000 in
theorem vQuoted (s : ByteArray) (w : World) (hs : s.size ≤ 200) :
    Calls Tryd.prog 100 #[.string s] w fun e w' => e = .returned (.string ⟨(quoteL (bl s)).toArray⟩) ∧ Below w.heap.size w w' := by
  go_enter Tryd.func100, Tryd.ntmps100
  go_wp2_with fail
  refine (bByteI wtB w.heap.size [] 34 34 rfl _ (wr_fresh _ w) (by simp)).mono ?_
  rintro e w1 ⟨rfl, hw1, hk1⟩
  have HW := Lib.hid hw1; clear hw1
  have HK := Lib.hid hk1; clear hk1
  obtain ⟨cap, w2, hconv, hb, hz, hc⟩ := bytes_of (P := Tryd.prog) w1 9 90 5 s Tryd.underlying9 Tryd.underlying90 Tryd.underlying5
  have hlt1 := HW.out.lt
  have HW2 := Lib.hid (HW.out.up (hb.mono (Nat.le_refl _)))
  have HNB := Lib.hid ((nb_fresh HW.out).up hlt1 hb)
  have HK2 := Lib.hid (HK.out.trans (Kp.of_below hlt1 hb))
  have hz2 : w1.heap.size < w2.heap.size := by omega
  clear hb
  have Hz := Lib.hid hz; clear hz
  have Hc := Lib.hid hc; clear hc
  go_wp2_with fail
  clear hconv
  go_loopw [10] (fun i wr => ∃ k : Nat, k ≤ s.size ∧ i = .int .i64 k ∧ Wr 92 w.heap.size (34 :: escL ((bl s).take k)) wr ∧ Kp w.heap.size w2 wr) (fun i _ => s.size - (intOf i).toNat)
  case atStart => exact ⟨0, by omega, rfl, HW2.out, Kp.refl _ _⟩
  case round =>
    obtain ⟨k, hk, rfl, hw, hkp⟩ := hrel
    have hln := esc_len s k hk
    have Hw := Lib.hid hw; clear hw
    have Hk := Lib.hid hkp; clear hkp
    by_cases hlt : k < s.size
    · have hcell : wr.cell? ⟨w1.heap.size, k, none⟩ = some (.int .u8 s[k].toNat) :=
        (World.cell?_of_block (a := ⟨w1.heap.size, k, none⟩) ((Hk.out.kept w1.heap.size hz2 (by omega) HNB.out).1)).trans (Hc.out k hlt)
      have hes := Lib.hid (esc_snoc s k hlt)
      by_cases h10 : s[k].toNat = 10
      · have q10 : ((s[k].toNat : Int) == 10) = true := by simp [h10]
        have HE := Lib.hid (esc_10 h10)
        clear h10
        go_wp2_with fail
        refine (bString wtB w.heap.size _ ⟨#[92, 110]⟩ _ Hw.out (by simp [ByteArray.size]; omega)).mono ?_
        rintro e wa ⟨rfl, hwa, hka⟩
        have Hwa := Lib.hid hwa; clear hwa
        have Hka := Lib.hid hka; clear hka
        go_wp2_with fail
        go_roundw
        case rel => exact ⟨k + 1, by omega, by go_num, by rw [hes.out, HE.out]; exact Hwa.out, Hk.out.trans Hka.out⟩
        case measure => simp [intOf]; omega
      · have q10 : ((s[k].toNat : Int) == 10) = false := by simp; omega
        by_cases hq : s[k].toNat = 34 ∨ s[k].toNat = 92
        · have HE := Lib.hid (esc_q h10 hq)
          rcases hq with h34 | h92
          · have q34 : ((s[k].toNat : Int) == 34) = true := by simp [h34]
            clear h34 h10
            go_wp2_with fail
            refine (bByteI wtB w.heap.size _ 92 92 rfl _ Hw.out (by simp; omega)).mono ?_
            rintro e wa ⟨rfl, hwa, hka⟩
            have Hwa := Lib.hid hwa; clear hwa
            have Hka := Lib.hid hka; clear hka
            go_wp2_with fail
            refine (bByteI wtB w.heap.size _ _ s[k] rfl _ Hwa.out (by simp; omega)).mono ?_
            rintro e wb ⟨rfl, hwb, hkb⟩
            have Hwb := Lib.hid hwb; clear hwb
            have Hkb := Lib.hid hkb; clear hkb
            go_wp2_with fail
            go_roundw
            case rel => exact ⟨k + 1, by omega, by go_num, by rw [hes.out, HE.out]; simpa using Hwb.out, (Hk.out.trans Hka.out).trans Hkb.out⟩
            case measure => simp [intOf]; omega
          · have q34 : ((s[k].toNat : Int) == 34) = false := by simp; omega
            have q92 : ((s[k].toNat : Int) == 92) = true := by simp [h92]
            clear h92 h10
            go_wp2_with fail
            refine (bByteI wtB w.heap.size _ 92 92 rfl _ Hw.out (by simp; omega)).mono ?_
            rintro e wa ⟨rfl, hwa, hka⟩
            have Hwa := Lib.hid hwa; clear hwa
            have Hka := Lib.hid hka; clear hka
            go_wp2_with fail
            refine (bByteI wtB w.heap.size _ _ s[k] rfl _ Hwa.out (by simp; omega)).mono ?_
            rintro e wb ⟨rfl, hwb, hkb⟩
            have Hwb := Lib.hid hwb; clear hwb
            have Hkb := Lib.hid hkb; clear hkb
            go_wp2_with fail
            go_roundw
            case rel => exact ⟨k + 1, by omega, by go_num, by rw [hes.out, HE.out]; simpa using Hwb.out, (Hk.out.trans Hka.out).trans Hkb.out⟩
            case measure => simp [intOf]; omega
        · have q34 : ((s[k].toNat : Int) == 34) = false := by simp; omega
          have q92 : ((s[k].toNat : Int) == 92) = false := by simp; omega
          by_cases hp : 32 ≤ s[k].toNat ∧ s[k].toNat ≤ 126
          · have q1 : decide ((s[k].toNat : Int) < 32) = false := decide_eq_false (by omega)
            have q2 : decide (126 < (s[k].toNat : Int)) = false := decide_eq_false (by omega)
            have HE := Lib.hid (esc_p h10 (fun e => hq (.inl e)) (fun e => hq (.inr e)) hp)
            clear hq hp
            go_wp2_with fail
            refine (bByteI wtB w.heap.size _ _ s[k] rfl _ Hw.out (by simp; omega)).mono ?_
            rintro e wb ⟨rfl, hwb, hkb⟩
            have Hwb := Lib.hid hwb; clear hwb
            have Hkb := Lib.hid hkb; clear hkb
            go_wp2_with fail
            go_roundw
            case rel => exact ⟨k + 1, by omega, by go_num, by rw [hes.out, HE.out]; exact Hwb.out, Hk.out.trans Hkb.out⟩
            case measure => simp [intOf]; omega
          · have HE := Lib.hid (esc_x h10 (fun e => hq (.inl e)) (fun e => hq (.inr e)) hp)
            clear hq
            have hcb := s[k].toNat_lt
            go_wp2_with fail
            all_goals
              refine (bString wtB w.heap.size _ ⟨#[92, 120]⟩ _ Hw.out (by simp [ByteArray.size]; omega)).mono ?_
              rintro e wa ⟨rfl, hwa, hka⟩
              have Hwa := Lib.hid hwa; clear hwa
              have Hka := Lib.hid hka; clear hka
              go_wp2_with fail
            all_goals
              refine (bByteI wtB w.heap.size _ _ (hexD (s[k].toNat / 16)) (by exact congrArg (fun c : UInt8 => (c.toNat : Int)) (hexLit _ _)) _ Hwa.out (by simp; omega)).mono ?_
              rintro e wb ⟨rfl, hwb, hkb⟩
              have Hwb := Lib.hid hwb; clear hwb
              have Hkb := Lib.hid hkb; clear hkb
              go_wp2_with fail
              refine (bByteI wtB w.heap.size _ _ (hexD (s[k].toNat % 16)) (by exact congrArg (fun c : UInt8 => (c.toNat : Int)) (hexLit _ _)) _ Hwb.out (by simp; omega)).mono ?_
              rintro e wc ⟨rfl, hwc, hkc⟩
              have Hwc := Lib.hid hwc; clear hwc
              have Hkc := Lib.hid hkc; clear hkc
              go_wp2_with fail
              go_roundw
              case rel => exact ⟨k + 1, by omega, by go_num, by rw [hes.out, HE.out]; exact wr_eq (by simp; rfl) Hwc.out, ((Hk.out.trans Hka.out).trans Hkb.out).trans Hkc.out⟩
              case measure => simp [intOf]; omega
    · obtain rfl : k = s.size := by omega
      have hta := Lib.hid (take_all s)
      go_wp2_with fail
      refine (bByteI wtB w.heap.size _ 34 34 rfl _ Hw.out (by simp; omega)).mono ?_
      rintro e wb ⟨rfl, hwb, hkb⟩
      have Hwb := Lib.hid hwb; clear hwb
      have Hkb := Lib.hid hkb; clear hkb
      go_wp2_with fail
      refine (bText w.heap.size _ _ Hwb.out).mono ?_
      rintro e wc ⟨rfl, hkc⟩
      have Hkc := Lib.hid hkc; clear hkc
      go_wp2_with fail
      go_ret
      refine ⟨ret_str (by rw [hta.out]; exact quote_eq _), ?_⟩
      exact ((Below.refl _ w).alloc (Nat.le_refl _) _).trans (((HK2.out.trans Hk.out).trans Hkb.out).trans Hkc.out).below
end Go.Proofs.YtlghiakckkhekaaDoor
