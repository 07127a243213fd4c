/- The text of the document's first example's tokens; what the statements ask first. Conditions: the tables lie as the program lays them. -/
import Derived.Test.YtcigdlpljjkplaaDoorL5
import Derived.Test.YtcigdlpljjkplaaDoorL6
namespace Go.Proofs.YtcigdlpljjkplaaDoor
open Go.RowKit

theorem bLen (b : Nat) (l : List UInt8) (w : World) (h : Wr 56 b l w) :
    Calls Tryd.prog 42 #[.pointer (some ⟨b, 0, none⟩)] w fun e w' => e = .returned (.int .i64 l.length) ∧ w' = w := by
  obtain ⟨p, v, hp, hbk, hown, hne, hnil⟩ := h
  obtain ⟨q, c, rfl⟩ := own_slice4 hown
  obtain ⟨x0, x1⟩ := two hbk
  clear hbk hown hne hnil hp
  go_enter Tryd.func42, Tryd.ntmps42
  go_wp2_with fail
  go_ret
  exact ⟨rfl, rfl⟩
/-- The four tokens lie in block a. -/
def Four (w : World) (a : Nat) : Prop := w.cell? ⟨a, 0, none⟩ = some (.int .i8 1) ∧ w.cell? ⟨a, 1, none⟩ = some (.string ⟨#[110]⟩) ∧ w.cell? ⟨a, 2, none⟩ = some (.int .i64 0) ∧ w.cell? ⟨a, 3, none⟩ = some (.int .i64 0) ∧ w.cell? ⟨a, 4, none⟩ = some (.int .i8 7) ∧ w.cell? ⟨a, 5, none⟩ = some (.string ⟨#[60, 61]⟩) ∧ w.cell? ⟨a, 6, none⟩ = some (.int .i64 0) ∧ w.cell? ⟨a, 7, none⟩ = some (.int .i64 1) ∧ w.cell? ⟨a, 8, none⟩ = some (.int .i8 4) ∧ w.cell? ⟨a, 9, none⟩ = some (.string ⟨#[]⟩) ∧ w.cell? ⟨a, 10, none⟩ = some (.int .i64 7) ∧ w.cell? ⟨a, 11, none⟩ = some (.int .i64 3) ∧ w.cell? ⟨a, 12, none⟩ = some (.int .i8 8) ∧ w.cell? ⟨a, 13, none⟩ = some (.string ⟨#[]⟩) ∧ w.cell? ⟨a, 14, none⟩ = some (.int .i64 0) ∧ w.cell? ⟨a, 15, none⟩ = some (.int .i64 10)
theorem Four.up {w w' : World} {B a : Nat} (h : Four w a) (hb : Below B w w') (ha : a < B) : Four w' a := by
  obtain ⟨c0, c1, c2, c3, c4, c5, c6, c7, c8, c9, c10, c11, c12, c13, c14, c15⟩ := h
  exact ⟨(hb.cell (p := ⟨a, 0, none⟩) ha).trans c0, (hb.cell (p := ⟨a, 1, none⟩) ha).trans c1, (hb.cell (p := ⟨a, 2, none⟩) ha).trans c2, (hb.cell (p := ⟨a, 3, none⟩) ha).trans c3, (hb.cell (p := ⟨a, 4, none⟩) ha).trans c4, (hb.cell (p := ⟨a, 5, none⟩) ha).trans c5, (hb.cell (p := ⟨a, 6, none⟩) ha).trans c6, (hb.cell (p := ⟨a, 7, none⟩) ha).trans c7, (hb.cell (p := ⟨a, 8, none⟩) ha).trans c8, (hb.cell (p := ⟨a, 9, none⟩) ha).trans c9, (hb.cell (p := ⟨a, 10, none⟩) ha).trans c10, (hb.cell (p := ⟨a, 11, none⟩) ha).trans c11, (hb.cell (p := ⟨a, 12, none⟩) ha).trans c12, (hb.cell (p := ⟨a, 13, none⟩) ha).trans c13, (hb.cell (p := ⟨a, 14, none⟩) ha).trans c14, (hb.cell (p := ⟨a, 15, none⟩) ha).trans c15⟩
def JRel (w : World) (i : Value) (wr : World) : Prop := ∃ k : Nat, k ≤ 4 ∧ i = .int .i64 k ∧ Below w.heap.size w wr
def JRel2 (w w1 : World) (i : Value) (wr : World) : Prop :=
  Below w.heap.size w wr ∧ ((i = .int .i64 0 ∧ Wr 56 w1.heap.size [] wr) ∨ (i = .int .i64 1 ∧ Wr 56 w1.heap.size [110] wr) ∨ (i = .int .i64 2 ∧ Wr 56 w1.heap.size [110, 32, 60, 61] wr) ∨ (i = .int .i64 3 ∧ Wr 56 w1.heap.size [110, 32, 60, 61, 32, 55] wr))
set_option maxHeartbeats 16000000 in
set_option maxRecDepth 100000 in
theorem lvJoin (a cap : Nat) (w : World) (ha : a < w.heap.size) (hc : Four w a) (hK : KwAt w) (hG : SgAt w) :
    Calls Tryd.prog 19 #[.slice (some ⟨a, 0, none⟩) 4 cap] w fun e w' => e = .returned (.tuple #[.string ⟨#[110, 32, 60, 61, 32, 55]⟩, .int .i64 0]) ∧ Below w.heap.size w w' := by
  have HC := Lib.hid hc; clear hc
  have HK := Lib.hid hK; clear hK
  have HG := Lib.hid hG; clear hG
  go_enter Tryd.func19, Tryd.ntmps19
  go_wp2_with fail
  go_loopw [15] (fun i wr => JRel w i wr) (fun i _ => 4 - (intOf i).toNat)
  case atStart => exact ⟨0, by omega, rfl, Below.refl _ _⟩
  case round =>
    obtain ⟨k, hk, rfl, hb⟩ := hrel
    have Hb := Lib.hid hb; clear hb
    have hszr := Hb.out.size
    obtain ⟨c0, c1, c2, c3, c4, c5, c6, c7, c8, c9, c10, c11, c12, c13, c14, c15⟩ := HC.out.up Hb.out ha
    rcases (show k = 0 ∨ k = 1 ∨ k = 2 ∨ k = 3 ∨ k = 4 by omega) with rfl | rfl | rfl | rfl | rfl
    · go_wp2_with fail
      refine (lText1 ⟨#[110]⟩ 0 _ (by unfold maxLen; decide) (HK.out.at (Hb.out.trans ((below_alloc _ _).mono hszr))) (HG.out.at (Hb.out.trans ((below_alloc _ _).mono hszr))) (by decide)).mono ?_
      rintro e w1 ⟨rfl, hb1⟩
      have hx := (hb1.block wr.heap.size (by simp)).trans (heap_alloc_new wr (.cells #[.int .i8 1, .string ⟨#[110]⟩, .int .i64 0, .int .i64 0] 36))
      obtain ⟨x0, x1, x2, x3⟩ := four hx
      have Hb1 := Lib.hid (Hb.out.trans (((below_alloc _ _).trans (hb1.mono (by simp))).mono hszr)); clear hb1 hx c0 c1 c2 c3 c4 c5 c6 c7 c8 c9 c10 c11 c12 c13 c14 c15
      go_wp2_with fail
      exact ⟨⟨1, by omega, rfl, Hb1.out⟩, by simp [intOf]⟩
    · go_wp2_with fail
      refine (lText7 ⟨#[60, 61]⟩ 1 _ (by unfold maxLen; decide) (HK.out.at (Hb.out.trans ((below_alloc _ _).mono hszr))) (HG.out.at (Hb.out.trans ((below_alloc _ _).mono hszr))) (by decide)).mono ?_
      rintro e w1 ⟨rfl, hb1⟩
      have hx := (hb1.block wr.heap.size (by simp)).trans (heap_alloc_new wr (.cells #[.int .i8 7, .string ⟨#[60, 61]⟩, .int .i64 0, .int .i64 1] 36))
      obtain ⟨x0, x1, x2, x3⟩ := four hx
      have Hb1 := Lib.hid (Hb.out.trans (((below_alloc _ _).trans (hb1.mono (by simp))).mono hszr)); clear hb1 hx c0 c1 c2 c3 c4 c5 c6 c7 c8 c9 c10 c11 c12 c13 c14 c15
      go_wp2_with fail
      exact ⟨⟨2, by omega, rfl, Hb1.out⟩, by simp [intOf]⟩
    · go_wp2_with fail
      refine (lText4 3 _).mono ?_
      rintro e w1 ⟨rfl, hb1⟩
      have hx := (hb1.block wr.heap.size (by simp)).trans (heap_alloc_new wr (.cells #[.int .i8 4, .string ⟨#[]⟩, .int .i64 7, .int .i64 3] 36))
      obtain ⟨x0, x1, x2, x3⟩ := four hx
      have Hb1 := Lib.hid (Hb.out.trans (((below_alloc _ _).trans (hb1.mono (by simp))).mono hszr)); clear hb1 hx c0 c1 c2 c3 c4 c5 c6 c7 c8 c9 c10 c11 c12 c13 c14 c15
      go_wp2_with fail
      exact ⟨⟨3, by omega, rfl, Hb1.out⟩, by simp [intOf]⟩
    · go_wp2_with fail
      refine (lText8 10 _).mono ?_
      rintro e w1 ⟨rfl, hb1⟩
      have hx := (hb1.block wr.heap.size (by simp)).trans (heap_alloc_new wr (.cells #[.int .i8 8, .string ⟨#[]⟩, .int .i64 0, .int .i64 10] 36))
      obtain ⟨x0, x1, x2, x3⟩ := four hx
      have Hb1 := Lib.hid (Hb.out.trans (((below_alloc _ _).trans (hb1.mono (by simp))).mono hszr)); clear hb1 hx c0 c1 c2 c3 c4 c5 c6 c7 c8 c9 c10 c11 c12 c13 c14 c15
      go_wp2_with fail
      exact ⟨⟨4, by omega, rfl, Hb1.out⟩, by simp [intOf]⟩
    · clear c0 c1 c2 c3 c4 c5 c6 c7 c8 c9 c10 c11 c12 c13 c14 c15
      go_wp2_with fail
      go_loopw [41] (fun i wr2 => JRel2 w wr i wr2) (fun i _ => 4 - (intOf i).toNat)
      case atStart => exact ⟨Hb.out.trans ((below_alloc _ _).mono hszr), .inl ⟨rfl, wr_fresh _ wr⟩⟩
      case round =>
        obtain ⟨hbe, hst⟩ := hrel
        have HBE := Lib.hid hbe; clear hbe
        have hsz2 := HBE.out.size
        obtain ⟨c0, c1, c2, c3, c4, c5, c6, c7, c8, c9, c10, c11, c12, c13, c14, c15⟩ := HC.out.up HBE.out ha
        rcases hst with ⟨rfl, hw⟩ | ⟨rfl, hw⟩ | ⟨rfl, hw⟩ | ⟨rfl, hw⟩
        all_goals
          have hlt := hw.lt
          have HW := Lib.hid hw; clear hw
        · go_wp2_with fail
          refine (lText1 ⟨#[110]⟩ 0 _ (by unfold maxLen; decide) (HK.out.at (HBE.out.trans ((below_alloc _ _).mono hsz2))) (HG.out.at (HBE.out.trans ((below_alloc _ _).mono hsz2))) (by decide)).mono ?_
          rintro e w2 ⟨rfl, hb2⟩
          have HKb := Lib.hid ((Kp.alloc HW.out _).trans (Kp.of_below (HW.out.alloc _).lt hb2))
          have HWb := Lib.hid ((HW.out.alloc _).up hb2); clear hb2
          clear c0 c1 c2 c3 c4 c5 c6 c7 c8 c9 c10 c11 c12 c13 c14 c15
          go_wp2_with fail
          refine (bString wtB _ _ ⟨#[110]⟩ _ HWb.out (by decide)).mono ?_
          rintro e w3 ⟨rfl, hw3, hk3⟩
          have HW3 := Lib.hid hw3; clear hw3
          have HK3 := Lib.hid (HKb.out.trans hk3); clear hk3
          go_wp2_with fail
          refine (bLen _ _ _ HW3.out).mono ?_
          rintro e w4 ⟨rfl, hw4⟩
          rw [hw4]
          clear hw4
          go_wp2_with fail
          refine ⟨?_, by simp [intOf]⟩
          repeat (apply Exists.intro)
          exact ⟨⟨HBE.out.trans (HK3.out.below.mono (by omega)), .inr (.inl ⟨rfl, HW3.out⟩)⟩, rfl⟩
        · go_wp2_with fail
          refine (bByteI wtB _ _ 32 32 rfl _ (HW.out.alloc _) (by decide)).mono ?_
          rintro e wa ⟨rfl, hwa, hka⟩
          have hx := hka.cell (heap_alloc_new wr (.cells #[.int .i8 7, .string ⟨#[60, 61]⟩, .int .i64 0, .int .i64 1] 36)) (by omega) (by decide)
          obtain ⟨x0, x1, x2, x3⟩ := four hx
          have HX := Lib.hid hx; clear hx
          have HWa := Lib.hid hwa; clear hwa
          have HKa := Lib.hid ((Kp.alloc HW.out _).trans hka); clear hka
          go_wp2_with fail
          refine (lText7 ⟨#[60, 61]⟩ 1 _ (by unfold maxLen; decide) (HK.out.at (HBE.out.trans (HKa.out.below.mono (by omega)))) (HG.out.at (HBE.out.trans (HKa.out.below.mono (by omega)))) (by decide)).mono ?_
          rintro e w2 ⟨rfl, hb2⟩
          have HKb := Lib.hid (HKa.out.trans (Kp.of_below HWa.out.lt hb2))
          have HWb := Lib.hid (HWa.out.up hb2); clear hb2 x0 x1 x2 x3
          clear c0 c1 c2 c3 c4 c5 c6 c7 c8 c9 c10 c11 c12 c13 c14 c15
          go_wp2_with fail
          refine (bString wtB _ _ ⟨#[60, 61]⟩ _ HWb.out (by decide)).mono ?_
          rintro e w3 ⟨rfl, hw3, hk3⟩
          have HW3 := Lib.hid hw3; clear hw3
          have HK3 := Lib.hid (HKb.out.trans hk3); clear hk3
          go_wp2_with fail
          refine (bLen _ _ _ HW3.out).mono ?_
          rintro e w4 ⟨rfl, hw4⟩
          rw [hw4]
          clear hw4
          go_wp2_with fail
          refine ⟨?_, by simp [intOf]⟩
          repeat (apply Exists.intro)
          exact ⟨⟨HBE.out.trans (HK3.out.below.mono (by omega)), .inr (.inr (.inl ⟨rfl, HW3.out⟩))⟩, rfl⟩
        · go_wp2_with fail
          refine (bByteI wtB _ _ 32 32 rfl _ (HW.out.alloc _) (by decide)).mono ?_
          rintro e wa ⟨rfl, hwa, hka⟩
          have hx := hka.cell (heap_alloc_new wr (.cells #[.int .i8 4, .string ⟨#[]⟩, .int .i64 7, .int .i64 3] 36)) (by omega) (by decide)
          obtain ⟨x0, x1, x2, x3⟩ := four hx
          have HX := Lib.hid hx; clear hx
          have HWa := Lib.hid hwa; clear hwa
          have HKa := Lib.hid ((Kp.alloc HW.out _).trans hka); clear hka
          go_wp2_with fail
          refine (lText4 3 _).mono ?_
          rintro e w2 ⟨rfl, hb2⟩
          have HKb := Lib.hid (HKa.out.trans (Kp.of_below HWa.out.lt hb2))
          have HWb := Lib.hid (HWa.out.up hb2); clear hb2 x0 x1 x2 x3
          clear c0 c1 c2 c3 c4 c5 c6 c7 c8 c9 c10 c11 c12 c13 c14 c15
          go_wp2_with fail
          refine (bString wtB _ _ ⟨#[55]⟩ _ HWb.out (by decide)).mono ?_
          rintro e w3 ⟨rfl, hw3, hk3⟩
          have HW3 := Lib.hid hw3; clear hw3
          have HK3 := Lib.hid (HKb.out.trans hk3); clear hk3
          go_wp2_with fail
          refine (bLen _ _ _ HW3.out).mono ?_
          rintro e w4 ⟨rfl, hw4⟩
          rw [hw4]
          clear hw4
          go_wp2_with fail
          refine ⟨?_, by simp [intOf]⟩
          repeat (apply Exists.intro)
          exact ⟨⟨HBE.out.trans (HK3.out.below.mono (by omega)), .inr (.inr (.inr ⟨rfl, HW3.out⟩))⟩, rfl⟩
        · go_wp2_with fail
          refine (bText _ _ _ (HW.out.alloc _)).mono ?_
          rintro e w3 ⟨rfl, hk3⟩
          have HK3 := Lib.hid ((Kp.alloc HW.out _).trans hk3); clear hk3
          go_wp2_with fail
          go_ret2
          exact ⟨rfl, HBE.out.trans (HK3.out.below.mono (by omega))⟩
end Go.Proofs.YtcigdlpljjkplaaDoor
