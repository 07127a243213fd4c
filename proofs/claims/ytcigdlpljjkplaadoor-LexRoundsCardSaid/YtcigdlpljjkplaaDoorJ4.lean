/- The contract of lex.Join at every list of tokens. Conditions: the tables lie as the program lays them; the tokens lie as they are told. -/
import Derived.Test.YtcigdlpljjkplaaDoorJ3
namespace Go.Proofs.YtcigdlpljjkplaaDoor
open Go.RowKit

def JnRel (l : List Tk) (w : World) (i : Value) (wr : World) : Prop := ∃ k : Nat, k ≤ l.length ∧ i = .int .i64 k ∧ okK l k = true ∧ Below w.heap.size w wr
def JnRel2 (l : List Tk) (w : World) (b : Nat) (i : Value) (wr : World) : Prop :=
  ∃ k : Nat, k ≤ l.length ∧ i = .int .i64 k ∧ Below w.heap.size w wr ∧ Wr 56 b (bodyK l k) wr ∧ (bodyK l k).length ≤ 65536
set_option maxHeartbeats 16000000 in
set_option maxRecDepth 100000 in
theorem lJoin (l : List Tk) (p : Option Addr) (c : Nat) (w : World) (hp : TksAt w p l) (hn : l.length ≤ maxLen) (hr : ∀ x ∈ l, TkR x) (hK : KwAt w) (hG : SgAt w) (hP : PwAt w) :
    Calls Tryd.prog 19 #[.slice p l.length c] w fun e w' => e = .returned (joinR l) ∧ Below w.heap.size w w' := by
  unfold maxLen at hn
  have HP := Lib.hid hp; clear hp
  have HR := Lib.hid (fun k (h : k < l.length) => hr l[k] (List.getElem_mem h)); clear hr
  have HK := Lib.hid hK; clear hK
  have HG := Lib.hid hG; clear hG
  have HPW := Lib.hid hP; clear hP
  obtain ⟨J, hJ⟩ : ∃ J, J = joinR l := ⟨_, rfl⟩
  have HJ := Lib.hid hJ
  rw [← hJ]
  clear hJ
  go_enter Tryd.func19, Tryd.ntmps19
  go_wp2_with fail
  go_loopw [15] (fun i wr => JnRel l w i wr) (fun i _ => l.length - (intOf i).toNat)
  case atStart => exact ⟨0, by omega, rfl, rfl, Below.refl _ _⟩
  case round =>
    obtain ⟨k, hk, rfl, hok, hb⟩ := hrel
    have Hok := Lib.hid hok; clear hok
    have Hb := Lib.hid hb; clear hb
    have hszr := Hb.out.size
    by_cases hlt : k < l.length
    · obtain ⟨a, o, ha, c0, c1, c2, c3, rfl⟩ := HP.out.get Hb.out hlt
      have HS := Lib.hid (okK_step hlt)
      have HX := Lib.hid (HR.out k hlt)
      obtain ⟨x, hx⟩ : ∃ x, x = l[k] := ⟨_, rfl⟩
      rw [← hx] at c0 c1 c2 c3 HS HX
      clear hx
      obtain ⟨xk, xt, xn, xp⟩ := x
      simp only at c0 c1 c2 c3
      have hk0 : (0 : Int) ≤ (k : Int) := by omega
      have hki : (k : Int) < (l.length : Int) := by omega
      go_wp2_with fail
      clear c0 c1 c2 c3
      refine (lText ⟨xk, xt, xn, xp⟩ _ HX.out.t_ (HK.out.at (Hb.out.trans ((below_alloc _ _).mono hszr))) (HG.out.at (Hb.out.trans ((below_alloc _ _).mono hszr))) (HPW.out.at (Hb.out.trans ((below_alloc _ _).mono hszr)))).mono ?_
      rintro e w1 ⟨rfl, hb1⟩
      have hx := (hb1.block wr.heap.size (by simp)).trans (heap_alloc_new wr (.cells #[.int .i8 xk, .string xt, .int .i64 xn, .int .i64 xp] 36))
      obtain ⟨x0, x1, x2, x3⟩ := four hx
      have Hb1 := Lib.hid (Hb.out.trans (((below_alloc _ _).trans (hb1.mono (by simp))).mono hszr)); clear hb1 hx
      rcases ho : tkOk ⟨xk, xt, xn, xp⟩ with _ | _
      · rw [txR_no ho]
        have HF := Lib.hid (show okK l (k + 1) = false by rw [HS.out, ho]; simp)
        clear ho
        go_wp2_with fail
        go_ret2
        exact ⟨by rw [HJ.out, joinR_no (okK_mono HF.out l.length (by omega))] <;> rfl, Hb1.out⟩
      · rw [txR_ok ho]
        have HO := Lib.hid ho; clear ho
        obtain ⟨S, hS⟩ : ∃ S : ByteArray, S = ⟨(tkL ⟨xk, xt, xn, xp⟩).toArray⟩ := ⟨_, rfl⟩
        rw [← hS]
        clear hS
        rcases h8 : (xk == 8) with _ | _
        · have HF := Lib.hid (show okK l (k + 1) = true by rw [HS.out, Hok.out, HO.out, h8]; rfl)
          go_wp2_with fail
          exact ⟨⟨k + 1, by omega, by go_num, HF.out, Hb1.out⟩, by simp [intOf]; omega⟩
        · by_cases hl : k + 1 < l.length
          · have q : decide ((k : Int) < (l.length : Int) - 1) = true := decide_eq_true (by omega)
            have HF := Lib.hid (show okK l (k + 1) = false by rw [HS.out, Hok.out, HO.out, h8, decide_eq_false (show ¬ k + 1 = l.length by omega)]; rfl)
            go_wp2_with fail
            go_ret2
            exact ⟨by rw [HJ.out, joinR_no (okK_mono HF.out l.length (by omega))] <;> rfl, Hb1.out⟩
          · have q : decide ((k : Int) < (l.length : Int) - 1) = false := decide_eq_false (by omega)
            have HF := Lib.hid (show okK l (k + 1) = true by rw [HS.out, Hok.out, HO.out, h8, decide_eq_true (show k + 1 = l.length by omega)]; rfl)
            go_wp2_with fail
            exact ⟨⟨k + 1, by omega, by go_num, HF.out, Hb1.out⟩, by simp [intOf]; omega⟩
    · obtain rfl : k = l.length := by omega
      go_wp2_with fail
      go_loopw [41] (fun i wr2 => JnRel2 l w wr.heap.size i wr2) (fun i _ => l.length - (intOf i).toNat)
      case atStart => exact ⟨0, by omega, rfl, Hb.out.trans ((below_alloc _ _).mono hszr), wr_fresh _ wr, by simp [bodyK]⟩
      case round =>
        obtain ⟨k, hk, rfl, hbe, hw, hle⟩ := hrel
        have HBE := Lib.hid hbe; clear hbe
        have hsz2 := HBE.out.size
        have hlt2 := hw.lt
        have HW := Lib.hid hw; clear hw
        have HLE := Lib.hid hle; clear hle
        by_cases hlt : k < l.length
        · obtain ⟨a, o, ha, c0, c1, c2, c3, rfl⟩ := HP.out.get HBE.out hlt
          have HA := Lib.hid (okK_at Hok.out hlt)
          have HX := Lib.hid (HR.out k hlt)
          have HS1 := Lib.hid (fun h => bodyK_step hlt h)
          have HS2 := Lib.hid (fun h => bodyK_end hlt h)
          have HMO := Lib.hid (bodyK_mono l (k + 1) l.length (by omega))
          obtain ⟨x, hx⟩ : ∃ x, x = l[k] := ⟨_, rfl⟩
          rw [← hx] at c0 c1 c2 c3 HA HX HS1 HS2
          clear hx
          obtain ⟨xk, xt, xn, xp⟩ := x
          simp only at c0 c1 c2 c3
          have HO := Lib.hid (txR_ok HA.out.1)
          have HTL := Lib.hid (tkL_le HA.out.1)
          have hk0 : (0 : Int) ≤ (k : Int) := by omega
          have hki : (k : Int) < (l.length : Int) := by omega
          rcases h8 : (xk == 8) with _ | _
          · have HST := Lib.hid (HS1.out h8)
            have H8 := Lib.hid h8
            by_cases hz : k = 0
            · subst hz
              simp only [Nat.zero_mul, Nat.add_zero] at c0 c1 c2 c3
              go_wp2_with fail
              clear c0 c1 c2 c3
              have HWa := Lib.hid (HW.out.alloc (.cells #[.int .i8 xk, .string xt, .int .i64 xn, .int .i64 xp] 36))
              have HKa := Lib.hid (Kp.alloc HW.out (.cells #[.int .i8 xk, .string xt, .int .i64 xn, .int .i64 xp] 36))
              refine (lText ⟨xk, xt, xn, xp⟩ _ HX.out.t_ (HK.out.at (HBE.out.trans (HKa.out.below.mono (by omega)))) (HG.out.at (HBE.out.trans (HKa.out.below.mono (by omega)))) (HPW.out.at (HBE.out.trans (HKa.out.below.mono (by omega))))).mono ?_
              rintro e w2 ⟨rfl, hb2⟩
              have HKb := Lib.hid (HKa.out.trans (Kp.of_below HWa.out.lt hb2))
              have HWb := Lib.hid (HWa.out.up hb2); clear hb2
              rw [HO.out]
              obtain ⟨S, hS⟩ : ∃ S : ByteArray, S = ⟨(tkL ⟨xk, xt, xn, xp⟩).toArray⟩ := ⟨_, rfl⟩
              have HSS := Lib.hid (show bl S = tkL ⟨xk, xt, xn, xp⟩ by rw [hS])
              have hSs : S.size ≤ 802 := by rw [← size_bl, HSS.out]; exact HTL.out
              rw [← hS]
              clear hS
              skip
              go_wp2_with fail
              refine (bString wtB _ _ S _ HWb.out (by have := HLE.out; simp at this ⊢; omega)).mono ?_
              rintro e w3 ⟨rfl, hw3, hk3⟩
              have HW3 := Lib.hid (show Wr 56 _ (bodyK l (0 + 1)) w3 by rw [HST.out, ← HSS.out]; simpa [bodyK] using hw3); clear hw3
              have HK3 := Lib.hid (HKb.out.trans hk3); clear hk3
              go_wp2_with fail
              refine (bLen _ _ _ HW3.out).mono ?_
              rintro e w4 ⟨rfl, hw4⟩
              rw [hw4]
              clear hw4
              by_cases hbig : 65536 < (bodyK l (0 + 1)).length
              · have q : decide (65536 < ((bodyK l (0 + 1)).length : Int)) = true := decide_eq_true (by omega)
                go_wp2_with fail
                go_ret2
                have h7 := HMO.out
                exact ⟨by rw [HJ.out, joinR_long Hok.out (by omega)] <;> rfl, HBE.out.trans (HK3.out.below.mono (by omega))⟩
              · have q : decide (65536 < ((bodyK l (0 + 1)).length : Int)) = false := decide_eq_false (by omega)
                have HBIG := Lib.hid hbig; clear hbig
                go_wp2_with fail
                refine ⟨?_, by simp [intOf]; omega⟩
                have h7 := HBIG.out
                exact ⟨0 + 1, by omega, by go_num, HBE.out.trans (HK3.out.below.mono (by omega)), HW3.out, by omega⟩
            · have hkp : (0 : Int) < (k : Int) := by omega
              have hkq : decide ((0 : Int) < (k : Int)) = true := decide_eq_true hkp
              go_wp2_with fail
              clear c0 c1 c2 c3
              refine (bByteI wtB _ _ 32 32 rfl _ (HW.out.alloc _) (by have := HLE.out; omega)).mono ?_
              rintro e wa ⟨rfl, hwa, hka⟩
              have hx := hka.cell (heap_alloc_new wr (.cells #[.int .i8 xk, .string xt, .int .i64 xn, .int .i64 xp] 36)) (by omega) (by decide)
              obtain ⟨x0, x1, x2, x3⟩ := four hx
              have HWa := Lib.hid hwa; clear hwa hx
              have HKa := Lib.hid ((Kp.alloc HW.out _).trans hka); clear hka
              go_wp2_with fail
              refine (lText ⟨xk, xt, xn, xp⟩ _ HX.out.t_ (HK.out.at (HBE.out.trans (HKa.out.below.mono (by omega)))) (HG.out.at (HBE.out.trans (HKa.out.below.mono (by omega)))) (HPW.out.at (HBE.out.trans (HKa.out.below.mono (by omega))))).mono ?_
              rintro e w2 ⟨rfl, hb2⟩
              have HKb := Lib.hid (HKa.out.trans (Kp.of_below HWa.out.lt hb2))
              have HWb := Lib.hid (HWa.out.up hb2); clear hb2
              rw [HO.out]
              obtain ⟨S, hS⟩ : ∃ S : ByteArray, S = ⟨(tkL ⟨xk, xt, xn, xp⟩).toArray⟩ := ⟨_, rfl⟩
              have HSS := Lib.hid (show bl S = tkL ⟨xk, xt, xn, xp⟩ by rw [hS])
              have hSs : S.size ≤ 802 := by rw [← size_bl, HSS.out]; exact HTL.out
              rw [← hS]
              clear hS
              clear x0 x1 x2 x3
              go_wp2_with fail
              refine (bString wtB _ _ S _ HWb.out (by have := HLE.out; simp at this ⊢; omega)).mono ?_
              rintro e w3 ⟨rfl, hw3, hk3⟩
              have HW3 := Lib.hid (show Wr 56 _ (bodyK l (k + 1)) w3 by rw [HST.out, ← HSS.out]; rw [if_neg hz]; simpa using hw3); clear hw3
              have HK3 := Lib.hid (HKb.out.trans hk3); clear hk3
              go_wp2_with fail
              refine (bLen _ _ _ HW3.out).mono ?_
              rintro e w4 ⟨rfl, hw4⟩
              rw [hw4]
              clear hw4
              by_cases hbig : 65536 < (bodyK l (k + 1)).length
              · have q : decide (65536 < ((bodyK l (k + 1)).length : Int)) = true := decide_eq_true (by omega)
                go_wp2_with fail
                go_ret2
                have h7 := HMO.out
                exact ⟨by rw [HJ.out, joinR_long Hok.out (by omega)] <;> rfl, HBE.out.trans (HK3.out.below.mono (by omega))⟩
              · have q : decide (65536 < ((bodyK l (k + 1)).length : Int)) = false := decide_eq_false (by omega)
                have HBIG := Lib.hid hbig; clear hbig
                go_wp2_with fail
                refine ⟨?_, by simp [intOf]; omega⟩
                have h7 := HBIG.out
                exact ⟨k + 1, by omega, by go_num, HBE.out.trans (HK3.out.below.mono (by omega)), HW3.out, by omega⟩
          · have hkl := HA.out.2 h8
            have HST := Lib.hid (HS2.out h8)
            have HBL := Lib.hid (show bodyK l l.length = bodyK l k by rw [← hkl, HST.out])
            go_wp2_with fail
            clear c0 c1 c2 c3
            refine (bText _ _ _ (HW.out.alloc _)).mono ?_
            rintro e w3 ⟨rfl, hk3⟩
            have HK3 := Lib.hid ((Kp.alloc HW.out _).trans hk3); clear hk3
            go_wp2_with fail
            go_ret2
            have h7 := HLE.out
            exact ⟨by rw [HJ.out, joinR_yes Hok.out (by rw [HBL.out]; omega), HBL.out] <;> rfl, HBE.out.trans (HK3.out.below.mono (by omega))⟩
        · obtain rfl : k = l.length := by omega
          go_wp2_with fail
          refine (bText _ _ _ HW.out).mono ?_
          rintro e w3 ⟨rfl, hk3⟩
          have HK3 := Lib.hid hk3; clear hk3
          go_wp2_with fail
          go_ret2
          have h7 := HLE.out
          exact ⟨by rw [HJ.out, joinR_yes Hok.out (by omega)] <;> rfl, HBE.out.trans (HK3.out.below.mono (by omega))⟩
end Go.Proofs.YtcigdlpljjkplaaDoor
