/- The reference's RuleVars, argument, rule, CheckRule. Conditions: the rule lies in memory as it is told. -/
import Derived.Test.YtdgbenadoaecoaaGreatDoorS13
namespace Go.Proofs.YtdgbenadoaecoaaGreatDoor
open Go.RowKit

set_option maxHeartbeats 4000000 in
theorem rRuleVars (d : Nat) (p : ByteArray) (hp : Option Addr) (hc : Nat) (hs : List Ag) (bp : Option Addr) (bc : Nat) (bs : List (Lt d)) (w : World)
    (hh : AgsAt w hp hs) (hb : LtsAt w d bp bs) (hr : RuR p hs bs) (hn : (ruTms hs bs).length ≤ 10000) :
    Calls Tryz.prog 68 #[.agg #[.string p, .slice hp hs.length hc, .slice bp bs.length bc]] w (RvPost (varsL (ruTms hs bs)).length w) := by
  obtain ⟨W, hW⟩ : ∃ W, W = w.alloc (.cells #[.string p, .slice hp hs.length hc, .slice bp bs.length bc] 25) := ⟨_, rfl⟩
  have HBW := Lib.hid (show Below w.heap.size w W by rw [hW]; exact below_alloc _ _)
  have hsW : W.heap.size = w.heap.size + 1 := by rw [hW]; simp
  have HCALL := Lib.hid (rRuleTerms d p hp hc hs bp bc bs W (hh.up HBW.out) (hb.up HBW.out) hr hn)
  clear hh hb hr
  have HN := Lib.hid hn; clear hn
  obtain ⟨R, hR⟩ : ∃ R, R = ruTms hs bs := ⟨_, rfl⟩
  rw [← hR] at HCALL HN ⊢
  clear hR
  go_enter Tryz.func68, Tryz.ntmps68
  go_wp2_with fail
  rw [← hW]
  clear hW
  refine HCALL.out.mono ?_
  rintro e w1 ⟨pt, ct, rfl, hts⟩
  have HT := Lib.hid hts; clear hts
  go_wp2_with fail
  refine (rVars R pt ct _ (row_sl HT.out.row HN.out) HN.out).mono ?_
  rintro e w2 ⟨ps, cs, rfl, hb⟩
  have HB := Lib.hid hb; clear hb
  go_wp2_with fail
  go_ret
  exact ⟨ps, cs, rfl, HBW.out.trans ((HT.out.below.trans (HB.out.mono HT.out.below.size)).mono (by omega))⟩
set_option maxHeartbeats 4000000 in
set_option maxRecDepth 100000 in
theorem rArg (x : Ag) (w : World) (hv : x.t.v.size ≤ maxLen) :
    Calls Tryz.prog 66 #[.agg #[.int .i8 x.g, .string x.t.v, .int .i8 x.t.x.k, .int .i64 x.t.x.n, .string x.t.x.t]] w fun e w' => e = .returned (.bool (agOk x)) ∧ Below w.heap.size w w' := by
  obtain ⟨g, ⟨v, ⟨k, n, t⟩⟩⟩ := x
  simp only at hv ⊢
  have HVS := Lib.hid hv; clear hv
  have hbb : ∀ (O O2 : Obj), Below w.heap.size w ((w.alloc O).alloc O2) := fun O O2 => (below_alloc w O).alloc (by simp) O2
  have HBB := Lib.hid hbb; clear hbb
  by_cases h0 : g = 0
  · subst h0
    by_cases h95 : v.toList = [95]
    · have q95 : (v.toList == [95]) = true := by simp [h95]
      have HE := Lib.hid (show agOk ⟨0, ⟨v, ⟨k, n, t⟩⟩⟩ = false by unfold agOk; rw [if_pos rfl]; simp [solidB, bl, ← ByteArray.toList_eq, h95])
      clear h95
      go_enter Tryz.func66, Tryz.ntmps66
      go_wp2_with fail
      go_ret
      exact ⟨ret_bool HE.out.symm, HBB.out _ _⟩
    · have q95 : (v.toList == [95]) = false := by simpa using h95
      have HE := Lib.hid (show agOk ⟨0, ⟨v, ⟨k, n, t⟩⟩⟩ = tmOk ⟨v, ⟨k, n, t⟩⟩ by unfold agOk; rw [if_pos rfl]; simp [solidB, bl, ← ByteArray.toList_eq, h95])
      clear h95
      go_enter Tryz.func66, Tryz.ntmps66
      go_wp2_with fail
      refine (rterm v k n t _ HVS.out).mono ?_
      rintro e w1 ⟨rfl, hb⟩
      have Hb := Lib.hid hb; clear hb
      go_wp2_with fail
      go_ret
      exact ⟨ret_bool HE.out.symm, (HBB.out _ _).trans (Hb.out.mono (by simp; omega))⟩
  · by_cases h1 : g = 1
    · subst h1
      have HE := Lib.hid (show agOk ⟨1, ⟨v, ⟨k, n, t⟩⟩⟩ = tmZero ⟨v, ⟨k, n, t⟩⟩ from rfl)
      have hq := fun w => tm_eq0 v k n t w
      clear h0
      go_enter Tryz.func66, Tryz.ntmps66
      go_wp2_with fail
      go_ret
      exact ⟨ret_bool HE.out.symm, HBB.out _ _⟩
    · by_cases h24 : 2 ≤ g ∧ g ≤ 4
      · have HE := Lib.hid (show agOk ⟨g, ⟨v, ⟨k, n, t⟩⟩⟩ = (!(bl v).isEmpty && solidB ⟨v, ⟨k, n, t⟩⟩) by unfold agOk; rw [if_neg h0, if_neg h1, if_pos h24])
        clear h0 h1
        rcases (show g = 2 ∨ g = 3 ∨ g = 4 by omega) with rfl | rfl | rfl
        all_goals
          by_cases hve : v.toList.isEmpty = true
          · have HE2 := Lib.hid (show agOk ⟨_, ⟨v, ⟨k, n, t⟩⟩⟩ = false by rw [HE.out, bl, ← ByteArray.toList_eq, hve]; rfl)
            go_enter Tryz.func66, Tryz.ntmps66
            go_wp2_with fail
            go_ret
            exact ⟨ret_bool HE2.out.symm, HBB.out _ _⟩
          · have hve' : v.toList.isEmpty = false := by simpa using hve
            have HE1 := Lib.hid (show agOk ⟨_, ⟨v, ⟨k, n, t⟩⟩⟩ = solidB ⟨v, ⟨k, n, t⟩⟩ by rw [HE.out, bl, ← ByteArray.toList_eq, hve']; rfl)
            clear hve
            by_cases h95 : v.toList = [95]
            · have q95 : (v.toList == [95]) = true := by simp [h95]
              have HE2 := Lib.hid (show agOk ⟨_, ⟨v, ⟨k, n, t⟩⟩⟩ = false by rw [HE1.out]; simp [solidB, bl, ← ByteArray.toList_eq, h95])
              clear h95
              go_enter Tryz.func66, Tryz.ntmps66
              go_wp2_with fail
              go_ret
              exact ⟨ret_bool HE2.out.symm, HBB.out _ _⟩
            · have q95 : (v.toList == [95]) = false := by simpa using h95
              have HE2 := Lib.hid (show agOk ⟨_, ⟨v, ⟨k, n, t⟩⟩⟩ = tmOk ⟨v, ⟨k, n, t⟩⟩ by rw [HE1.out]; simp [solidB, bl, ← ByteArray.toList_eq, h95])
              clear h95
              go_enter Tryz.func66, Tryz.ntmps66
              go_wp2_with fail
              refine (rterm v k n t _ HVS.out).mono ?_
              rintro e w1 ⟨rfl, hb⟩
              have Hb := Lib.hid hb; clear hb
              go_wp2_with fail
              go_ret
              exact ⟨ret_bool HE2.out.symm, (HBB.out _ _).trans (Hb.out.mono (by simp; omega))⟩
      · have HE := Lib.hid (show agOk ⟨g, ⟨v, ⟨k, n, t⟩⟩⟩ = false by unfold agOk; rw [if_neg h0, if_neg h1, if_neg h24])
        have q0 : (g == 0) = false := beq_eq_false_iff_ne.2 h0
        have q1 : (g == 1) = false := beq_eq_false_iff_ne.2 h1
        have q2 : (g == 2) = false := beq_eq_false_iff_ne.2 (by omega)
        have q3 : (g == 3) = false := beq_eq_false_iff_ne.2 (by omega)
        have q4 : (g == 4) = false := beq_eq_false_iff_ne.2 (by omega)
        clear h0 h1 h24
        go_enter Tryz.func66, Tryz.ntmps66
        go_wp2_with fail
        go_ret
        exact ⟨ret_bool HE.out.symm, HBB.out _ _⟩
set_option maxHeartbeats 16000000 in
set_option maxRecDepth 100000 in
theorem rRule (d : Nat) (p : ByteArray) (hp : Option Addr) (hc : Nat) (hs : List Ag) (bp : Option Addr) (bc : Nat) (bs : List (Lt d)) (w : World) (hh : AgsAt w hp hs) (hb : LtsAt w d bp bs) (hr : RuR p hs bs) :
    Calls Tryz.prog 37 #[.agg #[.string p, .slice hp hs.length hc, .slice bp bs.length bc]] w fun e w' => e = .returned (.bool (ruOk p hs bs)) ∧ Below w.heap.size w w' := by
  obtain ⟨W, hW⟩ : ∃ W, W = w.alloc (.cells #[.string p, .slice hp hs.length hc, .slice bp bs.length bc] 25) := ⟨_, rfl⟩
  have HBW := Lib.hid (show Below w.heap.size w W by rw [hW]; exact below_alloc _ _)
  have hsW : W.heap.size = w.heap.size + 1 := by rw [hW]; simp
  have HBX := Lib.hid (show W.heap[w.heap.size]? = some (.cells #[.string p, .slice hp hs.length hc, .slice bp bs.length bc] 25 (0, 0)) by rw [hW]; exact heap_alloc_new w _)
  have hbk : w.heap.size < W.heap.size := by omega
  have HH := Lib.hid (hh.up HBW.out); clear hh
  have HB := Lib.hid (hb.up HBW.out); clear hb
  have HR := Lib.hid hr
  have hm1 := hr.hl
  have hm2 := hr.bl
  unfold maxLen at hm1 hm2
  clear hr
  obtain ⟨R, hR⟩ : ∃ R, R = ruOk p hs bs := ⟨_, rfl⟩
  have HRK := Lib.hid hR
  rw [← hR]
  clear hR
  obtain ⟨x0, x1, x2⟩ := three HBX.out
  go_enter Tryz.func37, Tryz.ntmps37
  go_wp2_with fail
  rw [← hW]
  clear hW
  refine (rName p _ HR.out.p_).mono ?_
  rintro e w1 ⟨rfl, rfl⟩
  rcases hnb : nameB (bl p) with _ | _
  · have HE := Lib.hid (show R = false by rw [HRK.out, ruOk, hnb]; rfl)
    clear hnb
    go_wp2_with fail
    go_ret
    exact ⟨by rw [HE.out]; rfl, HBW.out⟩
  · have HNB := Lib.hid hnb; clear hnb
    by_cases h24 : hs.length ≤ 24
    · by_cases h16 : bs.length ≤ 16
      · have HRK2 := Lib.hid (show R = (hs.all agOk && bs.all ltOk && decide ((varsL (ruTms hs bs)).length ≤ 24)) by rw [HRK.out, ruOk, HNB.out, decide_eq_true h24, decide_eq_true h16]; rfl)
        go_wp2_with fail
        go_loopw [3] (fun i wr => ∃ k : Nat, k ≤ hs.length ∧ i = .int .i64 k ∧ (hs.take k).all agOk = true ∧ Below W.heap.size W wr) (fun i _ => hs.length - (intOf i).toNat)
        case atStart => exact ⟨0, by omega, rfl, rfl, Below.refl _ _⟩
        case round =>
          clear x0 x1 x2
          rename World => wr1
          obtain ⟨k, hk, rfl, hal, hb⟩ := hrel
          have HAL := Lib.hid hal; clear hal
          have Hb := Lib.hid hb; clear hb
          have hsz := Hb.out.size
          obtain ⟨x0, x1, x2⟩ := three ((Hb.out.block w.heap.size hbk).trans HBX.out)
          by_cases hlt : k < hs.length
          · rcases HH.out with h0 | ⟨a2, o2, rfl, ha2, hck⟩
            · omega
            · obtain ⟨c0, hct⟩ := hck k hlt
              replace c0 := (Hb.out.cell (p := ⟨a2, o2 + k * 5, none⟩) ha2).trans c0
              obtain ⟨c1, c2, c3, c4⟩ := hct.up Hb.out ha2
              clear hck hct
              have HST := Lib.hid (takeAll agOk hs k hlt)
              have HNO := Lib.hid (fun h => allNo (f := agOk) hlt h)
              have HVS := Lib.hid ((HR.out.h_ hs[k] (List.getElem_mem hlt)).2.v0)
              obtain ⟨x, hx⟩ : ∃ x, x = hs[k] := ⟨_, rfl⟩
              rw [← hx] at c0 c1 c2 c3 c4 HST HNO HVS
              clear hx
              have hk0 : (0 : Int) ≤ (k : Int) := by omega
              have hki : (k : Int) < (hs.length : Int) := by omega
              go_wp2_with fail
              refine (rArg x _ HVS.out).mono ?_
              rintro e w2 ⟨rfl, hb⟩
              have Hb2 := Lib.hid (Hb.out.trans (hb.mono hsz)); clear hb
              rcases hag : agOk x with _ | _
              · have HE := Lib.hid (show R = false by rw [HRK2.out, HNO.out hag]; rfl)
                clear hag c0 c1 c2 c3 c4 x0 x1 x2
                go_wp2_with fail
                go_ret
                exact ⟨by rw [HE.out]; rfl, HBW.out.trans (Hb2.out.mono (by omega))⟩
              · have HAL2 := Lib.hid (show (hs.take (k + 1)).all agOk = true by rw [HST.out, HAL.out, hag]; rfl)
                clear hag c0 c1 c2 c3 c4 x0 x1 x2
                go_wp2_with fail
                go_roundw
                case rel => exact ⟨k + 1, by omega, by go_num, HAL2.out, Hb2.out⟩
                case measure => simp [intOf]; omega
          · obtain rfl : k = hs.length := by omega
            have HHA := Lib.hid (show hs.all agOk = true by have h9 := HAL.out; rwa [List.take_of_length_le (Nat.le_refl _)] at h9)
            go_wp2_with fail
            clear x0 x1 x2
            go_loopw [4] (fun i wr => ∃ k : Nat, k ≤ bs.length ∧ i = .int .i64 k ∧ (bs.take k).all ltOk = true ∧ Below W.heap.size W wr) (fun i _ => bs.length - (intOf i).toNat)
            case atStart => exact ⟨0, by omega, rfl, rfl, Hb.out⟩
            case round =>
              rename World => wr2
              obtain ⟨k, hk, rfl, hal, hb⟩ := hrel
              have HBL := Lib.hid hal; clear hal
              have Hc := Lib.hid hb; clear hb
              have hsz2 := Hc.out.size
              obtain ⟨x0, x1, x2⟩ := three ((Hc.out.block w.heap.size hbk).trans HBX.out)
              by_cases hlt : k < bs.length
              · rcases HB.out.1 with h0 | ⟨a2, o2, rfl, ha2, hcs⟩
                · omega
                have hck := (hcs k hlt).up Hc.out ha2
                clear hcs
                have HXj := Lib.hid ((HB.out.2 bs[k] (List.getElem_mem hlt)).up Hc.out)
                have HRj := Lib.hid (HR.out.b_ bs[k] (List.getElem_mem hlt))
                have HST := Lib.hid (takeAll ltOk bs k hlt)
                have HNO := Lib.hid (fun h => allNo (f := ltOk) hlt h)
                obtain ⟨x, hx⟩ : ∃ x, x = bs[k] := ⟨_, rfl⟩
                rw [← hx] at hck HXj HRj HST HNO
                clear hx
                obtain ⟨q, qc, hsv, _, _⟩ := HXj.out.at_
                obtain ⟨pl, cl, hsl⟩ := ex_sl2 HXj.out.l_
                obtain ⟨pg, cg, hsg⟩ := ex_sl2 HXj.out.g_
                have hcall := fun w' h => rLit d x w' h HRj.out
                obtain ⟨c0, c1, c2, c3, c4, c5, c6, c7, c8, c9, c10, c11, c12, c13, c14, c15⟩ := hck
                rw [hsv] at c2 hcall
                rw [hsl] at c9 hcall
                rw [hsg] at c15 hcall
                have HCALL := Lib.hid hcall
                clear hcall hsv hsl hsg
                have hk0 : (0 : Int) ≤ (k : Int) := by omega
                have hki : (k : Int) < (bs.length : Int) := by omega
                go_wp2_with fail
                refine (HCALL.out _ HXj.out).mono ?_
                rintro e w3 ⟨rfl, hb⟩
                have Hc2 := Lib.hid (Hc.out.trans (hb.mono hsz2)); clear hb
                clear c0 c1 c2 c3 c4 c5 c6 c7 c8 c9 c10 c11 c12 c13 c14 c15 x0 x1 x2
                rcases hlo : ltOk x with _ | _
                · have HE := Lib.hid (show R = false by rw [HRK2.out, HNO.out hlo]; simp)
                  clear hlo
                  go_wp2_with fail
                  go_ret
                  exact ⟨by rw [HE.out]; rfl, HBW.out.trans (Hc2.out.mono (by omega))⟩
                · have HBL2 := Lib.hid (show (bs.take (k + 1)).all ltOk = true by rw [HST.out, HBL.out, hlo]; rfl)
                  clear hlo
                  go_wp2_with fail
                  go_roundw
                  case rel => exact ⟨k + 1, by omega, by go_num, HBL2.out, Hc2.out⟩
                  case measure => simp [intOf]; omega
              · obtain rfl : k = bs.length := by omega
                have HBA := Lib.hid (show bs.all ltOk = true by have h9 := HBL.out; rwa [List.take_of_length_le (Nat.le_refl _)] at h9)
                have HTL := Lib.hid (ruTms_len h24 h16 (fun x hx => List.all_eq_true.1 HBA.out x hx))
                have HRV := Lib.hid (rRuleVars d p hp hc hs bp bc bs _ (HH.out.up Hc.out) (HB.out.up Hc.out) HR.out HTL.out)
                have HRK3 := Lib.hid (show R = decide ((varsL (ruTms hs bs)).length ≤ 24) by rw [HRK2.out, HHA.out, HBA.out]; rfl)
                generalize (varsL (ruTms hs bs)).length = n at HRV HRK3
                go_wp2_with fail
                refine HRV.out.mono ?_
                rintro e w4 ⟨pv, cv, rfl, hb⟩
                have Hd := Lib.hid (Hc.out.trans (hb.mono hsz2)); clear hb
                by_cases hn24 : n ≤ 24
                · have HE := Lib.hid (show R = true by rw [HRK3.out, decide_eq_true hn24])
                  have q : decide ((n : Int) ≤ 24) = true := decide_eq_true (by omega)
                  go_wp2_with fail
                  go_ret
                  exact ⟨by rw [HE.out]; rfl, HBW.out.trans (Hd.out.mono (by omega))⟩
                · have HE := Lib.hid (show R = false by rw [HRK3.out, decide_eq_false hn24])
                  have q : decide ((n : Int) ≤ 24) = false := decide_eq_false (by omega)
                  go_wp2_with fail
                  go_ret
                  exact ⟨by rw [HE.out]; rfl, HBW.out.trans (Hd.out.mono (by omega))⟩
      · have HE := Lib.hid (show R = false by rw [HRK.out, ruOk, decide_eq_false h16]; simp)
        go_wp2_with fail
        go_ret
        exact ⟨by rw [HE.out]; rfl, HBW.out⟩
    · have HE := Lib.hid (show R = false by rw [HRK.out, ruOk, decide_eq_false h24]; simp)
      go_wp2_with fail
      go_ret
      exact ⟨by rw [HE.out]; rfl, HBW.out⟩
set_option maxHeartbeats 2000000 in
theorem rCheckRule (d : Nat) (p : ByteArray) (hp : Option Addr) (hc : Nat) (hs : List Ag) (bp : Option Addr) (bc : Nat) (bs : List (Lt d)) (w : World) (hh : AgsAt w hp hs) (hb : LtsAt w d bp bs) (hr : RuR p hs bs) :
    Calls Tryz.prog 19 #[.agg #[.string p, .slice hp hs.length hc, .slice bp bs.length bc]] w fun e w' => e = .returned (.int .i64 (okCode (ruOk p hs bs) 40)) ∧ Below w.heap.size w w' := by
  have HC := Lib.hid (fun w' h1 h2 => rRule d p hp hc hs bp bc bs w' h1 h2 hr)
  have HH := Lib.hid hh; clear hh
  have HB := Lib.hid hb; clear hb
  clear hr
  obtain ⟨R, hR⟩ : ∃ R, R = ruOk p hs bs := ⟨_, rfl⟩
  rw [← hR] at HC ⊢
  clear hR
  go_enter Tryz.func19, Tryz.ntmps19
  go_wp2_with fail
  refine (HC.out _ (HH.out.up (below_alloc _ _)) (HB.out.up (below_alloc _ _))).mono ?_
  rintro e w1 ⟨rfl, hb⟩
  have Hb := Lib.hid hb; clear hb
  go_wp2_with fail
  refine (rSaid _ _).mono ?_
  rintro e w2 ⟨rfl, rfl⟩
  go_wp2_with fail
  go_ret
  exact ⟨rfl, (below_alloc _ _).trans (Hb.out.mono (by simp))⟩
end Go.Proofs.YtdgbenadoaecoaaGreatDoor
