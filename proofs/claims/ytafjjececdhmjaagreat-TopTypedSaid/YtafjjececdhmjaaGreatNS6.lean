/- The contract of CheckRule. Conditions: the rule lies in memory as it is told. -/
import Derived.Test.YtafjjececdhmjaaGreatNS5
namespace Go.Proofs.YtafjjececdhmjaaGreat
open Go.RowKit Go.Maps

theorem takeAll {α : Type} (f : α → Bool) (l : List α) (k : Nat) (h : k < l.length) : (l.take (k + 1)).all f = ((l.take k).all f && f l[k]) := by
  rw [List.take_succ_eq_append_getElem h, List.all_append]
  simp
theorem allNo {α : Type} {f : α → Bool} {l : List α} {k : Nat} (h : k < l.length) (hf : f l[k] = false) : l.all f = false := by
  rw [List.all_eq_false]
  exact ⟨l[k], List.getElem_mem h, by rw [hf]; decide⟩
theorem three {w : World} {b : Nat} {x0 x1 x2 : Value} {t : TypeId} {fz : Nat × Nat} (h : w.heap[b]? = some (.cells #[x0, x1, x2] t fz)) :
    w.cell? ⟨b, 0, none⟩ = some x0 ∧ w.cell? ⟨b, 1, none⟩ = some x1 ∧ w.cell? ⟨b, 2, none⟩ = some x2 := ⟨by rw [Lib.cell_of_heap h]; rfl, by rw [Lib.cell_of_heap h]; rfl, by rw [Lib.cell_of_heap h]; rfl⟩
theorem ret_code {b : Bool} {n : Int} (h : okCode b 40 = n) : Ending.returned (.int .i64 n) = .returned (.int .i64 (okCode b 40)) := by rw [h]
set_option maxHeartbeats 16000000 in
set_option maxRecDepth 100000 in
theorem tCheckRule (d : Nat) (p : ByteArray) (hp : Option Addr) (hc : Nat) (hs : List Ag) (bp : Option Addr) (bc : Nat) (bs : List (Lt d)) (w : World) (hh : AgsAt w hp hs) (hb : LtsAt w d bp bs) (hr : RuR p hs bs) :
    Calls Tryz.prog 37 #[.agg #[.string p, .slice hp hs.length hc, .slice bp bs.length bc]] w fun e w' => e = .returned (.int .i64 (okCode (ruOk p hs bs) 40)) ∧ Below w.heap.size w w' := by
  obtain ⟨W, hW⟩ : ∃ W, W = w.alloc (.cells #[.string p, .slice hp hs.length hc, .slice bp bs.length bc] 41) := ⟨_, rfl⟩
  have HBW := Lib.hid (show Below w.heap.size w W by rw [hW]; exact below_alloc _ _)
  have hsW : W.heap.size = w.heap.size + 1 := by rw [hW]; simp
  have HBX := Lib.hid (show W.heap[w.heap.size]? = some (.cells #[.string p, .slice hp hs.length hc, .slice bp bs.length bc] 41 (0, 0)) by rw [hW]; exact heap_alloc_new w _)
  have hbk : w.heap.size < W.heap.size := by omega
  have HH := Lib.hid (hh.up HBW.out); clear hh
  have HB := Lib.hid (hb.up HBW.out); clear hb
  have HR := Lib.hid hr
  have hm1 := hr.hl
  have hm2 := hr.bl
  unfold maxLen at hm1 hm2
  clear hr
  obtain ⟨R, hR⟩ : ∃ R, R = ruOk p hs bs := ⟨_, rfl⟩
  have HRK := Lib.hid hR
  rw [← hR]
  clear hR
  obtain ⟨x0, x1, x2⟩ := three HBX.out
  go_enter Tryz.func37, Tryz.ntmps37
  go_wp2_with fail
  rw [← hW]
  clear hW
  refine (tName p _ HR.out.p_).mono ?_
  rintro e w1 ⟨rfl, hb⟩
  have HB1 := Lib.hid hb; clear hb
  have hsz1 := HB1.out.size
  clear x0 x1 x2
  obtain ⟨x0, x1, x2⟩ := three ((HB1.out.block w.heap.size hbk).trans HBX.out)
  rcases hnb : nameB (bl p) with _ | _
  · have HE := Lib.hid (show R = false by rw [HRK.out, ruOk, hnb]; rfl)
    clear hnb
    go_wp2_with fail
    go_ret
    exact ⟨by rw [HE.out]; rfl, HBW.out.trans (HB1.out.mono (by omega))⟩
  · have HNB := Lib.hid hnb; clear hnb
    by_cases h24 : hs.length ≤ 24
    · by_cases h16 : bs.length ≤ 16
      · have HRK2 := Lib.hid (show R = (hs.all agOk && bs.all ltOk && decide ((varsL (ruTms hs bs)).length ≤ 24)) by rw [HRK.out, ruOk, HNB.out, decide_eq_true h24, decide_eq_true h16]; rfl)
        go_wp2_with fail
        go_loopw [4, 27] (fun _ i wr => ∃ k : Nat, k ≤ hs.length ∧ i = .int .i64 k ∧ (hs.take k).all agOk = true ∧ Below W.heap.size W wr) (fun _ i _ => hs.length - (intOf i).toNat)
        case atStart => exact ⟨0, by omega, rfl, rfl, HB1.out⟩
        case round =>
          clear x0 x1 x2
          rename World => wr1
          obtain ⟨k, hk, rfl, hal, hb⟩ := hrel
          have HAL := Lib.hid hal; clear hal
          have Hb := Lib.hid hb; clear hb
          have hsz := Hb.out.size
          by_cases hlt : k < hs.length
          · rcases HH.out with h0 | ⟨a2, o2, rfl, ha2, hck⟩
            · omega
            · obtain ⟨c0, hct⟩ := hck k hlt
              replace c0 := (Hb.out.cell (p := ⟨a2, o2 + k * 5, none⟩) ha2).trans c0
              obtain ⟨c1, c2, c3, c4⟩ := hct.up Hb.out ha2
              clear hck hct
              have HST := Lib.hid (takeAll agOk hs k hlt)
              have HNO := Lib.hid (fun h => allNo (f := agOk) hlt h)
              have HVS := Lib.hid ((HR.out.h_ hs[k] (List.getElem_mem hlt)).2.v0)
              obtain ⟨x, hx⟩ : ∃ x, x = hs[k] := ⟨_, rfl⟩
              rw [← hx] at c0 c1 c2 c3 c4 HST HNO HVS
              clear hx
              have hk0 : (0 : Int) ≤ (k : Int) := by omega
              have hki : (k : Int) < (hs.length : Int) := by omega
              go_wp2_with fail
              refine (tArg x _ HVS.out).mono ?_
              rintro e w2 ⟨rfl, hb⟩
              have Hb2 := Lib.hid ((Hb.out.alloc hsz _).trans (hb.mono (by simp; omega))); clear hb
              rcases hag : agOk x with _ | _
              · have HE := Lib.hid (show R = false by rw [HRK2.out, HNO.out hag]; rfl)
                clear hag c0 c1 c2 c3 c4
                go_wp2_with fail
                go_ret
                exact ⟨by rw [HE.out]; rfl, HBW.out.trans (Hb2.out.mono (by omega))⟩
              · have HAL2 := Lib.hid (show (hs.take (k + 1)).all agOk = true by rw [HST.out, HAL.out, hag]; rfl)
                clear hag c0 c1 c2 c3 c4
                go_wp2_with fail
                go_roundw
                case rel => exact ⟨k + 1, by omega, by go_num, HAL2.out, Hb2.out⟩
                case measure => simp [intOf]; omega
          · obtain rfl : k = hs.length := by omega
            have HHA := Lib.hid (show hs.all agOk = true by have h9 := HAL.out; rwa [List.take_of_length_le (Nat.le_refl _)] at h9)
            obtain ⟨x0, x1, x2⟩ := three ((Hb.out.block w.heap.size hbk).trans HBX.out)
            go_wp2_with fail
            clear x0 x1 x2
            go_loopw [6, 7, 38] (fun _ _ i wr => ∃ k : Nat, k ≤ bs.length ∧ i = .int .i64 k ∧ (bs.take k).all ltOk = true ∧ Below W.heap.size W wr) (fun _ _ i _ => bs.length - (intOf i).toNat)
            case atStart => exact ⟨0, by omega, rfl, rfl, Hb.out⟩
            case round =>
              rename World => wr2
              obtain ⟨k, hk, rfl, hal, hb⟩ := hrel
              have HBL := Lib.hid hal; clear hal
              have Hc := Lib.hid hb; clear hb
              have hsz2 := Hc.out.size
              by_cases hlt : k < bs.length
              · rcases HB.out.1 with h0 | ⟨a2, o2, rfl, ha2, hcs⟩
                · omega
                have hck := (hcs k hlt).up Hc.out ha2
                clear hcs
                have HXj := Lib.hid ((HB.out.2 bs[k] (List.getElem_mem hlt)).up Hc.out)
                have HRj := Lib.hid (HR.out.b_ bs[k] (List.getElem_mem hlt))
                have HST := Lib.hid (takeAll ltOk bs k hlt)
                have HNO := Lib.hid (fun h => allNo (f := ltOk) hlt h)
                obtain ⟨x, hx⟩ : ∃ x, x = bs[k] := ⟨_, rfl⟩
                rw [← hx] at hck HXj HRj HST HNO
                clear hx
                obtain ⟨q, qc, hsv, _, _⟩ := HXj.out.at_
                obtain ⟨pl, cl, hsl⟩ := ex_sl2 HXj.out.l_
                obtain ⟨pg, cg, hsg⟩ := ex_sl2 HXj.out.g_
                have hcall := fun w' h => tLit d x w' h HRj.out
                obtain ⟨c0, c1, c2, c3, c4, c5, c6, c7, c8, c9, c10, c11, c12, c13, c14, c15⟩ := hck
                rw [hsv] at c2 hcall
                rw [hsl] at c9 hcall
                rw [hsg] at c15 hcall
                have HCALL := Lib.hid hcall
                clear hcall hsv hsl hsg
                have hk0 : (0 : Int) ≤ (k : Int) := by omega
                have hki : (k : Int) < (bs.length : Int) := by omega
                go_wp2_with fail
                refine (HCALL.out _ (HXj.out.up (below_alloc _ _))).mono ?_
                rintro e w3 ⟨rfl, hb⟩
                have Hc2 := Lib.hid ((Hc.out.alloc hsz2 _).trans (hb.mono (by simp; omega))); clear hb
                clear c0 c1 c2 c3 c4 c5 c6 c7 c8 c9 c10 c11 c12 c13 c14 c15
                rcases hlo : ltOk x with _ | _
                · have HE := Lib.hid (show R = false by rw [HRK2.out, HNO.out hlo]; simp)
                  clear hlo
                  rw [show okCode false 40 = 40 from rfl]
                  go_wp2_with fail
                  go_ret
                  exact ⟨by rw [HE.out]; rfl, HBW.out.trans (Hc2.out.mono (by omega))⟩
                · have HBL2 := Lib.hid (show (bs.take (k + 1)).all ltOk = true by rw [HST.out, HBL.out, hlo]; rfl)
                  clear hlo
                  rw [show okCode true 40 = 0 from rfl]
                  go_wp2_with fail
                  go_roundw
                  case rel => exact ⟨k + 1, by omega, by go_num, HBL2.out, Hc2.out⟩
                  case measure => simp [intOf]; omega
              · obtain rfl : k = bs.length := by omega
                have HBA := Lib.hid (show bs.all ltOk = true by have h9 := HBL.out; rwa [List.take_of_length_le (Nat.le_refl _)] at h9)
                have HTL := Lib.hid (ruTms_len h24 h16 (fun x hx => List.all_eq_true.1 HBA.out x hx))
                obtain ⟨x0, x1, x2⟩ := three ((Hc.out.block w.heap.size hbk).trans HBX.out)
                have HRV := Lib.hid (tRuleVars d p hp hc hs bp bc bs _ (HH.out.up Hc.out) (HB.out.up Hc.out) HR.out HTL.out)
                have HRK3 := Lib.hid (show R = decide ((varsL (ruTms hs bs)).length ≤ 24) by rw [HRK2.out, HHA.out, HBA.out]; rfl)
                generalize (varsL (ruTms hs bs)).length = n at HRV HRK3
                go_wp2_with fail
                refine HRV.out.mono ?_
                rintro e w4 ⟨pv, cv, rfl, hb⟩
                have Hd := Lib.hid (Hc.out.trans (hb.mono hsz2)); clear hb
                by_cases hn24 : n ≤ 24
                · have HE := Lib.hid (show R = true by rw [HRK3.out, decide_eq_true hn24])
                  have q : decide ((n : Int) ≤ 24) = true := decide_eq_true (by omega)
                  go_wp2_with fail
                  refine (tCode _ _).mono ?_
                  rintro e w5 ⟨rfl, rfl⟩
                  go_wp2_with fail
                  go_ret
                  exact ⟨by rw [HE.out]; rfl, HBW.out.trans (Hd.out.mono (by omega))⟩
                · have HE := Lib.hid (show R = false by rw [HRK3.out, decide_eq_false hn24])
                  have q : decide ((n : Int) ≤ 24) = false := decide_eq_false (by omega)
                  go_wp2_with fail
                  refine (tCode _ _).mono ?_
                  rintro e w5 ⟨rfl, rfl⟩
                  go_wp2_with fail
                  go_ret
                  exact ⟨by rw [HE.out]; rfl, HBW.out.trans (Hd.out.mono (by omega))⟩
      · have HE := Lib.hid (show R = false by rw [HRK.out, ruOk, decide_eq_false h16]; simp)
        go_wp2_with fail
        go_ret
        exact ⟨by rw [HE.out]; rfl, HBW.out.trans (HB1.out.mono (by omega))⟩
    · have HE := Lib.hid (show R = false by rw [HRK.out, ruOk, decide_eq_false h24]; simp)
      go_wp2_with fail
      go_ret
      exact ⟨by rw [HE.out]; rfl, HBW.out.trans (HB1.out.mono (by omega))⟩
end Go.Proofs.YtafjjececdhmjaaGreat
