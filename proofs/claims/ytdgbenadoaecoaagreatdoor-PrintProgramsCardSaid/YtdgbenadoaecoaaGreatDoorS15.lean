/- The reference's texts of arguments and rules. Conditions: the rule lies in memory as it is told, and is one as it may be. -/
import Derived.Test.YtdgbenadoaecoaaGreatDoorS14
import Derived.Test.YtdgbenadoaecoaaGreatDoorS9
namespace Go.Proofs.YtdgbenadoaecoaaGreatDoor
open Go.RowKit

theorem agOk_v {x : Ag} (hr : TmR x.t.v x.t.x.k x.t.x.n x.t.x.t) (h : agOk x = true) (h0 : x.g ≠ 0) (h1 : x.g ≠ 1) : x.t.v.size ≤ 802 := by
  unfold agOk at h
  rw [if_neg h0, if_neg h1] at h
  split at h
  · simp only [Bool.and_eq_true, solidB] at h
    have h5 := termL_le hr h.2.2
    have h6 : termL x.t = bl x.t.v := by
      unfold termL
      rw [if_neg]
      intro h9
      rw [h9] at h
      exact absurd h.1 (by decide)
    rw [h6, size_bl] at h5
    exact h5
  · cases h
set_option maxHeartbeats 4000000 in
set_option maxRecDepth 100000 in
theorem rArgL (x : Ag) (w : World) (hr : TmR x.t.v x.t.x.k x.t.x.n x.t.x.t) (ho : agOk x = true) :
    Calls Tryz.prog 38 #[.agg #[.int .i8 x.g, .string x.t.v, .int .i8 x.t.x.k, .int .i64 x.t.x.n, .string x.t.x.t]] w fun e w' => e = .returned (.string ⟨(agL x).toArray⟩) ∧ Below w.heap.size w w' := by
  have hv := agOk_v hr ho
  have hg := agOk_g ho
  clear ho
  obtain ⟨g, ⟨v, ⟨k, n, t⟩⟩⟩ := x
  simp only at hr hg hv ⊢
  have HR := Lib.hid hr; clear hr
  rcases hg with rfl | rfl | hg
  · have HE := Lib.hid (show agL ⟨0, ⟨v, ⟨k, n, t⟩⟩⟩ = termL ⟨v, ⟨k, n, t⟩⟩ from rfl)
    clear hv
    go_enter Tryz.func38, Tryz.ntmps38
    go_wp2_with fail
    refine (rText v k n t _ HR.out).mono ?_
    rintro e w1 ⟨rfl, hb⟩
    have Hb := Lib.hid hb; clear hb
    go_wp2_with fail
    go_ret
    exact ⟨by rw [HE.out]; rfl, (below_alloc _ _).trans (Hb.out.mono (by simp))⟩
  · have HE := Lib.hid (show agL ⟨1, ⟨v, ⟨k, n, t⟩⟩⟩ = [99, 111, 117, 110, 116, 40, 41] from rfl)
    clear hv
    go_enter Tryz.func38, Tryz.ntmps38
    go_wp2_with fail
    go_ret
    exact ⟨by rw [HE.out]; rfl, below_alloc _ _⟩
  · have hv8 := hv (by omega) (by omega)
    clear hv
    have hc1 : ¬ 9223372036854775807 < 4 + v.size := by omega
    have hc2 : ¬ 9223372036854775807 < 4 + v.size + 1 := by omega
    rcases (show g = 2 ∨ g = 3 ∨ g = 4 by omega) with rfl | rfl | rfl
    all_goals
      go_enter Tryz.func38, Tryz.ntmps38
      go_wp2_with fail
      go_ret
      refine ⟨ret_bytes ?_, below_alloc _ _⟩
      rw [bl_app, bl_app]
      simp [agL, bl, foldsL]
set_option maxHeartbeats 8000000 in
set_option maxRecDepth 100000 in
theorem rRuleL (d : Nat) (p : ByteArray) (hp : Option Addr) (hc : Nat) (hs : List Ag) (bp : Option Addr) (bc : Nat) (bs : List (Lt d)) (w : World) (hh : AgsAt w hp hs) (hb : LtsAt w d bp bs) (hr : RuR p hs bs) (ho : ruOk p hs bs = true) :
    Calls Tryz.prog 20 #[.agg #[.string p, .slice hp hs.length hc, .slice bp bs.length bc]] w fun e w' => e = .returned (.string ⟨(ruL p hs bs).toArray⟩) ∧ Below w.heap.size w w' := by
  obtain ⟨h24, h16, hao, hlo⟩ := ruOk_parts ho
  have hL : (colsL (bl p) (hs.map agL)).length + ((bodL true bs).length + 1) ≤ 9000000 := by simpa [ruL] using ruL_le hr ho
  have HL := Lib.hid hL; clear hL ho
  obtain ⟨i0, hi, hzz⟩ := Option.map_eq_some_iff.1 infoStr
  simp only [Prod.mk.injEq] at hzz
  obtain ⟨hz0, hz1, hz2⟩ := hzz
  have HI := Lib.hid hi; clear hi
  have HZ0 := Lib.hid hz0; clear hz0
  have HZ1 := Lib.hid hz1; clear hz1
  have HZ2 := Lib.hid hz2; clear hz2
  obtain ⟨W, hW⟩ : ∃ W, W = w.alloc (.cells #[.string p, .slice hp hs.length hc, .slice bp bs.length bc] 25) := ⟨_, rfl⟩
  have HBW := Lib.hid (show Below w.heap.size w W by rw [hW]; exact below_alloc _ _)
  have hsW : W.heap.size = w.heap.size + 1 := by rw [hW]; simp
  have HBX := Lib.hid (show W.heap[w.heap.size]? = some (.cells #[.string p, .slice hp hs.length hc, .slice bp bs.length bc] 25 (0, 0)) by rw [hW]; exact heap_alloc_new w _)
  have hbk : w.heap.size < W.heap.size := by omega
  have HSW := Lib.hid hsW; clear hsW
  have HH := Lib.hid (hh.up HBW.out); clear hh
  have HB := Lib.hid (hb.up HBW.out); clear hb
  have HR := Lib.hid hr; clear hr
  have HAO := Lib.hid hao; clear hao
  have HLO := Lib.hid hlo; clear hlo
  go_enter Tryz.func20, Tryz.ntmps20
  go_wp2_with fail
  rw [← hW]
  clear hW
  go_loopw [3, 4] (fun v i wr => ∃ (k : Nat) (A : List (List UInt8)), k ≤ hs.length ∧ i = .int .i64 k ∧ A = (hs.map agL).take k ∧ wr.ownsRowF W.heap.size 9 1 v A.length (strVs A) ∧ Below W.heap.size W wr) (fun _ i _ => hs.length - (intOf i).toNat)
  case atStart => exact ⟨0, [], by omega, rfl, rfl, World.ownsRowF_nil _ _ _ _, Below.refl _ _⟩
  case round =>
    obtain ⟨k, A, hk, rfl, hA, hrow, hb⟩ := hrel
    rename World => wr
    have hal : A.length ≤ 24 := by rw [hA, List.length_take, List.length_map]; omega
    have HAA := Lib.hid hA; clear hA
    obtain ⟨pr, cr, rfl, hst⟩ := own_strs hrow rfl
    have HRW := Lib.hid hrow; clear hrow
    have HST := Lib.hid hst; clear hst
    have Hb := Lib.hid hb; clear hb
    have hsz := Hb.out.size
    obtain ⟨x0, x1, x2⟩ := three ((Hb.out.block w.heap.size hbk).trans HBX.out)
    by_cases hlt : k < hs.length
    · rcases HH.out with h0 | ⟨a2, o2, rfl, ha2, hck⟩
      · omega
      · obtain ⟨c0, hct⟩ := hck k hlt
        replace c0 := (Hb.out.cell (p := ⟨a2, o2 + k * 5, none⟩) ha2).trans c0
        obtain ⟨c1, c2, c3, c4⟩ := hct.up Hb.out ha2
        clear hck hct
        have htk : (hs.map agL).take (k + 1) = (hs.map agL).take k ++ [agL hs[k]] := by
          rw [List.take_succ_eq_append_getElem (by simpa using hlt), List.getElem_map]
        have HRk := Lib.hid ((HR.out.h_ hs[k] (List.getElem_mem hlt)).2)
        have HOk := Lib.hid (HAO.out hs[k] (List.getElem_mem hlt))
        obtain ⟨x, hx⟩ : ∃ x, x = hs[k] := ⟨_, rfl⟩
        rw [← hx] at c0 c1 c2 c3 c4 htk HRk HOk
        have HTK := Lib.hid htk
        clear hx htk
        have hk0 : (0 : Int) ≤ (k : Int) := by omega
        have hki : (k : Int) < (hs.length : Int) := by omega
        go_wp2_with fail
        refine (rArgL x _ HRk.out HOk.out).mono ?_
        rintro e w1 ⟨rfl, hb1⟩
        have HRW1 := Lib.hid (own_below HRW.out hb1)
        have HB1 := Lib.hid (Hb.out.trans (hb1.mono hsz)); clear hb1
        have hsz1 := HB1.out.size
        obtain ⟨s, hs'⟩ : ∃ s : ByteArray, s = ⟨(agL x).toArray⟩ := ⟨_, rfl⟩
        have HSS := Lib.hid (show agL x = bl s by rw [hs'])
        rw [← hs']
        clear hs' c0 c1 c2 c3 c4 x0 x1 x2
        go_wp2_with (at_builtin; refine wpApp_row rfl _ _ 88 rfl W.heap.size 9 i0 _ 1 16 Tryz.underlying88 HI.out HZ0.out HZ1.out HZ2.out rfl (by decide) _ _ _ rfl (HRW1.out.alloc _) ⟨w1.heap.size, 0, none⟩ 1 1 [.string s] rfl rfl (new_s1 w1 s) ?c1 ?c2 ?c3 ?c4 ?_)
        case c1 => exact one_str s
        case c2 => unfold maxLen; omega
        case c3 => omega
        case c4 => first | omega | (simp; omega)
        intro v1 w2 hown hgrow _ hpl
        have HB2 := Lib.hid ((HB1.out.alloc hsz1 _).grown hgrow (by simp; omega) (fun g hg => (HRW1.out.lt g hg).1))
        have HO2 := Lib.hid (show w2.ownsRowF W.heap.size 9 1 v1 (A ++ [agL x]).length (strVs (A ++ [agL x])) by
          have e : strVs (A ++ [agL x]) = strVs A ++ [.string s] := by rw [HSS.out]; simp [strVs]
          rw [e]
          simpa using hown)
        clear hown hgrow hpl
        obtain ⟨A2, hA2⟩ : ∃ A2, A2 = A ++ [agL x] := ⟨_, rfl⟩
        rw [← hA2] at HO2
        have HA2 := Lib.hid (show A2 = (hs.map agL).take (k + 1) by rw [hA2, HAA.out, HTK.out])
        clear hA2
        obtain ⟨p2, c2, rfl⟩ := own_slice1 HO2.out
        go_wp2_with fail
        go_roundw
        case rel => exact ⟨k + 1, A2, by omega, by go_num, HA2.out, HO2.out, HB2.out⟩
        case measure => simp [intOf]; omega
    · obtain rfl : k = hs.length := by omega
      have hAF : A = hs.map agL := by rw [HAA.out, List.take_of_length_le (by simp)]
      have HC := Lib.hid (rCols p A pr cr wr HST.out (by rw [hAF]; have := HL.out; omega))
      have HAF := Lib.hid hAF; clear hAF
      go_wp2_with fail
      refine HC.out.mono ?_
      rintro e w1 ⟨rfl, rfl⟩
      clear x0 x1 x2
      obtain ⟨S0, hS0⟩ : ∃ S : ByteArray, S = ⟨(colsL (bl p) A).toArray⟩ := ⟨_, rfl⟩
      have HS0 := Lib.hid (show bl S0 = colsL (bl p) (hs.map agL) by rw [hS0, HAF.out])
      rw [← hS0]
      clear hS0
      go_wp2_with fail
      rename World => wq
      have hszq := Hb.out.size
      go_loopw [5, 6] (fun v i wx => ∃ (k : Nat) (S : ByteArray), k ≤ bs.length ∧ v = .string S ∧ i = .int .i64 k ∧ bl S = colsL (bl p) (hs.map agL) ++ bodL true (bs.take k) ∧ Below W.heap.size W wx) (fun _ i _ => bs.length - (intOf i).toNat)
      case atStart => exact ⟨0, S0, by omega, rfl, rfl, by rw [HS0.out]; simp [bodL], Hb.out⟩
      case round =>
        obtain ⟨k, S, hk2, rfl, rfl, hSb, hb⟩ := hrel
        rename World => wx
        have HLE := Lib.hid (bod_le bs true (k + 1))
        have hSs : S.size ≤ 9000000 := by
          have h1 := size_bl S
          have h2 := bod_le bs true k
          have h3 := HL.out
          rw [hSb, List.length_append] at h1
          omega
        have HSB := Lib.hid hSb; clear hSb
        have Hx := Lib.hid hb; clear hb
        have hszx := Hx.out.size
        obtain ⟨x0, x1, x2⟩ := three ((Hx.out.block w.heap.size hbk).trans HBX.out)
        by_cases hlt : k < bs.length
        · rcases HB.out.1 with h0 | ⟨a2, o2, rfl, ha2, hcs⟩
          · omega
          have hck := (hcs k hlt).up Hx.out ha2
          clear hcs
          have hnx := Lib.hid (bod_next bs k hlt)
          have HXj := Lib.hid (HB.out.2 bs[k] (List.getElem_mem hlt))
          have HRj := Lib.hid (HR.out.b_ bs[k] (List.getElem_mem hlt))
          have HOj := Lib.hid (HLO.out bs[k] (List.getElem_mem hlt))
          obtain ⟨x, hx⟩ : ∃ x, x = bs[k] := ⟨_, rfl⟩
          rw [← hx] at hck HXj HRj HOj hnx
          clear hx
          obtain ⟨q, qc, hsv, _, _⟩ := HXj.out.at_
          obtain ⟨pl, cl, hsl⟩ := ex_sl2 HXj.out.l_
          obtain ⟨pg, cg, hsg⟩ := ex_sl2 HXj.out.g_
          have hcall := fun w' h => rLitL d x w' h HRj.out HOj.out
          obtain ⟨c0, c1, c2, c3, c4, c5, c6, c7, c8, c9, c10, c11, c12, c13, c14, c15⟩ := hck
          rw [hsv] at c2 hcall
          rw [hsl] at c9 hcall
          rw [hsg] at c15 hcall
          have HCALL := Lib.hid hcall
          clear hcall hsv hsl hsg
          have hk0' : (0 : Int) ≤ (k : Int) := by omega
          have hki : (k : Int) < (bs.length : Int) := by omega
          by_cases hk0 : k = 0
          · as_aux_lemma =>
              subst hk0
              simp only [Nat.zero_mul, Nat.add_zero] at c0 c1 c2 c3 c4 c5 c6 c7 c8 c9 c10 c11 c12 c13 c14 c15
              have hc1 : ¬ 9223372036854775807 < S.size + 4 := by omega
              go_wp2_with fail
              refine (HCALL.out _ (HXj.out.up (Hx.out.mono (Nat.le_refl _)))).mono ?_
              rintro e w3 ⟨rfl, hb⟩
              have Hx2 := Lib.hid (Hx.out.trans (hb.mono hszx)); clear hb
              clear c0 c1 c2 c3 c4 c5 c6 c7 c8 c9 c10 c11 c12 c13 c14 c15 x0 x1 x2 hc1
              obtain ⟨L, hLL⟩ : ∃ L : ByteArray, L = ⟨(litL x).toArray⟩ := ⟨_, rfl⟩
              have hbL : bl L = litL x := by rw [hLL]
              rw [← hLL]
              clear hLL
              have hLs : L.size ≤ 9000000 := by
                have h1 := size_bl L
                have h2 := HLE.out
                rw [hnx.out] at h2
                have h3 := HL.out
                rw [hbL] at h1
                simp only [List.length_append] at h2
                omega
              have hc2 : ¬ 9223372036854775807 < S.size + 4 + L.size := by omega
              have HBLL := Lib.hid hbL; clear hbL
              go_wp2_with fail
              go_roundw
              case rel => exact ⟨0 + 1, S ++ ⟨#[32, 58, 45, 32]⟩ ++ L, by omega, rfl, by go_num, by rw [bl_app, bl_app, HSB.out, HBLL.out, hnx.out]; simp [bl], Hx2.out⟩
              case measure => simp [intOf]; omega
          · as_aux_lemma =>
              have q0 : ((k : Int) == 0) = false := beq_eq_false_iff_ne.2 (by omega)
              have HZ := Lib.hid hk0; clear hk0
              have hc1 : ¬ 9223372036854775807 < S.size + 2 := by omega
              go_wp2_with fail
              refine (HCALL.out _ (HXj.out.up (Hx.out.mono (Nat.le_refl _)))).mono ?_
              rintro e w3 ⟨rfl, hb⟩
              have Hx2 := Lib.hid (Hx.out.trans (hb.mono hszx)); clear hb
              clear c0 c1 c2 c3 c4 c5 c6 c7 c8 c9 c10 c11 c12 c13 c14 c15 x0 x1 x2 hc1
              obtain ⟨L, hLL⟩ : ∃ L : ByteArray, L = ⟨(litL x).toArray⟩ := ⟨_, rfl⟩
              have hbL : bl L = litL x := by rw [hLL]
              rw [← hLL]
              clear hLL
              have hLs : L.size ≤ 9000000 := by
                have h1 := size_bl L
                have h2 := HLE.out
                rw [hnx.out] at h2
                have h3 := HL.out
                rw [hbL] at h1
                simp only [List.length_append] at h2
                omega
              have hc2 : ¬ 9223372036854775807 < S.size + 2 + L.size := by omega
              have HBLL := Lib.hid hbL; clear hbL
              go_wp2_with fail
              go_roundw
              case rel => exact ⟨k + 1, S ++ ⟨#[44, 32]⟩ ++ L, by omega, rfl, by go_num, by rw [bl_app, bl_app, HSB.out, HBLL.out, hnx.out]; simp [bl, HZ.out], Hx2.out⟩
              case measure => simp [intOf]; omega
        · obtain rfl : k = bs.length := by omega
          have hc1 : ¬ 9223372036854775807 < S.size + 1 := by omega
          go_wp2_with fail
          go_ret
          refine ⟨ret_bytes ?_, HBW.out.trans (Hx.out.mono (by omega))⟩
          rw [bl_app, HSB.out, List.take_of_length_le (Nat.le_refl _), ruL]
          simp [bl]
end Go.Proofs.YtdgbenadoaecoaaGreatDoor
