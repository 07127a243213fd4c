/- The contracts of the two checks of literals. The contracts of the reference's CheckLiteral, rel, literal and Literal. Conditions: the literal lies in memory as it is told. -/
import Derived.Test.YtafjjececdhmjaaGreatNKu
import Derived.Deep.RegionHeld3
namespace Go.Proofs.YtafjjececdhmjaaGreat
open Go.RowKit

set_option maxHeartbeats 8000000 in
set_option maxRecDepth 100000 in
theorem rLit (d : Nat) (x : Lt d) (w : World) (hx : LtAt w x) (hr : LtR x) :
    Calls Tryz.prog 53 #[.agg #[.int .i8 x.k, .string x.p, x.sv, .int .i8 x.r, .int .i8 (exOp d x.l), .string (exTm d x.l).v, .int .i8 (exTm d x.l).x.k, .int .i64 (exTm d x.l).x.n, .string (exTm d x.l).x.t, exSl d x.l, .int .i8 (exOp d x.g), .string (exTm d x.g).v, .int .i8 (exTm d x.g).x.k, .int .i64 (exTm d x.g).x.n, .string (exTm d x.g).x.t, exSl d x.g]] w fun e w' => e = .returned (.bool (ltOk x)) ∧ Below w.heap.size w w' := by
  obtain ⟨k, p, ts, sv, r, el, eg⟩ := x
  obtain ⟨hat, hl, hg⟩ := hx
  obtain ⟨hp, htr, hlr, hgr⟩ := hr
  have HTS := Lib.hid hat
  obtain ⟨q, cap, hsv, _, _⟩ := hat
  obtain ⟨pl, cl, hsl⟩ := ex_sl2 hl
  obtain ⟨pg, cg, hsg⟩ := ex_sl2 hg
  have hsv' : sv = .slice q ts.length cap := hsv
  clear hsv
  subst hsv'
  have HP := Lib.hid (show p.size ≤ maxLen from hp); clear hp
  have HTR := Lib.hid (show TmsR ts from htr); clear htr
  have HLR := Lib.hid (show ExR d el from hlr); clear hlr
  have HGR := Lib.hid (show ExR d eg from hgr); clear hgr
  have HLA := Lib.hid (show ExAt w d el from hl); clear hl
  have HGA := Lib.hid (show ExAt w d eg from hg); clear hg
  have HSL := Lib.hid (show exSl d el = .slice pl (exLen d el) cl from hsl)
  have HSG := Lib.hid (show exSl d eg = .slice pg (exLen d eg) cg from hsg)
  have HTS' := Lib.hid (show TmSl w (.slice q ts.length cap) ts from HTS.out); clear HTS
  simp only at hsl hsg ⊢
  rw [hsl, hsg]
  clear hsl hsg
  have HK0 := Lib.hid (show ltOk (⟨k, p, ts, .slice q ts.length cap, r, el, eg⟩ : Lt d) = (if k = 1 ∨ k = 2 then atOk p ts && (r == 0) && noB (exOp d el) (exTm d el) (exLen d el) && noB (exOp d eg) (exTm d eg) (exLen d eg)
    else if k = 3 then (bl p).isEmpty && decide (ts.length = 0) && decide (1 ≤ r) && decide (r ≤ 6) && exOk 8 d el && exOk 8 d eg else false) from rfl)
  by_cases hk1 : k = 1
  · subst hk1
    have HK := Lib.hid (HK0.out.trans (if_pos (by decide))); clear HK0
    obtain ⟨W, hW⟩ : ∃ W, W = w.alloc (.cells #[.int .i8 1, .string p, .slice q ts.length cap, .int .i8 r, .int .i8 (exOp d el), .string (exTm d el).v, .int .i8 (exTm d el).x.k, .int .i64 (exTm d el).x.n, .string (exTm d el).x.t, .slice pl (exLen d el) cl, .int .i8 (exOp d eg), .string (exTm d eg).v, .int .i8 (exTm d eg).x.k, .int .i64 (exTm d eg).x.n, .string (exTm d eg).x.t, .slice pg (exLen d eg) cg] 114) := ⟨_, rfl⟩
    have HBW := Lib.hid (show Below w.heap.size w W by rw [hW]; exact below_alloc _ _)
    have hsW : W.heap.size = w.heap.size + 1 := by rw [hW]; simp
    have HBX := Lib.hid (show W.heap[w.heap.size]? = some (.cells #[.int .i8 1, .string p, .slice q ts.length cap, .int .i8 r, .int .i8 (exOp d el), .string (exTm d el).v, .int .i8 (exTm d el).x.k, .int .i64 (exTm d el).x.n, .string (exTm d el).x.t, .slice pl (exLen d el) cl, .int .i8 (exOp d eg), .string (exTm d eg).v, .int .i8 (exTm d eg).x.k, .int .i64 (exTm d eg).x.n, .string (exTm d eg).x.t, .slice pg (exLen d eg) cg] 114 (0, 0)) by rw [hW]; exact heap_alloc_new w _)
    have HB := Lib.hid (Below.refl W.heap.size W)
    rcases hA : atOk p ts with _ | _
    all_goals have HA := Lib.hid hA
    all_goals clear hA
    · have HE := Lib.hid (show ltOk (⟨1, p, ts, .slice q ts.length cap, r, el, eg⟩ : Lt d) = false by rw [HK.out, HA.out]; rfl)
      go_enter Tryz.func53, Tryz.ntmps53
      go_wp2_with fail
      rw [← hW]
      clear hW
      refine (rAtomB p _ ts _ HP.out (HTS'.out.up (HBW.out.trans (HB.out.mono (by omega)))) HTR.out).mono ?_
      rintro e w1 ⟨rfl, hb1⟩
      have hb := HB.out.trans (hb1.mono HB.out.size)
      clear HB hb1
      obtain ⟨x0, x1, x2, x3, x4, x5, x6, x7, x8, x9, x10, x11, x12, x13, x14, x15⟩ := sixteen ((hb.block w.heap.size (by omega)).trans HBX.out)
      have HB := Lib.hid hb; clear hb
      rw [HA.out]
      go_wp2_with fail
      go_ret
      exact ⟨ret_bool HE.out.symm, HBW.out.trans (HB.out.mono (by omega))⟩
    rcases hR : (r == 0) with _ | _
    · have HE := Lib.hid (show ltOk (⟨1, p, ts, .slice q ts.length cap, r, el, eg⟩ : Lt d) = false by rw [HK.out, HA.out, hR]; rfl)
      go_enter Tryz.func53, Tryz.ntmps53
      go_wp2_with fail
      rw [← hW]
      clear hW
      refine (rAtomB p _ ts _ HP.out (HTS'.out.up (HBW.out.trans (HB.out.mono (by omega)))) HTR.out).mono ?_
      rintro e w1 ⟨rfl, hb1⟩
      have hb := HB.out.trans (hb1.mono HB.out.size)
      clear HB hb1
      obtain ⟨x0, x1, x2, x3, x4, x5, x6, x7, x8, x9, x10, x11, x12, x13, x14, x15⟩ := sixteen ((hb.block w.heap.size (by omega)).trans HBX.out)
      have HB := Lib.hid hb; clear hb
      rw [HA.out]
      go_wp2_with fail
      go_ret
      exact ⟨ret_bool HE.out.symm, HBW.out.trans (HB.out.mono (by omega))⟩
    rcases hN : noB (exOp d el) (exTm d el) (exLen d el) with _ | _
    all_goals have HN := Lib.hid hN
    all_goals clear hN
    · have HE := Lib.hid (show ltOk (⟨1, p, ts, .slice q ts.length cap, r, el, eg⟩ : Lt d) = false by rw [HK.out, HA.out, hR, HN.out]; rfl)
      go_enter Tryz.func53, Tryz.ntmps53
      go_wp2_with fail
      rw [← hW]
      clear hW
      refine (rAtomB p _ ts _ HP.out (HTS'.out.up (HBW.out.trans (HB.out.mono (by omega)))) HTR.out).mono ?_
      rintro e w1 ⟨rfl, hb1⟩
      have hb := HB.out.trans (hb1.mono HB.out.size)
      clear HB hb1
      obtain ⟨x0, x1, x2, x3, x4, x5, x6, x7, x8, x9, x10, x11, x12, x13, x14, x15⟩ := sixteen ((hb.block w.heap.size (by omega)).trans HBX.out)
      have HB := Lib.hid hb; clear hb
      rw [HA.out]
      go_wp2_with fail
      refine (rNothing _ _ _ _ _ _ _ _ _).mono ?_
      rintro e w1 ⟨rfl, hb1⟩
      have hb := HB.out.trans (hb1.mono HB.out.size)
      clear HB hb1
      obtain ⟨x0, x1, x2, x3, x4, x5, x6, x7, x8, x9, x10, x11, x12, x13, x14, x15⟩ := sixteen ((hb.block w.heap.size (by omega)).trans HBX.out)
      have HB := Lib.hid hb; clear hb
      rw [show noB (exOp d el) ⟨(exTm d el).v, ⟨(exTm d el).x.k, (exTm d el).x.n, (exTm d el).x.t⟩⟩ (exLen d el) = _ from HN.out]
      go_wp2_with fail
      go_ret
      exact ⟨ret_bool HE.out.symm, HBW.out.trans (HB.out.mono (by omega))⟩
    rcases hM : noB (exOp d eg) (exTm d eg) (exLen d eg) with _ | _
    all_goals have HM := Lib.hid hM
    all_goals clear hM
    · have HE := Lib.hid (show ltOk (⟨1, p, ts, .slice q ts.length cap, r, el, eg⟩ : Lt d) = false by rw [HK.out, HA.out, hR, HN.out, HM.out]; rfl)
      go_enter Tryz.func53, Tryz.ntmps53
      go_wp2_with fail
      rw [← hW]
      clear hW
      refine (rAtomB p _ ts _ HP.out (HTS'.out.up (HBW.out.trans (HB.out.mono (by omega)))) HTR.out).mono ?_
      rintro e w1 ⟨rfl, hb1⟩
      have hb := HB.out.trans (hb1.mono HB.out.size)
      clear HB hb1
      obtain ⟨x0, x1, x2, x3, x4, x5, x6, x7, x8, x9, x10, x11, x12, x13, x14, x15⟩ := sixteen ((hb.block w.heap.size (by omega)).trans HBX.out)
      have HB := Lib.hid hb; clear hb
      rw [HA.out]
      go_wp2_with fail
      refine (rNothing _ _ _ _ _ _ _ _ _).mono ?_
      rintro e w1 ⟨rfl, hb1⟩
      have hb := HB.out.trans (hb1.mono HB.out.size)
      clear HB hb1
      obtain ⟨x0, x1, x2, x3, x4, x5, x6, x7, x8, x9, x10, x11, x12, x13, x14, x15⟩ := sixteen ((hb.block w.heap.size (by omega)).trans HBX.out)
      have HB := Lib.hid hb; clear hb
      rw [show noB (exOp d el) ⟨(exTm d el).v, ⟨(exTm d el).x.k, (exTm d el).x.n, (exTm d el).x.t⟩⟩ (exLen d el) = _ from HN.out]
      go_wp2_with fail
      refine (rNothing _ _ _ _ _ _ _ _ _).mono ?_
      rintro e w1 ⟨rfl, hb1⟩
      have hb := HB.out.trans (hb1.mono HB.out.size)
      clear HB hb1
      obtain ⟨x0, x1, x2, x3, x4, x5, x6, x7, x8, x9, x10, x11, x12, x13, x14, x15⟩ := sixteen ((hb.block w.heap.size (by omega)).trans HBX.out)
      have HB := Lib.hid hb; clear hb
      rw [show noB (exOp d eg) ⟨(exTm d eg).v, ⟨(exTm d eg).x.k, (exTm d eg).x.n, (exTm d eg).x.t⟩⟩ (exLen d eg) = _ from HM.out]
      go_wp2_with fail
      go_ret
      exact ⟨ret_bool HE.out.symm, HBW.out.trans (HB.out.mono (by omega))⟩
    · have HE := Lib.hid (show ltOk (⟨1, p, ts, .slice q ts.length cap, r, el, eg⟩ : Lt d) = true by rw [HK.out, HA.out, hR, HN.out, HM.out]; rfl)
      go_enter Tryz.func53, Tryz.ntmps53
      go_wp2_with fail
      rw [← hW]
      clear hW
      refine (rAtomB p _ ts _ HP.out (HTS'.out.up (HBW.out.trans (HB.out.mono (by omega)))) HTR.out).mono ?_
      rintro e w1 ⟨rfl, hb1⟩
      have hb := HB.out.trans (hb1.mono HB.out.size)
      clear HB hb1
      obtain ⟨x0, x1, x2, x3, x4, x5, x6, x7, x8, x9, x10, x11, x12, x13, x14, x15⟩ := sixteen ((hb.block w.heap.size (by omega)).trans HBX.out)
      have HB := Lib.hid hb; clear hb
      rw [HA.out]
      go_wp2_with fail
      refine (rNothing _ _ _ _ _ _ _ _ _).mono ?_
      rintro e w1 ⟨rfl, hb1⟩
      have hb := HB.out.trans (hb1.mono HB.out.size)
      clear HB hb1
      obtain ⟨x0, x1, x2, x3, x4, x5, x6, x7, x8, x9, x10, x11, x12, x13, x14, x15⟩ := sixteen ((hb.block w.heap.size (by omega)).trans HBX.out)
      have HB := Lib.hid hb; clear hb
      rw [show noB (exOp d el) ⟨(exTm d el).v, ⟨(exTm d el).x.k, (exTm d el).x.n, (exTm d el).x.t⟩⟩ (exLen d el) = _ from HN.out]
      go_wp2_with fail
      refine (rNothing _ _ _ _ _ _ _ _ _).mono ?_
      rintro e w1 ⟨rfl, hb1⟩
      have hb := HB.out.trans (hb1.mono HB.out.size)
      clear HB hb1
      obtain ⟨x0, x1, x2, x3, x4, x5, x6, x7, x8, x9, x10, x11, x12, x13, x14, x15⟩ := sixteen ((hb.block w.heap.size (by omega)).trans HBX.out)
      have HB := Lib.hid hb; clear hb
      rw [show noB (exOp d eg) ⟨(exTm d eg).v, ⟨(exTm d eg).x.k, (exTm d eg).x.n, (exTm d eg).x.t⟩⟩ (exLen d eg) = _ from HM.out]
      go_wp2_with fail
      go_ret
      exact ⟨ret_bool HE.out.symm, HBW.out.trans (HB.out.mono (by omega))⟩
  by_cases hk2 : k = 2
  · subst hk2
    have HK := Lib.hid (HK0.out.trans (if_pos (by decide))); clear HK0
    obtain ⟨W, hW⟩ : ∃ W, W = w.alloc (.cells #[.int .i8 2, .string p, .slice q ts.length cap, .int .i8 r, .int .i8 (exOp d el), .string (exTm d el).v, .int .i8 (exTm d el).x.k, .int .i64 (exTm d el).x.n, .string (exTm d el).x.t, .slice pl (exLen d el) cl, .int .i8 (exOp d eg), .string (exTm d eg).v, .int .i8 (exTm d eg).x.k, .int .i64 (exTm d eg).x.n, .string (exTm d eg).x.t, .slice pg (exLen d eg) cg] 114) := ⟨_, rfl⟩
    have HBW := Lib.hid (show Below w.heap.size w W by rw [hW]; exact below_alloc _ _)
    have hsW : W.heap.size = w.heap.size + 1 := by rw [hW]; simp
    have HBX := Lib.hid (show W.heap[w.heap.size]? = some (.cells #[.int .i8 2, .string p, .slice q ts.length cap, .int .i8 r, .int .i8 (exOp d el), .string (exTm d el).v, .int .i8 (exTm d el).x.k, .int .i64 (exTm d el).x.n, .string (exTm d el).x.t, .slice pl (exLen d el) cl, .int .i8 (exOp d eg), .string (exTm d eg).v, .int .i8 (exTm d eg).x.k, .int .i64 (exTm d eg).x.n, .string (exTm d eg).x.t, .slice pg (exLen d eg) cg] 114 (0, 0)) by rw [hW]; exact heap_alloc_new w _)
    have HB := Lib.hid (Below.refl W.heap.size W)
    rcases hA : atOk p ts with _ | _
    all_goals have HA := Lib.hid hA
    all_goals clear hA
    · have HE := Lib.hid (show ltOk (⟨2, p, ts, .slice q ts.length cap, r, el, eg⟩ : Lt d) = false by rw [HK.out, HA.out]; rfl)
      go_enter Tryz.func53, Tryz.ntmps53
      go_wp2_with fail
      rw [← hW]
      clear hW
      refine (rAtomB p _ ts _ HP.out (HTS'.out.up (HBW.out.trans (HB.out.mono (by omega)))) HTR.out).mono ?_
      rintro e w1 ⟨rfl, hb1⟩
      have hb := HB.out.trans (hb1.mono HB.out.size)
      clear HB hb1
      obtain ⟨x0, x1, x2, x3, x4, x5, x6, x7, x8, x9, x10, x11, x12, x13, x14, x15⟩ := sixteen ((hb.block w.heap.size (by omega)).trans HBX.out)
      have HB := Lib.hid hb; clear hb
      rw [HA.out]
      go_wp2_with fail
      go_ret
      exact ⟨ret_bool HE.out.symm, HBW.out.trans (HB.out.mono (by omega))⟩
    rcases hR : (r == 0) with _ | _
    · have HE := Lib.hid (show ltOk (⟨2, p, ts, .slice q ts.length cap, r, el, eg⟩ : Lt d) = false by rw [HK.out, HA.out, hR]; rfl)
      go_enter Tryz.func53, Tryz.ntmps53
      go_wp2_with fail
      rw [← hW]
      clear hW
      refine (rAtomB p _ ts _ HP.out (HTS'.out.up (HBW.out.trans (HB.out.mono (by omega)))) HTR.out).mono ?_
      rintro e w1 ⟨rfl, hb1⟩
      have hb := HB.out.trans (hb1.mono HB.out.size)
      clear HB hb1
      obtain ⟨x0, x1, x2, x3, x4, x5, x6, x7, x8, x9, x10, x11, x12, x13, x14, x15⟩ := sixteen ((hb.block w.heap.size (by omega)).trans HBX.out)
      have HB := Lib.hid hb; clear hb
      rw [HA.out]
      go_wp2_with fail
      go_ret
      exact ⟨ret_bool HE.out.symm, HBW.out.trans (HB.out.mono (by omega))⟩
    rcases hN : noB (exOp d el) (exTm d el) (exLen d el) with _ | _
    all_goals have HN := Lib.hid hN
    all_goals clear hN
    · have HE := Lib.hid (show ltOk (⟨2, p, ts, .slice q ts.length cap, r, el, eg⟩ : Lt d) = false by rw [HK.out, HA.out, hR, HN.out]; rfl)
      go_enter Tryz.func53, Tryz.ntmps53
      go_wp2_with fail
      rw [← hW]
      clear hW
      refine (rAtomB p _ ts _ HP.out (HTS'.out.up (HBW.out.trans (HB.out.mono (by omega)))) HTR.out).mono ?_
      rintro e w1 ⟨rfl, hb1⟩
      have hb := HB.out.trans (hb1.mono HB.out.size)
      clear HB hb1
      obtain ⟨x0, x1, x2, x3, x4, x5, x6, x7, x8, x9, x10, x11, x12, x13, x14, x15⟩ := sixteen ((hb.block w.heap.size (by omega)).trans HBX.out)
      have HB := Lib.hid hb; clear hb
      rw [HA.out]
      go_wp2_with fail
      refine (rNothing _ _ _ _ _ _ _ _ _).mono ?_
      rintro e w1 ⟨rfl, hb1⟩
      have hb := HB.out.trans (hb1.mono HB.out.size)
      clear HB hb1
      obtain ⟨x0, x1, x2, x3, x4, x5, x6, x7, x8, x9, x10, x11, x12, x13, x14, x15⟩ := sixteen ((hb.block w.heap.size (by omega)).trans HBX.out)
      have HB := Lib.hid hb; clear hb
      rw [show noB (exOp d el) ⟨(exTm d el).v, ⟨(exTm d el).x.k, (exTm d el).x.n, (exTm d el).x.t⟩⟩ (exLen d el) = _ from HN.out]
      go_wp2_with fail
      go_ret
      exact ⟨ret_bool HE.out.symm, HBW.out.trans (HB.out.mono (by omega))⟩
    rcases hM : noB (exOp d eg) (exTm d eg) (exLen d eg) with _ | _
    all_goals have HM := Lib.hid hM
    all_goals clear hM
    · have HE := Lib.hid (show ltOk (⟨2, p, ts, .slice q ts.length cap, r, el, eg⟩ : Lt d) = false by rw [HK.out, HA.out, hR, HN.out, HM.out]; rfl)
      go_enter Tryz.func53, Tryz.ntmps53
      go_wp2_with fail
      rw [← hW]
      clear hW
      refine (rAtomB p _ ts _ HP.out (HTS'.out.up (HBW.out.trans (HB.out.mono (by omega)))) HTR.out).mono ?_
      rintro e w1 ⟨rfl, hb1⟩
      have hb := HB.out.trans (hb1.mono HB.out.size)
      clear HB hb1
      obtain ⟨x0, x1, x2, x3, x4, x5, x6, x7, x8, x9, x10, x11, x12, x13, x14, x15⟩ := sixteen ((hb.block w.heap.size (by omega)).trans HBX.out)
      have HB := Lib.hid hb; clear hb
      rw [HA.out]
      go_wp2_with fail
      refine (rNothing _ _ _ _ _ _ _ _ _).mono ?_
      rintro e w1 ⟨rfl, hb1⟩
      have hb := HB.out.trans (hb1.mono HB.out.size)
      clear HB hb1
      obtain ⟨x0, x1, x2, x3, x4, x5, x6, x7, x8, x9, x10, x11, x12, x13, x14, x15⟩ := sixteen ((hb.block w.heap.size (by omega)).trans HBX.out)
      have HB := Lib.hid hb; clear hb
      rw [show noB (exOp d el) ⟨(exTm d el).v, ⟨(exTm d el).x.k, (exTm d el).x.n, (exTm d el).x.t⟩⟩ (exLen d el) = _ from HN.out]
      go_wp2_with fail
      refine (rNothing _ _ _ _ _ _ _ _ _).mono ?_
      rintro e w1 ⟨rfl, hb1⟩
      have hb := HB.out.trans (hb1.mono HB.out.size)
      clear HB hb1
      obtain ⟨x0, x1, x2, x3, x4, x5, x6, x7, x8, x9, x10, x11, x12, x13, x14, x15⟩ := sixteen ((hb.block w.heap.size (by omega)).trans HBX.out)
      have HB := Lib.hid hb; clear hb
      rw [show noB (exOp d eg) ⟨(exTm d eg).v, ⟨(exTm d eg).x.k, (exTm d eg).x.n, (exTm d eg).x.t⟩⟩ (exLen d eg) = _ from HM.out]
      go_wp2_with fail
      go_ret
      exact ⟨ret_bool HE.out.symm, HBW.out.trans (HB.out.mono (by omega))⟩
    · have HE := Lib.hid (show ltOk (⟨2, p, ts, .slice q ts.length cap, r, el, eg⟩ : Lt d) = true by rw [HK.out, HA.out, hR, HN.out, HM.out]; rfl)
      go_enter Tryz.func53, Tryz.ntmps53
      go_wp2_with fail
      rw [← hW]
      clear hW
      refine (rAtomB p _ ts _ HP.out (HTS'.out.up (HBW.out.trans (HB.out.mono (by omega)))) HTR.out).mono ?_
      rintro e w1 ⟨rfl, hb1⟩
      have hb := HB.out.trans (hb1.mono HB.out.size)
      clear HB hb1
      obtain ⟨x0, x1, x2, x3, x4, x5, x6, x7, x8, x9, x10, x11, x12, x13, x14, x15⟩ := sixteen ((hb.block w.heap.size (by omega)).trans HBX.out)
      have HB := Lib.hid hb; clear hb
      rw [HA.out]
      go_wp2_with fail
      refine (rNothing _ _ _ _ _ _ _ _ _).mono ?_
      rintro e w1 ⟨rfl, hb1⟩
      have hb := HB.out.trans (hb1.mono HB.out.size)
      clear HB hb1
      obtain ⟨x0, x1, x2, x3, x4, x5, x6, x7, x8, x9, x10, x11, x12, x13, x14, x15⟩ := sixteen ((hb.block w.heap.size (by omega)).trans HBX.out)
      have HB := Lib.hid hb; clear hb
      rw [show noB (exOp d el) ⟨(exTm d el).v, ⟨(exTm d el).x.k, (exTm d el).x.n, (exTm d el).x.t⟩⟩ (exLen d el) = _ from HN.out]
      go_wp2_with fail
      refine (rNothing _ _ _ _ _ _ _ _ _).mono ?_
      rintro e w1 ⟨rfl, hb1⟩
      have hb := HB.out.trans (hb1.mono HB.out.size)
      clear HB hb1
      obtain ⟨x0, x1, x2, x3, x4, x5, x6, x7, x8, x9, x10, x11, x12, x13, x14, x15⟩ := sixteen ((hb.block w.heap.size (by omega)).trans HBX.out)
      have HB := Lib.hid hb; clear hb
      rw [show noB (exOp d eg) ⟨(exTm d eg).v, ⟨(exTm d eg).x.k, (exTm d eg).x.n, (exTm d eg).x.t⟩⟩ (exLen d eg) = _ from HM.out]
      go_wp2_with fail
      go_ret
      exact ⟨ret_bool HE.out.symm, HBW.out.trans (HB.out.mono (by omega))⟩
  by_cases hk3 : k = 3
  · subst hk3
    have HK := Lib.hid (HK0.out.trans ((if_neg (by decide)).trans (if_pos rfl))); clear HK0
    obtain ⟨W, hW⟩ : ∃ W, W = w.alloc (.cells #[.int .i8 3, .string p, .slice q ts.length cap, .int .i8 r, .int .i8 (exOp d el), .string (exTm d el).v, .int .i8 (exTm d el).x.k, .int .i64 (exTm d el).x.n, .string (exTm d el).x.t, .slice pl (exLen d el) cl, .int .i8 (exOp d eg), .string (exTm d eg).v, .int .i8 (exTm d eg).x.k, .int .i64 (exTm d eg).x.n, .string (exTm d eg).x.t, .slice pg (exLen d eg) cg] 114) := ⟨_, rfl⟩
    have HBW := Lib.hid (show Below w.heap.size w W by rw [hW]; exact below_alloc _ _)
    have hsW : W.heap.size = w.heap.size + 1 := by rw [hW]; simp
    have HBX := Lib.hid (show W.heap[w.heap.size]? = some (.cells #[.int .i8 3, .string p, .slice q ts.length cap, .int .i8 r, .int .i8 (exOp d el), .string (exTm d el).v, .int .i8 (exTm d el).x.k, .int .i64 (exTm d el).x.n, .string (exTm d el).x.t, .slice pl (exLen d el) cl, .int .i8 (exOp d eg), .string (exTm d eg).v, .int .i8 (exTm d eg).x.k, .int .i64 (exTm d eg).x.n, .string (exTm d eg).x.t, .slice pg (exLen d eg) cg] 114 (0, 0)) by rw [hW]; exact heap_alloc_new w _)
    have HB := Lib.hid (Below.refl W.heap.size W)
    rcases hP : (bl p).isEmpty with _ | _
    all_goals have hP1 := hP
    all_goals rw [bl, ← ByteArray.toList_eq] at hP1
    all_goals have HPE := Lib.hid hP
    all_goals clear hP
    · have hP2 : (p.toList == []) = false := by simpa using hP1
      have HE := Lib.hid (show ltOk (⟨3, p, ts, .slice q ts.length cap, r, el, eg⟩ : Lt d) = false by rw [HK.out, HPE.out]; simp)
      go_enter Tryz.func53, Tryz.ntmps53
      go_wp2_with fail
      rw [← hW]
      clear hW
      go_ret
      exact ⟨ret_bool HE.out.symm, HBW.out.trans (HB.out.mono (by omega))⟩
    have hP2 : (p.toList == []) = true := by simpa using hP1
    by_cases hL : ts.length = 0
    · have hL1 : ((ts.length : Int) == 0) = true := beq_iff_eq.2 (by omega)
      have hL2 : decide (0 < ts.length) = false := decide_eq_false (by omega)
      have HD := Lib.hid (show decide (ts.length = 0) = true from decide_eq_true hL)
      clear hL
      by_cases h1 : 1 ≤ r
      · have h1a : decide ((1 : Int) ≤ r) = true := decide_eq_true h1
        have h1b : decide (r < (1 : Int)) = false := decide_eq_false (by omega)
        by_cases h6 : r ≤ 6
        · have h6a : decide (r ≤ (6 : Int)) = true := decide_eq_true h6
          have h6b : decide ((6 : Int) < r) = false := decide_eq_false (by omega)
          rcases hE : exOk 8 d el with _ | _
          all_goals have HEL := Lib.hid hE
          all_goals clear hE
          · have HE := Lib.hid (show ltOk (⟨3, p, ts, .slice q ts.length cap, r, el, eg⟩ : Lt d) = false by rw [HK.out, HPE.out, HD.out, h1a, h6a, HEL.out]; simp)
            go_enter Tryz.func53, Tryz.ntmps53
            go_wp2_with fail
            rw [← hW]
            clear hW
            rw [← HSL.out]
            refine (chk_all d el 8 8 _ (by omega) rfl (ExAt.up (HBW.out.trans (HB.out.mono (by omega))) d el HLA.out) HLR.out).mono ?_
            rintro e w1 ⟨rfl, hb1⟩
            have hb := HB.out.trans (hb1.mono HB.out.size)
            clear HB hb1
            obtain ⟨x0, x1, x2, x3, x4, x5, x6, x7, x8, x9, x10, x11, x12, x13, x14, x15⟩ := sixteen ((hb.block w.heap.size (by omega)).trans HBX.out)
            have HB := Lib.hid hb; clear hb
            rw [HEL.out]
            go_wp2_with fail
            go_ret
            exact ⟨ret_bool HE.out.symm, HBW.out.trans (HB.out.mono (by omega))⟩
          rcases hF : exOk 8 d eg with _ | _
          all_goals have HEG := Lib.hid hF
          all_goals clear hF
          · have HE := Lib.hid (show ltOk (⟨3, p, ts, .slice q ts.length cap, r, el, eg⟩ : Lt d) = false by rw [HK.out, HPE.out, HD.out, h1a, h6a, HEL.out, HEG.out]; simp)
            go_enter Tryz.func53, Tryz.ntmps53
            go_wp2_with fail
            rw [← hW]
            clear hW
            rw [← HSL.out]
            refine (chk_all d el 8 8 _ (by omega) rfl (ExAt.up (HBW.out.trans (HB.out.mono (by omega))) d el HLA.out) HLR.out).mono ?_
            rintro e w1 ⟨rfl, hb1⟩
            have hb := HB.out.trans (hb1.mono HB.out.size)
            clear HB hb1
            obtain ⟨x0, x1, x2, x3, x4, x5, x6, x7, x8, x9, x10, x11, x12, x13, x14, x15⟩ := sixteen ((hb.block w.heap.size (by omega)).trans HBX.out)
            have HB := Lib.hid hb; clear hb
            rw [HEL.out]
            go_wp2_with fail
            rw [← HSG.out]
            refine (chk_all d eg 8 8 _ (by omega) rfl (ExAt.up (HBW.out.trans (HB.out.mono (by omega))) d eg HGA.out) HGR.out).mono ?_
            rintro e w1 ⟨rfl, hb1⟩
            have hb := HB.out.trans (hb1.mono HB.out.size)
            clear HB hb1
            obtain ⟨x0, x1, x2, x3, x4, x5, x6, x7, x8, x9, x10, x11, x12, x13, x14, x15⟩ := sixteen ((hb.block w.heap.size (by omega)).trans HBX.out)
            have HB := Lib.hid hb; clear hb
            rw [HEG.out]
            go_wp2_with fail
            go_ret
            exact ⟨ret_bool HE.out.symm, HBW.out.trans (HB.out.mono (by omega))⟩
          · have HE := Lib.hid (show ltOk (⟨3, p, ts, .slice q ts.length cap, r, el, eg⟩ : Lt d) = true by rw [HK.out, HPE.out, HD.out, h1a, h6a, HEL.out, HEG.out]; simp)
            go_enter Tryz.func53, Tryz.ntmps53
            go_wp2_with fail
            rw [← hW]
            clear hW
            rw [← HSL.out]
            refine (chk_all d el 8 8 _ (by omega) rfl (ExAt.up (HBW.out.trans (HB.out.mono (by omega))) d el HLA.out) HLR.out).mono ?_
            rintro e w1 ⟨rfl, hb1⟩
            have hb := HB.out.trans (hb1.mono HB.out.size)
            clear HB hb1
            obtain ⟨x0, x1, x2, x3, x4, x5, x6, x7, x8, x9, x10, x11, x12, x13, x14, x15⟩ := sixteen ((hb.block w.heap.size (by omega)).trans HBX.out)
            have HB := Lib.hid hb; clear hb
            rw [HEL.out]
            go_wp2_with fail
            rw [← HSG.out]
            refine (chk_all d eg 8 8 _ (by omega) rfl (ExAt.up (HBW.out.trans (HB.out.mono (by omega))) d eg HGA.out) HGR.out).mono ?_
            rintro e w1 ⟨rfl, hb1⟩
            have hb := HB.out.trans (hb1.mono HB.out.size)
            clear HB hb1
            obtain ⟨x0, x1, x2, x3, x4, x5, x6, x7, x8, x9, x10, x11, x12, x13, x14, x15⟩ := sixteen ((hb.block w.heap.size (by omega)).trans HBX.out)
            have HB := Lib.hid hb; clear hb
            rw [HEG.out]
            go_wp2_with fail
            go_ret
            exact ⟨ret_bool HE.out.symm, HBW.out.trans (HB.out.mono (by omega))⟩
        · have h6a : decide (r ≤ (6 : Int)) = false := decide_eq_false h6
          have h6b : decide ((6 : Int) < r) = true := decide_eq_true (by omega)
          have HE := Lib.hid (show ltOk (⟨3, p, ts, .slice q ts.length cap, r, el, eg⟩ : Lt d) = false by rw [HK.out, HPE.out, HD.out, h1a, h6a]; simp)
          go_enter Tryz.func53, Tryz.ntmps53
          go_wp2_with fail
          rw [← hW]
          clear hW
          go_ret
          exact ⟨ret_bool HE.out.symm, HBW.out.trans (HB.out.mono (by omega))⟩
      · have h1a : decide ((1 : Int) ≤ r) = false := decide_eq_false h1
        have h1b : decide (r < (1 : Int)) = true := decide_eq_true (by omega)
        have HE := Lib.hid (show ltOk (⟨3, p, ts, .slice q ts.length cap, r, el, eg⟩ : Lt d) = false by rw [HK.out, HPE.out, HD.out, h1a]; simp)
        go_enter Tryz.func53, Tryz.ntmps53
        go_wp2_with fail
        rw [← hW]
        clear hW
        go_ret
        exact ⟨ret_bool HE.out.symm, HBW.out.trans (HB.out.mono (by omega))⟩
    · have hL1 : ((ts.length : Int) == 0) = false := beq_eq_false_iff_ne.2 (by omega)
      have hL2 : decide (0 < ts.length) = true := decide_eq_true (by omega)
      have HD := Lib.hid (show decide (ts.length = 0) = false from decide_eq_false hL)
      clear hL
      have HE := Lib.hid (show ltOk (⟨3, p, ts, .slice q ts.length cap, r, el, eg⟩ : Lt d) = false by rw [HK.out, HPE.out, HD.out]; simp)
      go_enter Tryz.func53, Tryz.ntmps53
      go_wp2_with fail
      rw [← hW]
      clear hW
      go_ret
      exact ⟨ret_bool HE.out.symm, HBW.out.trans (HB.out.mono (by omega))⟩
  have q1 : (k == 1) = false := beq_eq_false_iff_ne.2 hk1
  have q2 : (k == 2) = false := beq_eq_false_iff_ne.2 hk2
  have q3 : (k == 3) = false := beq_eq_false_iff_ne.2 hk3
  have HE := Lib.hid (HK0.out.trans ((if_neg (by omega)).trans (if_neg hk3))); clear HK0 hk1 hk2 hk3
  go_enter Tryz.func53, Tryz.ntmps53
  go_wp2_with fail
  go_ret
  exact ⟨ret_bool HE.out.symm, below_alloc _ _⟩
set_option maxHeartbeats 8000000 in
set_option maxRecDepth 100000 in
theorem tLit (d : Nat) (x : Lt d) (w : World) (hx : LtAt w x) (hr : LtR x) :
    Calls Tryz.prog 68 #[.agg #[.int .i8 x.k, .string x.p, x.sv, .int .i8 x.r, .int .i8 (exOp d x.l), .string (exTm d x.l).v, .int .i8 (exTm d x.l).x.k, .int .i64 (exTm d x.l).x.n, .string (exTm d x.l).x.t, exSl d x.l, .int .i8 (exOp d x.g), .string (exTm d x.g).v, .int .i8 (exTm d x.g).x.k, .int .i64 (exTm d x.g).x.n, .string (exTm d x.g).x.t, exSl d x.g]] w fun e w' => e = .returned (.int .i64 (okCode (ltOk x) 40)) ∧ Below w.heap.size w w' := by
  obtain ⟨k, p, ts, sv, r, el, eg⟩ := x
  obtain ⟨hat, hl, hg⟩ := hx
  obtain ⟨hp, htr, hlr, hgr⟩ := hr
  have HTS := Lib.hid hat
  obtain ⟨q, cap, hsv, _, _⟩ := hat
  obtain ⟨pl, cl, hsl⟩ := ex_sl2 hl
  obtain ⟨pg, cg, hsg⟩ := ex_sl2 hg
  have hsv' : sv = .slice q ts.length cap := hsv
  clear hsv
  subst hsv'
  have HP := Lib.hid (show p.size ≤ maxLen from hp); clear hp
  have HTR := Lib.hid (show TmsR ts from htr); clear htr
  have HLR := Lib.hid (show ExR d el from hlr); clear hlr
  have HGR := Lib.hid (show ExR d eg from hgr); clear hgr
  have HLA := Lib.hid (show ExAt w d el from hl); clear hl
  have HGA := Lib.hid (show ExAt w d eg from hg); clear hg
  have HSL := Lib.hid (show exSl d el = .slice pl (exLen d el) cl from hsl)
  have HSG := Lib.hid (show exSl d eg = .slice pg (exLen d eg) cg from hsg)
  have HTS' := Lib.hid (show TmSl w (.slice q ts.length cap) ts from HTS.out); clear HTS
  simp only at hsl hsg ⊢
  rw [hsl, hsg]
  clear hsl hsg
  have HK0 := Lib.hid (show ltOk (⟨k, p, ts, .slice q ts.length cap, r, el, eg⟩ : Lt d) = (if k = 1 ∨ k = 2 then atOk p ts && (r == 0) && noB (exOp d el) (exTm d el) (exLen d el) && noB (exOp d eg) (exTm d eg) (exLen d eg)
    else if k = 3 then (bl p).isEmpty && decide (ts.length = 0) && decide (1 ≤ r) && decide (r ≤ 6) && exOk 8 d el && exOk 8 d eg else false) from rfl)
  by_cases hk1 : k = 1
  · subst hk1
    have HK := Lib.hid (HK0.out.trans (if_pos (by decide))); clear HK0
    by_cases hR0 : r = 0
    · subst hR0
      obtain ⟨W, hW⟩ : ∃ W, W = w.alloc (.cells #[.int .i8 1, .string p, .slice q ts.length cap, .int .i8 0, .int .i8 (exOp d el), .string (exTm d el).v, .int .i8 (exTm d el).x.k, .int .i64 (exTm d el).x.n, .string (exTm d el).x.t, .slice pl (exLen d el) cl, .int .i8 (exOp d eg), .string (exTm d eg).v, .int .i8 (exTm d eg).x.k, .int .i64 (exTm d eg).x.n, .string (exTm d eg).x.t, .slice pg (exLen d eg) cg] 114) := ⟨_, rfl⟩
      have HBW := Lib.hid (show Below w.heap.size w W by rw [hW]; exact below_alloc _ _)
      have hsW : W.heap.size = w.heap.size + 1 := by rw [hW]; simp
      have HBX := Lib.hid (show W.heap[w.heap.size]? = some (.cells #[.int .i8 1, .string p, .slice q ts.length cap, .int .i8 0, .int .i8 (exOp d el), .string (exTm d el).v, .int .i8 (exTm d el).x.k, .int .i64 (exTm d el).x.n, .string (exTm d el).x.t, .slice pl (exLen d el) cl, .int .i8 (exOp d eg), .string (exTm d eg).v, .int .i8 (exTm d eg).x.k, .int .i64 (exTm d eg).x.n, .string (exTm d eg).x.t, .slice pg (exLen d eg) cg] 114 (0, 0)) by rw [hW]; exact heap_alloc_new w _)
      have HB := Lib.hid (Below.refl W.heap.size W)
      rcases hN : noB (exOp d el) (exTm d el) (exLen d el) with _ | _
      all_goals have HN := Lib.hid hN
      all_goals clear hN
      · have HE := Lib.hid (show ltOk (⟨1, p, ts, .slice q ts.length cap, 0, el, eg⟩ : Lt d) = false by rw [HK.out, HN.out]; simp)
        go_enter Tryz.func68, Tryz.ntmps68
        go_wp2_with fail
        rw [← hW]
        clear hW
        refine (tEmpty _ _ _ _ _ _ _ _ _).mono ?_
        rintro e w1 ⟨rfl, hb1⟩
        have hb := HB.out.trans (hb1.mono HB.out.size)
        clear HB hb1
        obtain ⟨x0, x1, x2, x3, x4, x5, x6, x7, x8, x9, x10, x11, x12, x13, x14, x15⟩ := sixteen ((hb.block w.heap.size (by omega)).trans HBX.out)
        have HB := Lib.hid hb; clear hb
        rw [show noB (exOp d el) ⟨(exTm d el).v, ⟨(exTm d el).x.k, (exTm d el).x.n, (exTm d el).x.t⟩⟩ (exLen d el) = _ from HN.out]
        go_wp2_with fail
        go_ret
        exact ⟨ret_int (by rw [HE.out]; rfl), HBW.out.trans (HB.out.mono (by omega))⟩
      rcases hM : noB (exOp d eg) (exTm d eg) (exLen d eg) with _ | _
      all_goals have HM := Lib.hid hM
      all_goals clear hM
      · have HE := Lib.hid (show ltOk (⟨1, p, ts, .slice q ts.length cap, 0, el, eg⟩ : Lt d) = false by rw [HK.out, HN.out, HM.out]; simp)
        go_enter Tryz.func68, Tryz.ntmps68
        go_wp2_with fail
        rw [← hW]
        clear hW
        refine (tEmpty _ _ _ _ _ _ _ _ _).mono ?_
        rintro e w1 ⟨rfl, hb1⟩
        have hb := HB.out.trans (hb1.mono HB.out.size)
        clear HB hb1
        obtain ⟨x0, x1, x2, x3, x4, x5, x6, x7, x8, x9, x10, x11, x12, x13, x14, x15⟩ := sixteen ((hb.block w.heap.size (by omega)).trans HBX.out)
        have HB := Lib.hid hb; clear hb
        rw [show noB (exOp d el) ⟨(exTm d el).v, ⟨(exTm d el).x.k, (exTm d el).x.n, (exTm d el).x.t⟩⟩ (exLen d el) = _ from HN.out]
        go_wp2_with fail
        refine (tEmpty _ _ _ _ _ _ _ _ _).mono ?_
        rintro e w1 ⟨rfl, hb1⟩
        have hb := HB.out.trans (hb1.mono HB.out.size)
        clear HB hb1
        obtain ⟨x0, x1, x2, x3, x4, x5, x6, x7, x8, x9, x10, x11, x12, x13, x14, x15⟩ := sixteen ((hb.block w.heap.size (by omega)).trans HBX.out)
        have HB := Lib.hid hb; clear hb
        rw [show noB (exOp d eg) ⟨(exTm d eg).v, ⟨(exTm d eg).x.k, (exTm d eg).x.n, (exTm d eg).x.t⟩⟩ (exLen d eg) = _ from HM.out]
        go_wp2_with fail
        go_ret
        exact ⟨ret_int (by rw [HE.out]; rfl), HBW.out.trans (HB.out.mono (by omega))⟩
      · have HE := Lib.hid (show ltOk (⟨1, p, ts, .slice q ts.length cap, 0, el, eg⟩ : Lt d) = atOk p ts by rw [HK.out, HN.out, HM.out]; simp)
        go_enter Tryz.func68, Tryz.ntmps68
        go_wp2_with fail
        rw [← hW]
        clear hW
        refine (tEmpty _ _ _ _ _ _ _ _ _).mono ?_
        rintro e w1 ⟨rfl, hb1⟩
        have hb := HB.out.trans (hb1.mono HB.out.size)
        clear HB hb1
        obtain ⟨x0, x1, x2, x3, x4, x5, x6, x7, x8, x9, x10, x11, x12, x13, x14, x15⟩ := sixteen ((hb.block w.heap.size (by omega)).trans HBX.out)
        have HB := Lib.hid hb; clear hb
        rw [show noB (exOp d el) ⟨(exTm d el).v, ⟨(exTm d el).x.k, (exTm d el).x.n, (exTm d el).x.t⟩⟩ (exLen d el) = _ from HN.out]
        go_wp2_with fail
        refine (tEmpty _ _ _ _ _ _ _ _ _).mono ?_
        rintro e w1 ⟨rfl, hb1⟩
        have hb := HB.out.trans (hb1.mono HB.out.size)
        clear HB hb1
        obtain ⟨x0, x1, x2, x3, x4, x5, x6, x7, x8, x9, x10, x11, x12, x13, x14, x15⟩ := sixteen ((hb.block w.heap.size (by omega)).trans HBX.out)
        have HB := Lib.hid hb; clear hb
        rw [show noB (exOp d eg) ⟨(exTm d eg).v, ⟨(exTm d eg).x.k, (exTm d eg).x.n, (exTm d eg).x.t⟩⟩ (exLen d eg) = _ from HM.out]
        go_wp2_with fail
        refine (tCheckAtom p _ ts _ HP.out (HTS'.out.up (HBW.out.trans (HB.out.mono (by omega)))) HTR.out).mono ?_
        rintro e w1 ⟨rfl, hb1⟩
        have hb := HB.out.trans (hb1.mono HB.out.size)
        clear HB hb1
        obtain ⟨x0, x1, x2, x3, x4, x5, x6, x7, x8, x9, x10, x11, x12, x13, x14, x15⟩ := sixteen ((hb.block w.heap.size (by omega)).trans HBX.out)
        have HB := Lib.hid hb; clear hb
        go_wp2_with fail
        go_ret
        exact ⟨ret_int (by rw [HE.out]), HBW.out.trans (HB.out.mono (by omega))⟩
    have hR : (r == 0) = false := beq_eq_false_iff_ne.2 hR0
    have hR1 : (r != 0) = true := by simp [bne, hR]
    obtain ⟨W, hW⟩ : ∃ W, W = w.alloc (.cells #[.int .i8 1, .string p, .slice q ts.length cap, .int .i8 r, .int .i8 (exOp d el), .string (exTm d el).v, .int .i8 (exTm d el).x.k, .int .i64 (exTm d el).x.n, .string (exTm d el).x.t, .slice pl (exLen d el) cl, .int .i8 (exOp d eg), .string (exTm d eg).v, .int .i8 (exTm d eg).x.k, .int .i64 (exTm d eg).x.n, .string (exTm d eg).x.t, .slice pg (exLen d eg) cg] 114) := ⟨_, rfl⟩
    have HBW := Lib.hid (show Below w.heap.size w W by rw [hW]; exact below_alloc _ _)
    have hsW : W.heap.size = w.heap.size + 1 := by rw [hW]; simp
    have HBX := Lib.hid (show W.heap[w.heap.size]? = some (.cells #[.int .i8 1, .string p, .slice q ts.length cap, .int .i8 r, .int .i8 (exOp d el), .string (exTm d el).v, .int .i8 (exTm d el).x.k, .int .i64 (exTm d el).x.n, .string (exTm d el).x.t, .slice pl (exLen d el) cl, .int .i8 (exOp d eg), .string (exTm d eg).v, .int .i8 (exTm d eg).x.k, .int .i64 (exTm d eg).x.n, .string (exTm d eg).x.t, .slice pg (exLen d eg) cg] 114 (0, 0)) by rw [hW]; exact heap_alloc_new w _)
    have HB := Lib.hid (Below.refl W.heap.size W)
    have HE := Lib.hid (show ltOk (⟨1, p, ts, .slice q ts.length cap, r, el, eg⟩ : Lt d) = false by rw [HK.out, hR]; simp)
    go_enter Tryz.func68, Tryz.ntmps68
    go_wp2_with fail
    rw [← hW]
    clear hW
    go_ret
    exact ⟨ret_int (by rw [HE.out]; rfl), HBW.out.trans (HB.out.mono (by omega))⟩
  by_cases hk2 : k = 2
  · subst hk2
    have HK := Lib.hid (HK0.out.trans (if_pos (by decide))); clear HK0
    by_cases hR0 : r = 0
    · subst hR0
      obtain ⟨W, hW⟩ : ∃ W, W = w.alloc (.cells #[.int .i8 2, .string p, .slice q ts.length cap, .int .i8 0, .int .i8 (exOp d el), .string (exTm d el).v, .int .i8 (exTm d el).x.k, .int .i64 (exTm d el).x.n, .string (exTm d el).x.t, .slice pl (exLen d el) cl, .int .i8 (exOp d eg), .string (exTm d eg).v, .int .i8 (exTm d eg).x.k, .int .i64 (exTm d eg).x.n, .string (exTm d eg).x.t, .slice pg (exLen d eg) cg] 114) := ⟨_, rfl⟩
      have HBW := Lib.hid (show Below w.heap.size w W by rw [hW]; exact below_alloc _ _)
      have hsW : W.heap.size = w.heap.size + 1 := by rw [hW]; simp
      have HBX := Lib.hid (show W.heap[w.heap.size]? = some (.cells #[.int .i8 2, .string p, .slice q ts.length cap, .int .i8 0, .int .i8 (exOp d el), .string (exTm d el).v, .int .i8 (exTm d el).x.k, .int .i64 (exTm d el).x.n, .string (exTm d el).x.t, .slice pl (exLen d el) cl, .int .i8 (exOp d eg), .string (exTm d eg).v, .int .i8 (exTm d eg).x.k, .int .i64 (exTm d eg).x.n, .string (exTm d eg).x.t, .slice pg (exLen d eg) cg] 114 (0, 0)) by rw [hW]; exact heap_alloc_new w _)
      have HB := Lib.hid (Below.refl W.heap.size W)
      rcases hN : noB (exOp d el) (exTm d el) (exLen d el) with _ | _
      all_goals have HN := Lib.hid hN
      all_goals clear hN
      · have HE := Lib.hid (show ltOk (⟨2, p, ts, .slice q ts.length cap, 0, el, eg⟩ : Lt d) = false by rw [HK.out, HN.out]; simp)
        go_enter Tryz.func68, Tryz.ntmps68
        go_wp2_with fail
        rw [← hW]
        clear hW
        refine (tEmpty _ _ _ _ _ _ _ _ _).mono ?_
        rintro e w1 ⟨rfl, hb1⟩
        have hb := HB.out.trans (hb1.mono HB.out.size)
        clear HB hb1
        obtain ⟨x0, x1, x2, x3, x4, x5, x6, x7, x8, x9, x10, x11, x12, x13, x14, x15⟩ := sixteen ((hb.block w.heap.size (by omega)).trans HBX.out)
        have HB := Lib.hid hb; clear hb
        rw [show noB (exOp d el) ⟨(exTm d el).v, ⟨(exTm d el).x.k, (exTm d el).x.n, (exTm d el).x.t⟩⟩ (exLen d el) = _ from HN.out]
        go_wp2_with fail
        go_ret
        exact ⟨ret_int (by rw [HE.out]; rfl), HBW.out.trans (HB.out.mono (by omega))⟩
      rcases hM : noB (exOp d eg) (exTm d eg) (exLen d eg) with _ | _
      all_goals have HM := Lib.hid hM
      all_goals clear hM
      · have HE := Lib.hid (show ltOk (⟨2, p, ts, .slice q ts.length cap, 0, el, eg⟩ : Lt d) = false by rw [HK.out, HN.out, HM.out]; simp)
        go_enter Tryz.func68, Tryz.ntmps68
        go_wp2_with fail
        rw [← hW]
        clear hW
        refine (tEmpty _ _ _ _ _ _ _ _ _).mono ?_
        rintro e w1 ⟨rfl, hb1⟩
        have hb := HB.out.trans (hb1.mono HB.out.size)
        clear HB hb1
        obtain ⟨x0, x1, x2, x3, x4, x5, x6, x7, x8, x9, x10, x11, x12, x13, x14, x15⟩ := sixteen ((hb.block w.heap.size (by omega)).trans HBX.out)
        have HB := Lib.hid hb; clear hb
        rw [show noB (exOp d el) ⟨(exTm d el).v, ⟨(exTm d el).x.k, (exTm d el).x.n, (exTm d el).x.t⟩⟩ (exLen d el) = _ from HN.out]
        go_wp2_with fail
        refine (tEmpty _ _ _ _ _ _ _ _ _).mono ?_
        rintro e w1 ⟨rfl, hb1⟩
        have hb := HB.out.trans (hb1.mono HB.out.size)
        clear HB hb1
        obtain ⟨x0, x1, x2, x3, x4, x5, x6, x7, x8, x9, x10, x11, x12, x13, x14, x15⟩ := sixteen ((hb.block w.heap.size (by omega)).trans HBX.out)
        have HB := Lib.hid hb; clear hb
        rw [show noB (exOp d eg) ⟨(exTm d eg).v, ⟨(exTm d eg).x.k, (exTm d eg).x.n, (exTm d eg).x.t⟩⟩ (exLen d eg) = _ from HM.out]
        go_wp2_with fail
        go_ret
        exact ⟨ret_int (by rw [HE.out]; rfl), HBW.out.trans (HB.out.mono (by omega))⟩
      · have HE := Lib.hid (show ltOk (⟨2, p, ts, .slice q ts.length cap, 0, el, eg⟩ : Lt d) = atOk p ts by rw [HK.out, HN.out, HM.out]; simp)
        go_enter Tryz.func68, Tryz.ntmps68
        go_wp2_with fail
        rw [← hW]
        clear hW
        refine (tEmpty _ _ _ _ _ _ _ _ _).mono ?_
        rintro e w1 ⟨rfl, hb1⟩
        have hb := HB.out.trans (hb1.mono HB.out.size)
        clear HB hb1
        obtain ⟨x0, x1, x2, x3, x4, x5, x6, x7, x8, x9, x10, x11, x12, x13, x14, x15⟩ := sixteen ((hb.block w.heap.size (by omega)).trans HBX.out)
        have HB := Lib.hid hb; clear hb
        rw [show noB (exOp d el) ⟨(exTm d el).v, ⟨(exTm d el).x.k, (exTm d el).x.n, (exTm d el).x.t⟩⟩ (exLen d el) = _ from HN.out]
        go_wp2_with fail
        refine (tEmpty _ _ _ _ _ _ _ _ _).mono ?_
        rintro e w1 ⟨rfl, hb1⟩
        have hb := HB.out.trans (hb1.mono HB.out.size)
        clear HB hb1
        obtain ⟨x0, x1, x2, x3, x4, x5, x6, x7, x8, x9, x10, x11, x12, x13, x14, x15⟩ := sixteen ((hb.block w.heap.size (by omega)).trans HBX.out)
        have HB := Lib.hid hb; clear hb
        rw [show noB (exOp d eg) ⟨(exTm d eg).v, ⟨(exTm d eg).x.k, (exTm d eg).x.n, (exTm d eg).x.t⟩⟩ (exLen d eg) = _ from HM.out]
        go_wp2_with fail
        refine (tCheckAtom p _ ts _ HP.out (HTS'.out.up (HBW.out.trans (HB.out.mono (by omega)))) HTR.out).mono ?_
        rintro e w1 ⟨rfl, hb1⟩
        have hb := HB.out.trans (hb1.mono HB.out.size)
        clear HB hb1
        obtain ⟨x0, x1, x2, x3, x4, x5, x6, x7, x8, x9, x10, x11, x12, x13, x14, x15⟩ := sixteen ((hb.block w.heap.size (by omega)).trans HBX.out)
        have HB := Lib.hid hb; clear hb
        go_wp2_with fail
        go_ret
        exact ⟨ret_int (by rw [HE.out]), HBW.out.trans (HB.out.mono (by omega))⟩
    have hR : (r == 0) = false := beq_eq_false_iff_ne.2 hR0
    have hR1 : (r != 0) = true := by simp [bne, hR]
    obtain ⟨W, hW⟩ : ∃ W, W = w.alloc (.cells #[.int .i8 2, .string p, .slice q ts.length cap, .int .i8 r, .int .i8 (exOp d el), .string (exTm d el).v, .int .i8 (exTm d el).x.k, .int .i64 (exTm d el).x.n, .string (exTm d el).x.t, .slice pl (exLen d el) cl, .int .i8 (exOp d eg), .string (exTm d eg).v, .int .i8 (exTm d eg).x.k, .int .i64 (exTm d eg).x.n, .string (exTm d eg).x.t, .slice pg (exLen d eg) cg] 114) := ⟨_, rfl⟩
    have HBW := Lib.hid (show Below w.heap.size w W by rw [hW]; exact below_alloc _ _)
    have hsW : W.heap.size = w.heap.size + 1 := by rw [hW]; simp
    have HBX := Lib.hid (show W.heap[w.heap.size]? = some (.cells #[.int .i8 2, .string p, .slice q ts.length cap, .int .i8 r, .int .i8 (exOp d el), .string (exTm d el).v, .int .i8 (exTm d el).x.k, .int .i64 (exTm d el).x.n, .string (exTm d el).x.t, .slice pl (exLen d el) cl, .int .i8 (exOp d eg), .string (exTm d eg).v, .int .i8 (exTm d eg).x.k, .int .i64 (exTm d eg).x.n, .string (exTm d eg).x.t, .slice pg (exLen d eg) cg] 114 (0, 0)) by rw [hW]; exact heap_alloc_new w _)
    have HB := Lib.hid (Below.refl W.heap.size W)
    have HE := Lib.hid (show ltOk (⟨2, p, ts, .slice q ts.length cap, r, el, eg⟩ : Lt d) = false by rw [HK.out, hR]; simp)
    go_enter Tryz.func68, Tryz.ntmps68
    go_wp2_with fail
    rw [← hW]
    clear hW
    go_ret
    exact ⟨ret_int (by rw [HE.out]; rfl), HBW.out.trans (HB.out.mono (by omega))⟩
  by_cases hk3 : k = 3
  · subst hk3
    have HK := Lib.hid (HK0.out.trans ((if_neg (by decide)).trans (if_pos rfl))); clear HK0
    obtain ⟨W, hW⟩ : ∃ W, W = w.alloc (.cells #[.int .i8 3, .string p, .slice q ts.length cap, .int .i8 r, .int .i8 (exOp d el), .string (exTm d el).v, .int .i8 (exTm d el).x.k, .int .i64 (exTm d el).x.n, .string (exTm d el).x.t, .slice pl (exLen d el) cl, .int .i8 (exOp d eg), .string (exTm d eg).v, .int .i8 (exTm d eg).x.k, .int .i64 (exTm d eg).x.n, .string (exTm d eg).x.t, .slice pg (exLen d eg) cg] 114) := ⟨_, rfl⟩
    have HBW := Lib.hid (show Below w.heap.size w W by rw [hW]; exact below_alloc _ _)
    have hsW : W.heap.size = w.heap.size + 1 := by rw [hW]; simp
    have HBX := Lib.hid (show W.heap[w.heap.size]? = some (.cells #[.int .i8 3, .string p, .slice q ts.length cap, .int .i8 r, .int .i8 (exOp d el), .string (exTm d el).v, .int .i8 (exTm d el).x.k, .int .i64 (exTm d el).x.n, .string (exTm d el).x.t, .slice pl (exLen d el) cl, .int .i8 (exOp d eg), .string (exTm d eg).v, .int .i8 (exTm d eg).x.k, .int .i64 (exTm d eg).x.n, .string (exTm d eg).x.t, .slice pg (exLen d eg) cg] 114 (0, 0)) by rw [hW]; exact heap_alloc_new w _)
    have HB := Lib.hid (Below.refl W.heap.size W)
    rcases hP : (bl p).isEmpty with _ | _
    all_goals have hP1 := hP
    all_goals rw [bl, ← ByteArray.toList_eq] at hP1
    all_goals have HPE := Lib.hid hP
    all_goals clear hP
    · have hP2 : (p.toList == []) = false := by simpa using hP1
      have HE := Lib.hid (show ltOk (⟨3, p, ts, .slice q ts.length cap, r, el, eg⟩ : Lt d) = false by rw [HK.out, HPE.out]; simp)
      go_enter Tryz.func68, Tryz.ntmps68
      go_wp2_with fail
      rw [← hW]
      clear hW
      go_ret
      exact ⟨ret_int (by rw [HE.out]; rfl), HBW.out.trans (HB.out.mono (by omega))⟩
    have hP2 : (p.toList == []) = true := by simpa using hP1
    by_cases hL : ts.length = 0
    · have hL1 : ((ts.length : Int) == 0) = true := beq_iff_eq.2 (by omega)
      have hL2 : decide (0 < ts.length) = false := decide_eq_false (by omega)
      have HD := Lib.hid (show decide (ts.length = 0) = true from decide_eq_true hL)
      clear hL
      by_cases h1 : 1 ≤ r
      · have h1a : decide ((1 : Int) ≤ r) = true := decide_eq_true h1
        have h1b : decide (r < (1 : Int)) = false := decide_eq_false (by omega)
        by_cases h6 : r ≤ 6
        · have h6a : decide (r ≤ (6 : Int)) = true := decide_eq_true h6
          have h6b : decide ((6 : Int) < r) = false := decide_eq_false (by omega)
          rcases hE : exOk 8 d el with _ | _
          all_goals have HEL := Lib.hid hE
          all_goals clear hE
          · have HE := Lib.hid (show ltOk (⟨3, p, ts, .slice q ts.length cap, r, el, eg⟩ : Lt d) = false by rw [HK.out, HPE.out, HD.out, h1a, h6a, HEL.out]; simp)
            go_enter Tryz.func68, Tryz.ntmps68
            go_wp2_with fail
            rw [← hW]
            clear hW
            rw [← HSL.out]
            refine (tCheckExpr d el _ (ExAt.up (HBW.out.trans (HB.out.mono (by omega))) d el HLA.out) HLR.out).mono ?_
            rintro e w1 ⟨rfl, hb1⟩
            have hb := HB.out.trans (hb1.mono HB.out.size)
            clear HB hb1
            obtain ⟨x0, x1, x2, x3, x4, x5, x6, x7, x8, x9, x10, x11, x12, x13, x14, x15⟩ := sixteen ((hb.block w.heap.size (by omega)).trans HBX.out)
            have HB := Lib.hid hb; clear hb
            rw [HEL.out, show okCode false 40 = 40 from rfl]
            go_wp2_with fail
            go_ret
            exact ⟨ret_int (by rw [HE.out]; rfl), HBW.out.trans (HB.out.mono (by omega))⟩
          rcases hF : exOk 8 d eg with _ | _
          all_goals have HEG := Lib.hid hF
          all_goals clear hF
          · have HE := Lib.hid (show ltOk (⟨3, p, ts, .slice q ts.length cap, r, el, eg⟩ : Lt d) = false by rw [HK.out, HPE.out, HD.out, h1a, h6a, HEL.out, HEG.out]; simp)
            go_enter Tryz.func68, Tryz.ntmps68
            go_wp2_with fail
            rw [← hW]
            clear hW
            rw [← HSL.out]
            refine (tCheckExpr d el _ (ExAt.up (HBW.out.trans (HB.out.mono (by omega))) d el HLA.out) HLR.out).mono ?_
            rintro e w1 ⟨rfl, hb1⟩
            have hb := HB.out.trans (hb1.mono HB.out.size)
            clear HB hb1
            obtain ⟨x0, x1, x2, x3, x4, x5, x6, x7, x8, x9, x10, x11, x12, x13, x14, x15⟩ := sixteen ((hb.block w.heap.size (by omega)).trans HBX.out)
            have HB := Lib.hid hb; clear hb
            rw [HEL.out, show okCode true 40 = 0 from rfl]
            go_wp2_with fail
            rw [← HSG.out]
            refine (tCheckExpr d eg _ (ExAt.up (HBW.out.trans (HB.out.mono (by omega))) d eg HGA.out) HGR.out).mono ?_
            rintro e w1 ⟨rfl, hb1⟩
            have hb := HB.out.trans (hb1.mono HB.out.size)
            clear HB hb1
            obtain ⟨x0, x1, x2, x3, x4, x5, x6, x7, x8, x9, x10, x11, x12, x13, x14, x15⟩ := sixteen ((hb.block w.heap.size (by omega)).trans HBX.out)
            have HB := Lib.hid hb; clear hb
            rw [HEG.out, show okCode false 40 = 40 from rfl]
            go_wp2_with fail
            go_ret
            exact ⟨ret_int (by rw [HE.out]; rfl), HBW.out.trans (HB.out.mono (by omega))⟩
          · have HE := Lib.hid (show ltOk (⟨3, p, ts, .slice q ts.length cap, r, el, eg⟩ : Lt d) = true by rw [HK.out, HPE.out, HD.out, h1a, h6a, HEL.out, HEG.out]; simp)
            go_enter Tryz.func68, Tryz.ntmps68
            go_wp2_with fail
            rw [← hW]
            clear hW
            rw [← HSL.out]
            refine (tCheckExpr d el _ (ExAt.up (HBW.out.trans (HB.out.mono (by omega))) d el HLA.out) HLR.out).mono ?_
            rintro e w1 ⟨rfl, hb1⟩
            have hb := HB.out.trans (hb1.mono HB.out.size)
            clear HB hb1
            obtain ⟨x0, x1, x2, x3, x4, x5, x6, x7, x8, x9, x10, x11, x12, x13, x14, x15⟩ := sixteen ((hb.block w.heap.size (by omega)).trans HBX.out)
            have HB := Lib.hid hb; clear hb
            rw [HEL.out, show okCode true 40 = 0 from rfl]
            go_wp2_with fail
            rw [← HSG.out]
            refine (tCheckExpr d eg _ (ExAt.up (HBW.out.trans (HB.out.mono (by omega))) d eg HGA.out) HGR.out).mono ?_
            rintro e w1 ⟨rfl, hb1⟩
            have hb := HB.out.trans (hb1.mono HB.out.size)
            clear HB hb1
            obtain ⟨x0, x1, x2, x3, x4, x5, x6, x7, x8, x9, x10, x11, x12, x13, x14, x15⟩ := sixteen ((hb.block w.heap.size (by omega)).trans HBX.out)
            have HB := Lib.hid hb; clear hb
            rw [HEG.out, show okCode true 40 = 0 from rfl]
            go_wp2_with fail
            go_ret
            exact ⟨ret_int (by rw [HE.out]; rfl), HBW.out.trans (HB.out.mono (by omega))⟩
        · have h6a : decide (r ≤ (6 : Int)) = false := decide_eq_false h6
          have h6b : decide ((6 : Int) < r) = true := decide_eq_true (by omega)
          have HE := Lib.hid (show ltOk (⟨3, p, ts, .slice q ts.length cap, r, el, eg⟩ : Lt d) = false by rw [HK.out, HPE.out, HD.out, h1a, h6a]; simp)
          go_enter Tryz.func68, Tryz.ntmps68
          go_wp2_with fail
          rw [← hW]
          clear hW
          go_ret
          exact ⟨ret_int (by rw [HE.out]; rfl), HBW.out.trans (HB.out.mono (by omega))⟩
      · have h1a : decide ((1 : Int) ≤ r) = false := decide_eq_false h1
        have h1b : decide (r < (1 : Int)) = true := decide_eq_true (by omega)
        have HE := Lib.hid (show ltOk (⟨3, p, ts, .slice q ts.length cap, r, el, eg⟩ : Lt d) = false by rw [HK.out, HPE.out, HD.out, h1a]; simp)
        go_enter Tryz.func68, Tryz.ntmps68
        go_wp2_with fail
        rw [← hW]
        clear hW
        go_ret
        exact ⟨ret_int (by rw [HE.out]; rfl), HBW.out.trans (HB.out.mono (by omega))⟩
    · have hL1 : ((ts.length : Int) == 0) = false := beq_eq_false_iff_ne.2 (by omega)
      have hL2 : decide (0 < ts.length) = true := decide_eq_true (by omega)
      have HD := Lib.hid (show decide (ts.length = 0) = false from decide_eq_false hL)
      clear hL
      have HE := Lib.hid (show ltOk (⟨3, p, ts, .slice q ts.length cap, r, el, eg⟩ : Lt d) = false by rw [HK.out, HPE.out, HD.out]; simp)
      go_enter Tryz.func68, Tryz.ntmps68
      go_wp2_with fail
      rw [← hW]
      clear hW
      go_ret
      exact ⟨ret_int (by rw [HE.out]; rfl), HBW.out.trans (HB.out.mono (by omega))⟩
  have q1 : (k == 1) = false := beq_eq_false_iff_ne.2 hk1
  have q2 : (k == 2) = false := beq_eq_false_iff_ne.2 hk2
  have q3 : (k == 3) = false := beq_eq_false_iff_ne.2 hk3
  have HE := Lib.hid (HK0.out.trans ((if_neg (by omega)).trans (if_neg hk3))); clear HK0 hk1 hk2 hk3
  go_enter Tryz.func68, Tryz.ntmps68
  go_wp2_with fail
  go_ret
  exact ⟨ret_int (by rw [HE.out]; rfl), below_alloc _ _⟩
end Go.Proofs.YtafjjececdhmjaaGreat

namespace Go.Proofs.YtafjjececdhmjaaGreat
open Go.RowKit

def relL : List ByteArray := [⟨#[]⟩, ⟨#[61]⟩, ⟨#[33, 61]⟩, ⟨#[60]⟩, ⟨#[60, 61]⟩, ⟨#[62]⟩, ⟨#[62, 61]⟩]
theorem rel_len : ∀ i, i < 7 → (bl (relL.getD i ⟨#[]⟩)).length ≤ 2 := by decide
/-- A literal's text. -/
def litL {d : Nat} (x : Lt d) : List UInt8 :=
  if x.k = 1 then atomL x.p x.ts else if x.k = 2 then [110, 111, 116, 32] ++ atomL x.p x.ts else exprL d x.l ++ (32 :: (bl (relL.getD x.r.toNat ⟨#[]⟩) ++ [32])) ++ exprL d x.g
theorem lt_open {d : Nat} {x : Lt d} (h : ltOk x = true) : (x.k = 1 ∧ atOk x.p x.ts = true) ∨ (x.k = 2 ∧ atOk x.p x.ts = true) ∨ (x.k = 3 ∧ 1 ≤ x.r ∧ x.r ≤ 6 ∧ exOk 8 d x.l = true ∧ exOk 8 d x.g = true) := by
  unfold ltOk at h
  split at h
  · rename_i hk
    simp only [Bool.and_eq_true] at h
    rcases hk with hk | hk
    · exact .inl ⟨hk, h.1.1.1⟩
    · exact .inr (.inl ⟨hk, h.1.1.1⟩)
  · split at h
    · rename_i hk
      simp only [Bool.and_eq_true, decide_eq_true_eq] at h
      exact .inr (.inr ⟨hk, h.1.1.1.2, h.1.1.2, h.1.2, h.2⟩)
    · cases h
theorem litL_le {d : Nat} {x : Lt d} (hr : LtR x) (h : ltOk x = true) : (litL x).length ≤ 500000 := by
  unfold litL
  rcases lt_open h with ⟨hk, ha⟩ | ⟨hk, ha⟩ | ⟨hk, h1, h6, hl, hg⟩
  · rw [if_pos hk]
    have := atomL_le hr.ts_ ha
    omega
  · rw [if_neg (by omega), if_pos hk]
    have := atomL_le hr.ts_ ha
    simp
    omega
  · rw [if_neg (by omega), if_neg (by omega)]
    have a1 := exprL_b (by omega) hl hr.l_
    have a2 := exprL_b (by omega) hg hr.g_
    have a3 := rel_len x.r.toNat (by omega)
    simp only [List.length_append, List.length_cons, List.length_nil]
    omega
end Go.Proofs.YtafjjececdhmjaaGreat
