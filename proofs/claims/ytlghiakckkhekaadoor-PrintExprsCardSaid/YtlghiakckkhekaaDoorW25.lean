/- The contract of the writer's expr at a minus. Conditions: the expression lies in memory as it is told; what is held and what is written together take at most 2^47 bytes. -/
import Derived.Test.YtlghiakckkhekaaDoorW24
import Derived.StillTailTactics
namespace Go.Proofs.YtlghiakckkhekaaDoor
open Go.RowKit

theorem still_eq {P : Program} {ops : Array Oper} {w : World} {Q : Act → Prop} {a : Act} {o : Oper} {rest : List Oper} (hw : Region.wanted o (yielded ops a.tmps) = false) : wpStill P ops w Q (o :: rest) a = wpStill P ops w Q rest (a.put o.dst undef) := by
  show (if _ then _ else _) = _
  rw [if_neg (by rw [hw]; exact Bool.false_ne_true)]
theorem ex_sl {w : World} : {d : Nat} → {e : Ex d} → ExAt w d e → ∃ p l c, exSl d e = .slice p l c
  | 0, e, _ => nomatch e
  | _ + 1, _, ⟨p, cap, h1, _⟩ => ⟨p, _, cap, h1⟩
set_option maxHeartbeats 8000000 in
set_option maxRecDepth 100000 in
theorem wNeg (d : Nat) (ih : WritesAt d) (w0 : World) (e : Ex d) (n b a o cap : Nat) (v : ByteArray) (k x : Int) (t : ByteArray) (pre : List UInt8) (w : World)
    (ho : exOk n d e = true) (hE : Env w0 b w) (hT : Tabs w0) (ha : a < w0.heap.size) (hc : ExCell w0 a o (exOp d e) (exTm d e) (exSl d e)) (he : ExAt w0 d e) (hr : ExR d e) (hw : Wr 94 b pre w)
    (hl : pre.length + (1 + (sideL (exprL d e) (negB (exOp d e) (exTm d e))).length) ≤ 140737488355328) :
    Calls Tryd.prog 38 #[.pointer (some ⟨b, 0, none⟩), .agg #[.int .i8 1, .string v, .int .i8 k, .int .i64 x, .string t, .slice (some ⟨a, o, none⟩) 1 cap]] w
      (Wrote b pre (45 :: sideL (exprL d e) (negB (exOp d e) (exTm d e))) w) := by
  obtain ⟨r1, r2⟩ := op_range ho
  have HO := Lib.hid ho; clear ho
  have HEn := Lib.hid hE; clear hE
  have HT := Lib.hid hT; clear hT
  have HA := Lib.hid he; clear he
  have HR := Lib.hid hr; clear hr
  have IH := Lib.hid ih; clear ih
  have HC := Lib.hid hc; clear hc
  have HW := Lib.hid hw
  have hlt := hw.lt; clear hw
  have HL := Lib.hid hl; clear hl
  have r3 : exOp d e < 11 := by omega
  have r4 : (exOp d e).toNat < 11 := by omega
  have hbw : b ≠ w.heap.size := by omega
  have hbw1 : b ≠ w.heap.size + 1 := by omega
  have hal : a < w.heap.size := Nat.lt_of_lt_of_le ha HEn.out.bel.size
  obtain ⟨out, hout⟩ : ∃ l, l = 45 :: sideL (exprL d e) (negB (exOp d e) (exTm d e)) := ⟨_, rfl⟩
  have HOUT := Lib.hid hout
  rw [← hout]
  clear hout
  obtain ⟨p, l, cp, hsl⟩ := ex_sl HA.out
  obtain ⟨c0, c1, c2, c3, c4, c5⟩ := HC.out.up HEn.out.bel ha
  rw [hsl] at c5
  have HSL := Lib.hid hsl; clear hsl
  go_enter Tryd.func38, Tryd.ntmps38
  go_wp2_with fail
  refine (pPut b (w.heap.size + 2) pre [⟨#[45]⟩] 1 _ (((HW.out.alloc _).alloc _).alloc _) (by rw [catL_one]; have := HL.out; simp [bl]; omega) (by simp) (by simpa using heap_alloc_new ((w.alloc _).alloc _) _) (by omega)).mono ?_
  rintro r w1 ⟨rfl, hw1, hk1⟩
  clear c0 c1 c2 c3 c4 c5
  have hbxa := hk1.cell (k := w.heap.size) (c := #[.int .i8 1, .string v, .int .i8 k, .int .i64 x, .string t, .slice (some ⟨a, o, none⟩) 1 cap]) (t := 36) (fz := (0, 0)) (by rw [Lib.alloc_old _ _ _ (by simp; omega), Lib.alloc_old _ _ _ (by simp)]; exact heap_alloc_new w _) hbw.symm (by decide)
  have hbxb := hk1.cell (k := w.heap.size + 1) (c := #[.int .i8 (exOp d e), .string (exTm d e).v, .int .i8 (exTm d e).x.k, .int .i64 (exTm d e).x.n, .string (exTm d e).x.t, .slice p l cp]) (t := 36) (fz := (0, 0)) (by rw [Lib.alloc_old _ _ _ (by simp)]; simpa using heap_alloc_new (w.alloc _) _) hbw1.symm (by decide)
  obtain ⟨x0, x1, x2, x3, x4, x5⟩ := six hbxa
  obtain ⟨y0, y1, y2, y3, y4, y5⟩ := six hbxb
  clear hbxa hbxb
  have H1 := Lib.hid (wr_eq (m := pre ++ [45]) (by rw [catL_one]) hw1)
  have hlt1 := hw1.lt; clear hw1
  have HK1 := Lib.hid ((((Kp.alloc HW.out _).trans (Kp.alloc (HW.out.alloc _) _)).trans (Kp.alloc ((HW.out.alloc _).alloc _) _)).trans hk1); clear hk1
  have HT1 := Lib.hid (HT.out.at (HEn.out.kp HK1.out).bel)
  have hh1 : w1.cell? ⟨0, 1, none⟩ = some (.int .i64 3) := HT1.out.hold 1 (by omega)
  have hh2 : w1.cell? ⟨0, (exOp d e).toNat, none⟩ = some (.int .i64 (holdI (exOp d e))) := HT1.out.hold _ (by omega)
  have HN0 := Lib.hid (show negB (exOp d e) (exTm d e) = (decide (holdI (exOp d e) < 3) || (exOp d e == 0 && (exTm d e).v.toList.isEmpty && (exTm d e).x.k == 1 && decide (0 ≤ (exTm d e).x.n))) by unfold negB bl; rw [← ByteArray.toList_eq]; rfl)
  go_wp2_with fail
  rcases hA : decide (holdI (exOp d e) < 3) with _ | _
  case true =>
    have HN := Lib.hid (show negB (exOp d e) (exTm d e) = true by rw [HN0.out, hA]; rfl)
    refine wp_region_still_tail 36 (by kernel_rfl) (by kernel_rfl) ?_
    simp only [List.take_succ_cons, List.take_zero, List.drop_succ_cons, List.drop_zero]
    iterate 12 still_step
    iterate 23 (rewrite [still_eq (by kernel_rfl)]; simp only [Act.put, List.setIfInBounds_toArray, List.set_cons_zero, List.set_cons_succ])
    iterate 1 still_step
    refine wpStill_nil ?_
    change wpList _ _ _ _ _ w1.drew
    have HWd := Lib.hid (Wr.drew H1.out)
    have HKd := Lib.hid (HK1.out.trans (Kp.of_below H1.out.lt ((Below.refl _ w1).drew)))
    clear x0 x1 x2 x3 x4 x5 y0 y1 y2 y3 y4 y5 hh1 hh2
    obtain ⟨Wd, hWd⟩ : ∃ Wd, Wd = w1.drew := ⟨_, rfl⟩
    rw [← hWd] at HWd HKd ⊢
    clear hWd
    go_wp2_with fail
    rw [← HSL.out]
    refine (pSide d IH.out w0 e n b true _ _ HO.out (HEn.out.kp HKd.out) HT.out HA.out HR.out HWd.out (by rw [← HN.out]; have := HL.out; simp at this ⊢; omega)).mono ?_
    rintro r w2 ⟨rfl, hw2, hk2⟩
    have H2 := Lib.hid (wr_eq (m := pre ++ out) (by rw [HOUT.out, HN.out]; simp) hw2); clear hw2
    have HK2 := Lib.hid hk2; clear hk2
    go_wp2_with fail
    go_end0
    exact ⟨rfl, H2.out, HKd.out.trans HK2.out⟩
  rcases hB : (exOp d e == 0) with _ | _
  case false =>
    have HN := Lib.hid (show negB (exOp d e) (exTm d e) = false by rw [HN0.out, hA, hB]; rfl)
    refine wp_region_still_tail 36 (by kernel_rfl) (by kernel_rfl) ?_
    simp only [List.take_succ_cons, List.take_zero, List.drop_succ_cons, List.drop_zero]
    iterate 16 still_step
    iterate 4 (rewrite [still_eq (by kernel_rfl)]; simp only [Act.put, List.setIfInBounds_toArray, List.set_cons_zero, List.set_cons_succ])
    iterate 2 still_step
    iterate 5 (rewrite [still_eq (by kernel_rfl)]; simp only [Act.put, List.setIfInBounds_toArray, List.set_cons_zero, List.set_cons_succ])
    iterate 2 still_step
    iterate 5 (rewrite [still_eq (by kernel_rfl)]; simp only [Act.put, List.setIfInBounds_toArray, List.set_cons_zero, List.set_cons_succ])
    iterate 2 still_step
    refine wpStill_nil ?_
    change wpList _ _ _ _ _ w1.drew
    have HWd := Lib.hid (Wr.drew H1.out)
    have HKd := Lib.hid (HK1.out.trans (Kp.of_below H1.out.lt ((Below.refl _ w1).drew)))
    clear x0 x1 x2 x3 x4 x5 y0 y1 y2 y3 y4 y5 hh1 hh2
    obtain ⟨Wd, hWd⟩ : ∃ Wd, Wd = w1.drew := ⟨_, rfl⟩
    rw [← hWd] at HWd HKd ⊢
    clear hWd
    go_wp2_with fail
    rw [← HSL.out]
    refine (pSide d IH.out w0 e n b false _ _ HO.out (HEn.out.kp HKd.out) HT.out HA.out HR.out HWd.out (by rw [← HN.out]; have := HL.out; simp at this ⊢; omega)).mono ?_
    rintro r w2 ⟨rfl, hw2, hk2⟩
    have H2 := Lib.hid (wr_eq (m := pre ++ out) (by rw [HOUT.out, HN.out]; simp) hw2); clear hw2
    have HK2 := Lib.hid hk2; clear hk2
    go_wp2_with fail
    go_end0
    exact ⟨rfl, H2.out, HKd.out.trans HK2.out⟩
  rcases hC : (exTm d e).v.toList.isEmpty with _ | _
  case false =>
    have HN := Lib.hid (show negB (exOp d e) (exTm d e) = false by rw [HN0.out, hA, hB, hC]; rfl)
    refine wp_region_still_tail 36 (by kernel_rfl) (by kernel_rfl) ?_
    simp only [List.take_succ_cons, List.take_zero, List.drop_succ_cons, List.drop_zero]
    iterate 20 still_step
    iterate 2 still_step
    iterate 5 (rewrite [still_eq (by kernel_rfl)]; simp only [Act.put, List.setIfInBounds_toArray, List.set_cons_zero, List.set_cons_succ])
    iterate 2 still_step
    iterate 5 (rewrite [still_eq (by kernel_rfl)]; simp only [Act.put, List.setIfInBounds_toArray, List.set_cons_zero, List.set_cons_succ])
    iterate 2 still_step
    refine wpStill_nil ?_
    change wpList _ _ _ _ _ w1.drew
    have HWd := Lib.hid (Wr.drew H1.out)
    have HKd := Lib.hid (HK1.out.trans (Kp.of_below H1.out.lt ((Below.refl _ w1).drew)))
    clear x0 x1 x2 x3 x4 x5 y0 y1 y2 y3 y4 y5 hh1 hh2
    obtain ⟨Wd, hWd⟩ : ∃ Wd, Wd = w1.drew := ⟨_, rfl⟩
    rw [← hWd] at HWd HKd ⊢
    clear hWd
    go_wp2_with fail
    rw [← HSL.out]
    refine (pSide d IH.out w0 e n b false _ _ HO.out (HEn.out.kp HKd.out) HT.out HA.out HR.out HWd.out (by rw [← HN.out]; have := HL.out; simp at this ⊢; omega)).mono ?_
    rintro r w2 ⟨rfl, hw2, hk2⟩
    have H2 := Lib.hid (wr_eq (m := pre ++ out) (by rw [HOUT.out, HN.out]; simp) hw2); clear hw2
    have HK2 := Lib.hid hk2; clear hk2
    go_wp2_with fail
    go_end0
    exact ⟨rfl, H2.out, HKd.out.trans HK2.out⟩
  rcases hD : ((exTm d e).x.k == 1) with _ | _
  case false =>
    have HN := Lib.hid (show negB (exOp d e) (exTm d e) = false by rw [HN0.out, hA, hB, hC, hD]; rfl)
    refine wp_region_still_tail 36 (by kernel_rfl) (by kernel_rfl) ?_
    simp only [List.take_succ_cons, List.take_zero, List.drop_succ_cons, List.drop_zero]
    iterate 29 still_step
    iterate 5 (rewrite [still_eq (by kernel_rfl)]; simp only [Act.put, List.setIfInBounds_toArray, List.set_cons_zero, List.set_cons_succ])
    iterate 2 still_step
    refine wpStill_nil ?_
    change wpList _ _ _ _ _ w1.drew
    have HWd := Lib.hid (Wr.drew H1.out)
    have HKd := Lib.hid (HK1.out.trans (Kp.of_below H1.out.lt ((Below.refl _ w1).drew)))
    clear x0 x1 x2 x3 x4 x5 y0 y1 y2 y3 y4 y5 hh1 hh2
    obtain ⟨Wd, hWd⟩ : ∃ Wd, Wd = w1.drew := ⟨_, rfl⟩
    rw [← hWd] at HWd HKd ⊢
    clear hWd
    go_wp2_with fail
    rw [← HSL.out]
    refine (pSide d IH.out w0 e n b false _ _ HO.out (HEn.out.kp HKd.out) HT.out HA.out HR.out HWd.out (by rw [← HN.out]; have := HL.out; simp at this ⊢; omega)).mono ?_
    rintro r w2 ⟨rfl, hw2, hk2⟩
    have H2 := Lib.hid (wr_eq (m := pre ++ out) (by rw [HOUT.out, HN.out]; simp) hw2); clear hw2
    have HK2 := Lib.hid hk2; clear hk2
    go_wp2_with fail
    go_end0
    exact ⟨rfl, H2.out, HKd.out.trans HK2.out⟩
  rcases hE : decide (0 ≤ (exTm d e).x.n) with _ | _
  case false =>
    have HN := Lib.hid (show negB (exOp d e) (exTm d e) = false by rw [HN0.out, hA, hB, hC, hD, hE]; rfl)
    refine wp_region_still_tail 36 (by kernel_rfl) (by kernel_rfl) ?_
    simp only [List.take_succ_cons, List.take_zero, List.drop_succ_cons, List.drop_zero]
    iterate 36 still_step
    refine wpStill_nil ?_
    change wpList _ _ _ _ _ w1.drew
    have HWd := Lib.hid (Wr.drew H1.out)
    have HKd := Lib.hid (HK1.out.trans (Kp.of_below H1.out.lt ((Below.refl _ w1).drew)))
    clear x0 x1 x2 x3 x4 x5 y0 y1 y2 y3 y4 y5 hh1 hh2
    obtain ⟨Wd, hWd⟩ : ∃ Wd, Wd = w1.drew := ⟨_, rfl⟩
    rw [← hWd] at HWd HKd ⊢
    clear hWd
    go_wp2_with fail
    rw [← HSL.out]
    refine (pSide d IH.out w0 e n b false _ _ HO.out (HEn.out.kp HKd.out) HT.out HA.out HR.out HWd.out (by rw [← HN.out]; have := HL.out; simp at this ⊢; omega)).mono ?_
    rintro r w2 ⟨rfl, hw2, hk2⟩
    have H2 := Lib.hid (wr_eq (m := pre ++ out) (by rw [HOUT.out, HN.out]; simp) hw2); clear hw2
    have HK2 := Lib.hid hk2; clear hk2
    go_wp2_with fail
    go_end0
    exact ⟨rfl, H2.out, HKd.out.trans HK2.out⟩
  case true =>
    have HN := Lib.hid (show negB (exOp d e) (exTm d e) = true by rw [HN0.out, hA, hB, hC, hD, hE]; rfl)
    refine wp_region_still_tail 36 (by kernel_rfl) (by kernel_rfl) ?_
    simp only [List.take_succ_cons, List.take_zero, List.drop_succ_cons, List.drop_zero]
    iterate 36 still_step
    refine wpStill_nil ?_
    change wpList _ _ _ _ _ w1.drew
    have HWd := Lib.hid (Wr.drew H1.out)
    have HKd := Lib.hid (HK1.out.trans (Kp.of_below H1.out.lt ((Below.refl _ w1).drew)))
    clear x0 x1 x2 x3 x4 x5 y0 y1 y2 y3 y4 y5 hh1 hh2
    obtain ⟨Wd, hWd⟩ : ∃ Wd, Wd = w1.drew := ⟨_, rfl⟩
    rw [← hWd] at HWd HKd ⊢
    clear hWd
    go_wp2_with fail
    rw [← HSL.out]
    refine (pSide d IH.out w0 e n b true _ _ HO.out (HEn.out.kp HKd.out) HT.out HA.out HR.out HWd.out (by rw [← HN.out]; have := HL.out; simp at this ⊢; omega)).mono ?_
    rintro r w2 ⟨rfl, hw2, hk2⟩
    have H2 := Lib.hid (wr_eq (m := pre ++ out) (by rw [HOUT.out, HN.out]; simp) hw2); clear hw2
    have HK2 := Lib.hid hk2; clear hk2
    go_wp2_with fail
    go_end0
    exact ⟨rfl, H2.out, HKd.out.trans HK2.out⟩
end Go.Proofs.YtlghiakckkhekaaDoor
