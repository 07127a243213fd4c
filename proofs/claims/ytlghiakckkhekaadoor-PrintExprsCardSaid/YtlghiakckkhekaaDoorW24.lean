/- The contract of the writer's expr at two sides. Conditions: the expression lies in memory as it is told; what is held and what is written together take at most 2^47 bytes. -/
import Derived.Test.YtlghiakckkhekaaDoorW23
import Derived.StillTailTactics
namespace Go.Proofs.YtlghiakckkhekaaDoor
open Go.RowKit

set_option maxHeartbeats 2000000 in
set_option maxRecDepth 100000 in
theorem wTwo (d : Nat) (ih : WritesAt d) (w0 : World) (e f : Ex d) (n b a o cap : Nat) (op : Int) (v : ByteArray) (k x : Int) (t : ByteArray) (pre : List UInt8) (w : World) (h8 : 2 ≤ op) (h10 : op ≤ 7)
    (ho : exOk n d e = true) (ho' : exOk n d f = true) (hE : Env w0 b w) (hT : Tabs w0) (ha : a < w0.heap.size) (hc : ExCell w0 a o (exOp d e) (exTm d e) (exSl d e)) (hc' : ExCell w0 a (o + 6) (exOp d f) (exTm d f) (exSl d f))
    (he : ExAt w0 d e) (he' : ExAt w0 d f) (hr : ExR d e) (hr' : ExR d f) (hw : Wr 94 b pre w)
    (hl : pre.length + ((sideL (exprL d e) (decide (holdI (exOp d e) < holdI op))).length + (2 + (bl (signL.getD op.toNat ⟨#[]⟩)).length + (sideL (exprL d f) (decide (holdI (exOp d f) ≤ holdI op))).length)) ≤ 140737488355328) :
    Calls Tryd.prog 38 #[.pointer (some ⟨b, 0, none⟩), .agg #[.int .i8 op, .string v, .int .i8 k, .int .i64 x, .string t, .slice (some ⟨a, o, none⟩) 2 cap]] w
      (Wrote b pre (sideL (exprL d e) (decide (holdI (exOp d e) < holdI op)) ++ (32 :: (bl (signL.getD op.toNat ⟨#[]⟩) ++ [32])) ++ sideL (exprL d f) (decide (holdI (exOp d f) ≤ holdI op))) w) := by
  obtain ⟨r1, r2⟩ := op_range ho
  obtain ⟨s1, s2⟩ := op_range ho'
  have HO := Lib.hid ho; clear ho
  have HO' := Lib.hid ho'; clear ho'
  have HEn := Lib.hid hE; clear hE
  have HT := Lib.hid hT; clear hT
  have HA := Lib.hid he; clear he
  have HA' := Lib.hid he'; clear he'
  have HR := Lib.hid hr; clear hr
  have HR' := Lib.hid hr'; clear hr'
  have IH := Lib.hid ih; clear ih
  have HC := Lib.hid hc; clear hc
  have HC' := Lib.hid hc'; clear hc'
  have HW := Lib.hid hw
  have hlt := hw.lt; clear hw
  have q0 : (op == 0) = false := beq_eq_false_iff_ne.2 (by omega)
  have q1 : (op == 1) = false := beq_eq_false_iff_ne.2 (by omega)
  have q8 : decide (8 ≤ op) = false := decide_eq_false (by omega)
  have r3 : exOp d e < 11 := by omega
  have r4 : (exOp d e).toNat < 11 := by omega
  have r5 : 0 ≤ op := by omega
  have r6 : op < 11 := by omega
  have r7 : op.toNat < 11 := by omega
  have hbw : b ≠ w.heap.size := by omega
  obtain ⟨W, hW⟩ : ∃ W, W = w.alloc (.cells #[.int .i8 op, .string v, .int .i8 k, .int .i64 x, .string t, .slice (some ⟨a, o, none⟩) 2 cap] 36) := ⟨_, rfl⟩
  have HKW := Lib.hid (show Kp b w W by rw [hW]; exact Kp.alloc HW.out _)
  have HWW := Lib.hid (show Wr 94 b pre W by rw [hW]; exact HW.out.alloc _)
  have hbx0 : W.heap[w.heap.size]? = some (.cells #[.int .i8 op, .string v, .int .i8 k, .int .i64 x, .string t, .slice (some ⟨a, o, none⟩) 2 cap] 36 (0, 0)) := by rw [hW]; exact heap_alloc_new w _
  obtain ⟨x0, x1, x2, x3, x4, x5⟩ := six hbx0
  have HBX0 := Lib.hid hbx0; clear hbx0
  have HTW := Lib.hid (HT.out.at (HEn.out.kp HKW.out).bel)
  have hh1 : W.cell? ⟨0, op.toNat, none⟩ = some (.int .i64 (holdI op)) := HTW.out.hold op.toNat (by omega)
  have hh2 : W.cell? ⟨0, (exOp d e).toNat, none⟩ = some (.int .i64 (holdI (exOp d e))) := HTW.out.hold _ (by omega)
  obtain ⟨sg, hsg⟩ : ∃ sg, sg = signL.getD op.toNat ⟨#[]⟩ := ⟨_, rfl⟩
  have HSG := Lib.hid hsg
  rw [← hsg] at hl ⊢
  clear hsg
  have HL := Lib.hid hl; clear hl
  obtain ⟨ea, hea⟩ : ∃ l, l = sideL (exprL d e) (decide (holdI (exOp d e) < holdI op)) := ⟨_, rfl⟩
  obtain ⟨fa, hfa⟩ : ∃ l, l = sideL (exprL d f) (decide (holdI (exOp d f) ≤ holdI op)) := ⟨_, rfl⟩
  have HEA := Lib.hid hea
  have HFA := Lib.hid hfa
  rw [← hea, ← hfa] at HL ⊢
  clear hea hfa
  obtain ⟨out, hout⟩ : ∃ l, l = ea ++ (32 :: (bl sg ++ [32])) ++ fa := ⟨_, rfl⟩
  have HOUT := Lib.hid hout
  rw [← hout]
  clear hout
  obtain ⟨c0, c1, c2, c3, c4, c5⟩ := HC.out.up (HEn.out.kp HKW.out).bel ha
  go_enter Tryd.func38, Tryd.ntmps38
  go_wp2_with fail
  rw [← hW]
  clear hW
  go_still_tail 17, (by kernel_rfl)
  change wpList _ _ _ _ _ W.drew
  have HWd := Lib.hid (Wr.drew HWW.out)
  have HKd := Lib.hid (Kp.of_below HWW.out.lt ((Below.refl _ W).drew))
  have hbx1 : W.drew.heap[w.heap.size]? = some (.cells #[.int .i8 op, .string v, .int .i8 k, .int .i64 x, .string t, .slice (some ⟨a, o, none⟩) 2 cap] 36 (0, 0)) := HBX0.out
  clear x0 x1 x2 x3 x4 x5 c0 c1 c2 c3 c4 c5 hh1 hh2
  obtain ⟨Wd, hWd⟩ : ∃ Wd, Wd = W.drew := ⟨_, rfl⟩
  rw [← hWd] at HWd HKd hbx1 ⊢
  clear hWd
  have HBX1 := Lib.hid hbx1; clear hbx1
  go_wp2_with fail
  refine (pSide d IH.out w0 e n b (decide (holdI (exOp d e) < holdI op)) pre _ HO.out (HEn.out.kp (HKW.out.trans HKd.out)) HT.out HA.out HR.out HWd.out (by rw [← HEA.out]; have := HL.out; omega)).mono ?_
  rintro r w1 ⟨rfl, hw1, hk1⟩
  have hbx := hk1.cell HBX1.out hbw.symm (by decide)
  obtain ⟨x0, x1, x2, x3, x4, x5⟩ := six hbx
  have HB1 := Lib.hid hbx; clear hbx
  have H1 := Lib.hid (wr_eq (by rw [← HEA.out]) hw1)
  have hlt1 := hw1.lt; clear hw1
  have HK1 := Lib.hid ((HKW.out.trans HKd.out).trans hk1); clear hk1
  have HT1 := Lib.hid (HT.out.at (HEn.out.kp HK1.out).bel)
  have hs1 : w1.cell? ⟨2, op.toNat, none⟩ = some (.string sg) := by rw [HSG.out]; exact HT1.out.signs op.toNat (by omega)
  have h91 : 9 ≤ w1.heap.size := HT1.out.size
  have hs2 : 2 < w1.heap.size := by omega
  have r8 : op.toNat < 8 := by omega
  have r9 : op < 8 := by omega
  go_wp2_with fail
  refine (pPut b w1.heap.size _ [⟨#[32]⟩, sg, ⟨#[32]⟩] 3 _ (H1.out.alloc _) (by have := HL.out; simp [catL, bl] at this ⊢; omega) (by simp) (heap_alloc_new w1 _) (by omega)).mono ?_
  rintro r w2 ⟨rfl, hw2, hk2⟩
  clear x0 x1 x2 x3 x4 x5 hs1
  have hbx2 := ((Kp.alloc H1.out _).trans hk2).cell HB1.out hbw.symm (by decide)
  obtain ⟨x0, x1, x2, x3, x4, x5⟩ := six hbx2
  have HB2 := Lib.hid hbx2; clear hbx2
  have H2 := Lib.hid (wr_eq (m := pre ++ ea ++ (32 :: (bl sg ++ [32]))) (by simp [catL, bl]) hw2)
  have hlt2 := hw2.lt; clear hw2
  have HK2 := Lib.hid ((HK1.out.trans (Kp.alloc H1.out _)).trans hk2); clear hk2
  have HT2 := Lib.hid (HT.out.at (HEn.out.kp HK2.out).bel)
  have hh1 : w2.cell? ⟨0, op.toNat, none⟩ = some (.int .i64 (holdI op)) := HT2.out.hold op.toNat (by omega)
  have hh2 : w2.cell? ⟨0, (exOp d f).toNat, none⟩ = some (.int .i64 (holdI (exOp d f))) := HT2.out.hold _ (by omega)
  have s3 : exOp d f < 11 := by omega
  have s4 : (exOp d f).toNat < 11 := by omega
  obtain ⟨c0, c1, c2, c3, c4, c5⟩ := HC'.out.up (HEn.out.kp HK2.out).bel ha
  go_wp2_with fail
  go_still_tail 17, (by kernel_rfl)
  change wpList _ _ _ _ _ w2.drew
  have HW2d := Lib.hid (Wr.drew H2.out)
  have HK2d := Lib.hid (Kp.of_below H2.out.lt ((Below.refl _ w2).drew))
  clear x0 x1 x2 x3 x4 x5 c0 c1 c2 c3 c4 c5 hh1 hh2
  obtain ⟨W2, hW2⟩ : ∃ W2, W2 = w2.drew := ⟨_, rfl⟩
  rw [← hW2] at HW2d HK2d ⊢
  clear hW2
  go_wp2_with fail
  refine (pSide d IH.out w0 f n b (decide (holdI (exOp d f) ≤ holdI op)) _ _ HO'.out (HEn.out.kp (HK2.out.trans HK2d.out)) HT.out HA'.out HR'.out HW2d.out (by rw [← HFA.out]; have := HL.out; simp at this ⊢; omega)).mono ?_
  rintro r w3 ⟨rfl, hw3, hk3⟩
  have H3 := Lib.hid (wr_eq (m := pre ++ out) (by rw [← HFA.out, HOUT.out]; simp) hw3); clear hw3
  have HK3 := Lib.hid hk3; clear hk3
  go_wp2_with fail
  go_end0
  exact ⟨rfl, H3.out, (HK2.out.trans HK2d.out).trans HK3.out⟩
end Go.Proofs.YtlghiakckkhekaaDoor
