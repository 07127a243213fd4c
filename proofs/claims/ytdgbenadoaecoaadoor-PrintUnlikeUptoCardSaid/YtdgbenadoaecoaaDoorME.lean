/- The contracts of print.Expr; the first examples. Conditions: each part says its own. -/
import Derived.Test.YtdgbenadoaecoaaDoorMD
import Derived.StillTailTactics
/- The contract of the writer's expr, by its cases: a term, a word, two sides. Conditions: the expression lies in memory as it is told; what is held and what is written together take at most 2^47 bytes. -/
namespace Go.Proofs.YtdgbenadoaecoaaDoor
open Go.RowKit

theorem op_range {n d : Nat} {e : Ex d} (h : exOk n d e = true) : 0 ≤ exOp d e ∧ exOp d e ≤ 10 := by
  cases d with
  | zero => exact nomatch e
  | succ d =>
    cases n with
    | zero => cases h
    | succ n =>
      obtain ⟨op, tm, sl, ks⟩ := e
      have h2 : (if op = 0 then ks.isEmpty && solidB tm else tmZero tm && decide ((ks.length : Int) = arityI op) && ks.all (exOk n d)) = true := h
      show 0 ≤ op ∧ op ≤ 10
      by_cases h0 : op = 0
      · omega
      · rw [if_neg h0] at h2
        simp only [Bool.and_eq_true, decide_eq_true_eq] at h2
        have h3 := h2.1.2
        unfold arityI at h3
        split at h3
        · omega
        · split at h3 <;> omega
set_option maxHeartbeats 1000000 in
theorem wTerm (b : Nat) (pre : List UInt8) (v : ByteArray) (k x : Int) (t : ByteArray) (sl : Value) (w : World) (hr : TmR v k x t) (hT : Tabs w) (hw : Wr 68 b pre w)
    (hl : pre.length + (termL ⟨v, ⟨k, x, t⟩⟩).length ≤ 140737488355328) :
    Calls Tryd.prog 48 #[.pointer (some ⟨b, 0, none⟩), .agg #[.int .i8 0, .string v, .int .i8 k, .int .i64 x, .string t, sl]] w (Wrote b pre (termL ⟨v, ⟨k, x, t⟩⟩) w) := by
  have HR := Lib.hid hr; clear hr
  have HT := Lib.hid hT; clear hT
  have HW := Lib.hid hw
  have hlt := hw.lt; clear hw
  go_enter Tryd.func48, Tryd.ntmps48
  go_wp2_with fail
  refine (pTerm b pre v k x t _ HR.out (HT.out.alloc _) (HW.out.alloc _) hl).mono ?_
  rintro r w1 ⟨rfl, hw1, hk1⟩
  have H1 := Lib.hid hw1; clear hw1
  have HK1 := Lib.hid hk1; clear hk1
  go_wp2_with fail
  go_end0
  exact ⟨rfl, H1.out, (Kp.alloc HW.out _).trans HK1.out⟩
set_option maxHeartbeats 1000000 in
set_option maxRecDepth 100000 in
theorem wWord (d : Nat) (ih : WritesAt d) (w0 : World) (e : Ex d) (n b a o cap : Nat) (op : Int) (v : ByteArray) (k x : Int) (t : ByteArray) (pre : List UInt8) (w : World) (h8 : 8 ≤ op) (h10 : op ≤ 10)
    (ho : exOk n d e = true) (hE : Env w0 b w) (hT : Tabs w0) (ha : a < w0.heap.size) (hc : ExCell w0 a o (exOp d e) (exTm d e) (exSl d e)) (he : ExAt w0 d e) (hr : ExR d e) (hw : Wr 68 b pre w)
    (hl : pre.length + ((bl (wordL.getD op.toNat ⟨#[]⟩)).length + (sideL (exprL d e) true).length) ≤ 140737488355328) :
    Calls Tryd.prog 48 #[.pointer (some ⟨b, 0, none⟩), .agg #[.int .i8 op, .string v, .int .i8 k, .int .i64 x, .string t, .slice (some ⟨a, o, none⟩) 1 cap]] w
      (Wrote b pre (bl (wordL.getD op.toNat ⟨#[]⟩) ++ sideL (exprL d e) true) w) := by
  have HO := Lib.hid ho; clear ho
  have HEn := Lib.hid hE; clear hE
  have HT := Lib.hid hT; clear hT
  have HA := Lib.hid he; clear he
  have HR := Lib.hid hr; clear hr
  have IH := Lib.hid ih; clear ih
  have HC := Lib.hid hc; clear hc
  have HW := Lib.hid hw
  have hlt := hw.lt; clear hw
  have q0 : (op == 0) = false := beq_eq_false_iff_ne.2 (by omega)
  have q1 : (op == 1) = false := beq_eq_false_iff_ne.2 (by omega)
  have hwd : w.cell? ⟨2, op.toNat, none⟩ = some (.string (wordL.getD op.toNat ⟨#[]⟩)) := (HT.out.at HEn.out.bel).words op.toNat (by omega)
  have h9 : 2 < w.heap.size := by have := (HT.out.at HEn.out.bel).size; omega
  obtain ⟨wd, hwde⟩ : ∃ wd, wd = wordL.getD op.toNat ⟨#[]⟩ := ⟨_, rfl⟩
  rw [← hwde] at hl hwd ⊢
  clear hwde
  have HL := Lib.hid hl; clear hl
  go_enter Tryd.func48, Tryd.ntmps48
  go_wp2_with fail
  refine (pPut b (w.heap.size + 1) pre [wd] 1 _ ((HW.out.alloc _).alloc _) (by rw [catL_one]; have := HL.out; omega) (by simp) (by simpa using heap_alloc_new (w.alloc _) _) (by omega)).mono ?_
  rintro r w1 ⟨rfl, hw1, hk1⟩
  have hbx := hk1.cell (k := w.heap.size) (c := #[.int .i8 op, .string v, .int .i8 k, .int .i64 x, .string t, .slice (some ⟨a, o, none⟩) 1 cap]) (t := 83) (fz := (0, 0)) (by rw [Lib.alloc_old _ _ _ (by simp)]; exact heap_alloc_new w _) (by omega) (by decide)
  obtain ⟨x0, x1, x2, x3, x4, x5⟩ := six hbx
  have HBX := Lib.hid hbx; clear hbx
  have H1 := Lib.hid (wr_eq (by rw [catL_one]) hw1)
  have hlt1 := hw1.lt; clear hw1
  have HK1 := Lib.hid (((Kp.alloc HW.out _).trans (Kp.alloc (HW.out.alloc _) _)).trans hk1); clear hk1
  obtain ⟨c0, c1, c2, c3, c4, c5⟩ := HC.out.up (HEn.out.kp HK1.out).bel ha
  clear hwd
  go_wp2_with fail
  refine (pSide d IH.out w0 e n b true _ _ HO.out (HEn.out.kp HK1.out) HT.out HA.out HR.out H1.out (by have := HL.out; simp at this ⊢; omega)).mono ?_
  rintro r w2 ⟨rfl, hw2, hk2⟩
  clear x0 x1 x2 x3 x4 x5 c0 c1 c2 c3 c4 c5
  have H2 := Lib.hid hw2; clear hw2
  have HK2 := Lib.hid hk2; clear hk2
  go_wp2_with fail
  go_end0
  exact ⟨rfl, wr_eq (by simp) H2.out, HK1.out.trans HK2.out⟩
end Go.Proofs.YtdgbenadoaecoaaDoor

/- The contract of the writer's expr at two sides. Conditions: the expression lies in memory as it is told; what is held and what is written together take at most 2^47 bytes. -/
namespace Go.Proofs.YtdgbenadoaecoaaDoor
open Go.RowKit

set_option maxHeartbeats 2000000 in
set_option maxRecDepth 100000 in
theorem wTwo (d : Nat) (ih : WritesAt d) (w0 : World) (e f : Ex d) (n b a o cap : Nat) (op : Int) (v : ByteArray) (k x : Int) (t : ByteArray) (pre : List UInt8) (w : World) (h8 : 2 ≤ op) (h10 : op ≤ 7)
    (ho : exOk n d e = true) (ho' : exOk n d f = true) (hE : Env w0 b w) (hT : Tabs w0) (ha : a < w0.heap.size) (hc : ExCell w0 a o (exOp d e) (exTm d e) (exSl d e)) (hc' : ExCell w0 a (o + 6) (exOp d f) (exTm d f) (exSl d f))
    (he : ExAt w0 d e) (he' : ExAt w0 d f) (hr : ExR d e) (hr' : ExR d f) (hw : Wr 68 b pre w)
    (hl : pre.length + ((sideL (exprL d e) (decide (holdI (exOp d e) < holdI op))).length + (2 + (bl (signL.getD op.toNat ⟨#[]⟩)).length + (sideL (exprL d f) (decide (holdI (exOp d f) ≤ holdI op))).length)) ≤ 140737488355328) :
    Calls Tryd.prog 48 #[.pointer (some ⟨b, 0, none⟩), .agg #[.int .i8 op, .string v, .int .i8 k, .int .i64 x, .string t, .slice (some ⟨a, o, none⟩) 2 cap]] w
      (Wrote b pre (sideL (exprL d e) (decide (holdI (exOp d e) < holdI op)) ++ (32 :: (bl (signL.getD op.toNat ⟨#[]⟩) ++ [32])) ++ sideL (exprL d f) (decide (holdI (exOp d f) ≤ holdI op))) w) := by
  obtain ⟨r1, r2⟩ := op_range ho
  obtain ⟨s1, s2⟩ := op_range ho'
  have HO := Lib.hid ho; clear ho
  have HO' := Lib.hid ho'; clear ho'
  have HEn := Lib.hid hE; clear hE
  have HT := Lib.hid hT; clear hT
  have HA := Lib.hid he; clear he
  have HA' := Lib.hid he'; clear he'
  have HR := Lib.hid hr; clear hr
  have HR' := Lib.hid hr'; clear hr'
  have IH := Lib.hid ih; clear ih
  have HC := Lib.hid hc; clear hc
  have HC' := Lib.hid hc'; clear hc'
  have HW := Lib.hid hw
  have hlt := hw.lt; clear hw
  have q0 : (op == 0) = false := beq_eq_false_iff_ne.2 (by omega)
  have q1 : (op == 1) = false := beq_eq_false_iff_ne.2 (by omega)
  have q8 : decide (8 ≤ op) = false := decide_eq_false (by omega)
  have r3 : exOp d e < 11 := by omega
  have r4 : (exOp d e).toNat < 11 := by omega
  have r5 : 0 ≤ op := by omega
  have r6 : op < 11 := by omega
  have r7 : op.toNat < 11 := by omega
  have hbw : b ≠ w.heap.size := by omega
  obtain ⟨W, hW⟩ : ∃ W, W = w.alloc (.cells #[.int .i8 op, .string v, .int .i8 k, .int .i64 x, .string t, .slice (some ⟨a, o, none⟩) 2 cap] 83) := ⟨_, rfl⟩
  have HKW := Lib.hid (show Kp b w W by rw [hW]; exact Kp.alloc HW.out _)
  have HWW := Lib.hid (show Wr 68 b pre W by rw [hW]; exact HW.out.alloc _)
  have hbx0 : W.heap[w.heap.size]? = some (.cells #[.int .i8 op, .string v, .int .i8 k, .int .i64 x, .string t, .slice (some ⟨a, o, none⟩) 2 cap] 83 (0, 0)) := by rw [hW]; exact heap_alloc_new w _
  obtain ⟨x0, x1, x2, x3, x4, x5⟩ := six hbx0
  have HBX0 := Lib.hid hbx0; clear hbx0
  have HTW := Lib.hid (HT.out.at (HEn.out.kp HKW.out).bel)
  have hh1 : W.cell? ⟨1, op.toNat, none⟩ = some (.int .i64 (holdI op)) := HTW.out.hold op.toNat (by omega)
  have hh2 : W.cell? ⟨1, (exOp d e).toNat, none⟩ = some (.int .i64 (holdI (exOp d e))) := HTW.out.hold _ (by omega)
  obtain ⟨sg, hsg⟩ : ∃ sg, sg = signL.getD op.toNat ⟨#[]⟩ := ⟨_, rfl⟩
  have HSG := Lib.hid hsg
  rw [← hsg] at hl ⊢
  clear hsg
  have HL := Lib.hid hl; clear hl
  obtain ⟨ea, hea⟩ : ∃ l, l = sideL (exprL d e) (decide (holdI (exOp d e) < holdI op)) := ⟨_, rfl⟩
  obtain ⟨fa, hfa⟩ : ∃ l, l = sideL (exprL d f) (decide (holdI (exOp d f) ≤ holdI op)) := ⟨_, rfl⟩
  have HEA := Lib.hid hea
  have HFA := Lib.hid hfa
  rw [← hea, ← hfa] at HL ⊢
  clear hea hfa
  obtain ⟨out, hout⟩ : ∃ l, l = ea ++ (32 :: (bl sg ++ [32])) ++ fa := ⟨_, rfl⟩
  have HOUT := Lib.hid hout
  rw [← hout]
  clear hout
  obtain ⟨c0, c1, c2, c3, c4, c5⟩ := HC.out.up (HEn.out.kp HKW.out).bel ha
  go_enter Tryd.func48, Tryd.ntmps48
  go_wp2_with fail
  rw [← hW]
  clear hW
  go_still_tail 17, (by kernel_rfl)
  change wpList _ _ _ _ _ W.drew
  have HWd := Lib.hid (Wr.drew HWW.out)
  have HKd := Lib.hid (Kp.of_below HWW.out.lt ((Below.refl _ W).drew))
  have hbx1 : W.drew.heap[w.heap.size]? = some (.cells #[.int .i8 op, .string v, .int .i8 k, .int .i64 x, .string t, .slice (some ⟨a, o, none⟩) 2 cap] 83 (0, 0)) := HBX0.out
  clear x0 x1 x2 x3 x4 x5 c0 c1 c2 c3 c4 c5 hh1 hh2
  obtain ⟨Wd, hWd⟩ : ∃ Wd, Wd = W.drew := ⟨_, rfl⟩
  rw [← hWd] at HWd HKd hbx1 ⊢
  clear hWd
  have HBX1 := Lib.hid hbx1; clear hbx1
  go_wp2_with fail
  refine (pSide d IH.out w0 e n b (decide (holdI (exOp d e) < holdI op)) pre _ HO.out (HEn.out.kp (HKW.out.trans HKd.out)) HT.out HA.out HR.out HWd.out (by rw [← HEA.out]; have := HL.out; omega)).mono ?_
  rintro r w1 ⟨rfl, hw1, hk1⟩
  have hbx := hk1.cell HBX1.out hbw.symm (by decide)
  obtain ⟨x0, x1, x2, x3, x4, x5⟩ := six hbx
  have HB1 := Lib.hid hbx; clear hbx
  have H1 := Lib.hid (wr_eq (by rw [← HEA.out]) hw1)
  have hlt1 := hw1.lt; clear hw1
  have HK1 := Lib.hid ((HKW.out.trans HKd.out).trans hk1); clear hk1
  have HT1 := Lib.hid (HT.out.at (HEn.out.kp HK1.out).bel)
  have hs1 : w1.cell? ⟨3, op.toNat, none⟩ = some (.string sg) := by rw [HSG.out]; exact HT1.out.signs op.toNat (by omega)
  have h91 : 9 ≤ w1.heap.size := HT1.out.size
  have hs2 : 3 < w1.heap.size := by omega
  have r8 : op.toNat < 8 := by omega
  have r9 : op < 8 := by omega
  go_wp2_with fail
  refine (pPut b w1.heap.size _ [⟨#[32]⟩, sg, ⟨#[32]⟩] 3 _ (H1.out.alloc _) (by have := HL.out; simp [catL, bl] at this ⊢; omega) (by simp) (heap_alloc_new w1 _) (by omega)).mono ?_
  rintro r w2 ⟨rfl, hw2, hk2⟩
  clear x0 x1 x2 x3 x4 x5 hs1
  have hbx2 := ((Kp.alloc H1.out _).trans hk2).cell HB1.out hbw.symm (by decide)
  obtain ⟨x0, x1, x2, x3, x4, x5⟩ := six hbx2
  have HB2 := Lib.hid hbx2; clear hbx2
  have H2 := Lib.hid (wr_eq (m := pre ++ ea ++ (32 :: (bl sg ++ [32]))) (by simp [catL, bl]) hw2)
  have hlt2 := hw2.lt; clear hw2
  have HK2 := Lib.hid ((HK1.out.trans (Kp.alloc H1.out _)).trans hk2); clear hk2
  have HT2 := Lib.hid (HT.out.at (HEn.out.kp HK2.out).bel)
  have hh1 : w2.cell? ⟨1, op.toNat, none⟩ = some (.int .i64 (holdI op)) := HT2.out.hold op.toNat (by omega)
  have hh2 : w2.cell? ⟨1, (exOp d f).toNat, none⟩ = some (.int .i64 (holdI (exOp d f))) := HT2.out.hold _ (by omega)
  have s3 : exOp d f < 11 := by omega
  have s4 : (exOp d f).toNat < 11 := by omega
  obtain ⟨c0, c1, c2, c3, c4, c5⟩ := HC'.out.up (HEn.out.kp HK2.out).bel ha
  go_wp2_with fail
  go_still_tail 17, (by kernel_rfl)
  change wpList _ _ _ _ _ w2.drew
  have HW2d := Lib.hid (Wr.drew H2.out)
  have HK2d := Lib.hid (Kp.of_below H2.out.lt ((Below.refl _ w2).drew))
  clear x0 x1 x2 x3 x4 x5 c0 c1 c2 c3 c4 c5 hh1 hh2
  obtain ⟨W2, hW2⟩ : ∃ W2, W2 = w2.drew := ⟨_, rfl⟩
  rw [← hW2] at HW2d HK2d ⊢
  clear hW2
  go_wp2_with fail
  refine (pSide d IH.out w0 f n b (decide (holdI (exOp d f) ≤ holdI op)) _ _ HO'.out (HEn.out.kp (HK2.out.trans HK2d.out)) HT.out HA'.out HR'.out HW2d.out (by rw [← HFA.out]; have := HL.out; simp at this ⊢; omega)).mono ?_
  rintro r w3 ⟨rfl, hw3, hk3⟩
  have H3 := Lib.hid (wr_eq (m := pre ++ out) (by rw [← HFA.out, HOUT.out]; simp) hw3); clear hw3
  have HK3 := Lib.hid hk3; clear hk3
  go_wp2_with fail
  go_end0
  exact ⟨rfl, H3.out, (HK2.out.trans HK2d.out).trans HK3.out⟩
end Go.Proofs.YtdgbenadoaecoaaDoor

/- The contract of the writer's expr at a minus. Conditions: the expression lies in memory as it is told; what is held and what is written together take at most 2^47 bytes. -/
namespace Go.Proofs.YtdgbenadoaecoaaDoor
open Go.RowKit

theorem still_eq {P : Program} {ops : Array Oper} {w : World} {Q : Act → Prop} {a : Act} {o : Oper} {rest : List Oper} (hw : Region.wanted o (yielded ops a.tmps) = false) : wpStill P ops w Q (o :: rest) a = wpStill P ops w Q rest (a.put o.dst undef) := by
  show (if _ then _ else _) = _
  rw [if_neg (by rw [hw]; exact Bool.false_ne_true)]
theorem ex_sl {w : World} : {d : Nat} → {e : Ex d} → ExAt w d e → ∃ p l c, exSl d e = .slice p l c
  | 0, e, _ => nomatch e
  | _ + 1, _, ⟨p, cap, h1, _⟩ => ⟨p, _, cap, h1⟩
set_option maxHeartbeats 8000000 in
set_option maxRecDepth 100000 in
theorem wNeg (d : Nat) (ih : WritesAt d) (w0 : World) (e : Ex d) (n b a o cap : Nat) (v : ByteArray) (k x : Int) (t : ByteArray) (pre : List UInt8) (w : World)
    (ho : exOk n d e = true) (hE : Env w0 b w) (hT : Tabs w0) (ha : a < w0.heap.size) (hc : ExCell w0 a o (exOp d e) (exTm d e) (exSl d e)) (he : ExAt w0 d e) (hr : ExR d e) (hw : Wr 68 b pre w)
    (hl : pre.length + (1 + (sideL (exprL d e) (negB (exOp d e) (exTm d e))).length) ≤ 140737488355328) :
    Calls Tryd.prog 48 #[.pointer (some ⟨b, 0, none⟩), .agg #[.int .i8 1, .string v, .int .i8 k, .int .i64 x, .string t, .slice (some ⟨a, o, none⟩) 1 cap]] w
      (Wrote b pre (45 :: sideL (exprL d e) (negB (exOp d e) (exTm d e))) w) := by
  obtain ⟨r1, r2⟩ := op_range ho
  have HO := Lib.hid ho; clear ho
  have HEn := Lib.hid hE; clear hE
  have HT := Lib.hid hT; clear hT
  have HA := Lib.hid he; clear he
  have HR := Lib.hid hr; clear hr
  have IH := Lib.hid ih; clear ih
  have HC := Lib.hid hc; clear hc
  have HW := Lib.hid hw
  have hlt := hw.lt; clear hw
  have HL := Lib.hid hl; clear hl
  have r3 : exOp d e < 11 := by omega
  have r4 : (exOp d e).toNat < 11 := by omega
  have hbw : b ≠ w.heap.size := by omega
  have hbw1 : b ≠ w.heap.size + 1 := by omega
  have hal : a < w.heap.size := Nat.lt_of_lt_of_le ha HEn.out.bel.size
  obtain ⟨out, hout⟩ : ∃ l, l = 45 :: sideL (exprL d e) (negB (exOp d e) (exTm d e)) := ⟨_, rfl⟩
  have HOUT := Lib.hid hout
  rw [← hout]
  clear hout
  obtain ⟨p, l, cp, hsl⟩ := ex_sl HA.out
  obtain ⟨c0, c1, c2, c3, c4, c5⟩ := HC.out.up HEn.out.bel ha
  rw [hsl] at c5
  have HSL := Lib.hid hsl; clear hsl
  go_enter Tryd.func48, Tryd.ntmps48
  go_wp2_with fail
  refine (pPut b (w.heap.size + 2) pre [⟨#[45]⟩] 1 _ (((HW.out.alloc _).alloc _).alloc _) (by rw [catL_one]; have := HL.out; simp [bl]; omega) (by simp) (by simpa using heap_alloc_new ((w.alloc _).alloc _) _) (by omega)).mono ?_
  rintro r w1 ⟨rfl, hw1, hk1⟩
  clear c0 c1 c2 c3 c4 c5
  have hbxa := hk1.cell (k := w.heap.size) (c := #[.int .i8 1, .string v, .int .i8 k, .int .i64 x, .string t, .slice (some ⟨a, o, none⟩) 1 cap]) (t := 83) (fz := (0, 0)) (by rw [Lib.alloc_old _ _ _ (by simp; omega), Lib.alloc_old _ _ _ (by simp)]; exact heap_alloc_new w _) hbw.symm (by decide)
  have hbxb := hk1.cell (k := w.heap.size + 1) (c := #[.int .i8 (exOp d e), .string (exTm d e).v, .int .i8 (exTm d e).x.k, .int .i64 (exTm d e).x.n, .string (exTm d e).x.t, .slice p l cp]) (t := 83) (fz := (0, 0)) (by rw [Lib.alloc_old _ _ _ (by simp)]; simpa using heap_alloc_new (w.alloc _) _) hbw1.symm (by decide)
  obtain ⟨x0, x1, x2, x3, x4, x5⟩ := six hbxa
  obtain ⟨y0, y1, y2, y3, y4, y5⟩ := six hbxb
  clear hbxa hbxb
  have H1 := Lib.hid (wr_eq (m := pre ++ [45]) (by rw [catL_one]) hw1)
  have hlt1 := hw1.lt; clear hw1
  have HK1 := Lib.hid ((((Kp.alloc HW.out _).trans (Kp.alloc (HW.out.alloc _) _)).trans (Kp.alloc ((HW.out.alloc _).alloc _) _)).trans hk1); clear hk1
  have HT1 := Lib.hid (HT.out.at (HEn.out.kp HK1.out).bel)
  have hh1 : w1.cell? ⟨1, 1, none⟩ = some (.int .i64 3) := HT1.out.hold 1 (by omega)
  have hh2 : w1.cell? ⟨1, (exOp d e).toNat, none⟩ = some (.int .i64 (holdI (exOp d e))) := HT1.out.hold _ (by omega)
  have HN0 := Lib.hid (show negB (exOp d e) (exTm d e) = (decide (holdI (exOp d e) < 3) || (exOp d e == 0 && (exTm d e).v.toList.isEmpty && (exTm d e).x.k == 1 && decide (0 ≤ (exTm d e).x.n))) by unfold negB bl; rw [← ByteArray.toList_eq]; rfl)
  go_wp2_with fail
  rcases hA : decide (holdI (exOp d e) < 3) with _ | _
  case true =>
    have HN := Lib.hid (show negB (exOp d e) (exTm d e) = true by rw [HN0.out, hA]; rfl)
    refine wp_region_still_tail 36 (by kernel_rfl) (by kernel_rfl) ?_
    simp only [List.take_succ_cons, List.take_zero, List.drop_succ_cons, List.drop_zero]
    iterate 12 still_step
    iterate 23 (rewrite [still_eq (by kernel_rfl)]; simp only [Act.put, List.setIfInBounds_toArray, List.set_cons_zero, List.set_cons_succ])
    iterate 1 still_step
    refine wpStill_nil ?_
    change wpList _ _ _ _ _ w1.drew
    have HWd := Lib.hid (Wr.drew H1.out)
    have HKd := Lib.hid (HK1.out.trans (Kp.of_below H1.out.lt ((Below.refl _ w1).drew)))
    clear x0 x1 x2 x3 x4 x5 y0 y1 y2 y3 y4 y5 hh1 hh2
    obtain ⟨Wd, hWd⟩ : ∃ Wd, Wd = w1.drew := ⟨_, rfl⟩
    rw [← hWd] at HWd HKd ⊢
    clear hWd
    go_wp2_with fail
    rw [← HSL.out]
    refine (pSide d IH.out w0 e n b true _ _ HO.out (HEn.out.kp HKd.out) HT.out HA.out HR.out HWd.out (by rw [← HN.out]; have := HL.out; simp at this ⊢; omega)).mono ?_
    rintro r w2 ⟨rfl, hw2, hk2⟩
    have H2 := Lib.hid (wr_eq (m := pre ++ out) (by rw [HOUT.out, HN.out]; simp) hw2); clear hw2
    have HK2 := Lib.hid hk2; clear hk2
    go_wp2_with fail
    go_end0
    exact ⟨rfl, H2.out, HKd.out.trans HK2.out⟩
  rcases hB : (exOp d e == 0) with _ | _
  case false =>
    have HN := Lib.hid (show negB (exOp d e) (exTm d e) = false by rw [HN0.out, hA, hB]; rfl)
    refine wp_region_still_tail 36 (by kernel_rfl) (by kernel_rfl) ?_
    simp only [List.take_succ_cons, List.take_zero, List.drop_succ_cons, List.drop_zero]
    iterate 16 still_step
    iterate 4 (rewrite [still_eq (by kernel_rfl)]; simp only [Act.put, List.setIfInBounds_toArray, List.set_cons_zero, List.set_cons_succ])
    iterate 2 still_step
    iterate 5 (rewrite [still_eq (by kernel_rfl)]; simp only [Act.put, List.setIfInBounds_toArray, List.set_cons_zero, List.set_cons_succ])
    iterate 2 still_step
    iterate 5 (rewrite [still_eq (by kernel_rfl)]; simp only [Act.put, List.setIfInBounds_toArray, List.set_cons_zero, List.set_cons_succ])
    iterate 2 still_step
    refine wpStill_nil ?_
    change wpList _ _ _ _ _ w1.drew
    have HWd := Lib.hid (Wr.drew H1.out)
    have HKd := Lib.hid (HK1.out.trans (Kp.of_below H1.out.lt ((Below.refl _ w1).drew)))
    clear x0 x1 x2 x3 x4 x5 y0 y1 y2 y3 y4 y5 hh1 hh2
    obtain ⟨Wd, hWd⟩ : ∃ Wd, Wd = w1.drew := ⟨_, rfl⟩
    rw [← hWd] at HWd HKd ⊢
    clear hWd
    go_wp2_with fail
    rw [← HSL.out]
    refine (pSide d IH.out w0 e n b false _ _ HO.out (HEn.out.kp HKd.out) HT.out HA.out HR.out HWd.out (by rw [← HN.out]; have := HL.out; simp at this ⊢; omega)).mono ?_
    rintro r w2 ⟨rfl, hw2, hk2⟩
    have H2 := Lib.hid (wr_eq (m := pre ++ out) (by rw [HOUT.out, HN.out]; simp) hw2); clear hw2
    have HK2 := Lib.hid hk2; clear hk2
    go_wp2_with fail
    go_end0
    exact ⟨rfl, H2.out, HKd.out.trans HK2.out⟩
  rcases hC : (exTm d e).v.toList.isEmpty with _ | _
  case false =>
    have HN := Lib.hid (show negB (exOp d e) (exTm d e) = false by rw [HN0.out, hA, hB, hC]; rfl)
    refine wp_region_still_tail 36 (by kernel_rfl) (by kernel_rfl) ?_
    simp only [List.take_succ_cons, List.take_zero, List.drop_succ_cons, List.drop_zero]
    iterate 20 still_step
    iterate 2 still_step
    iterate 5 (rewrite [still_eq (by kernel_rfl)]; simp only [Act.put, List.setIfInBounds_toArray, List.set_cons_zero, List.set_cons_succ])
    iterate 2 still_step
    iterate 5 (rewrite [still_eq (by kernel_rfl)]; simp only [Act.put, List.setIfInBounds_toArray, List.set_cons_zero, List.set_cons_succ])
    iterate 2 still_step
    refine wpStill_nil ?_
    change wpList _ _ _ _ _ w1.drew
    have HWd := Lib.hid (Wr.drew H1.out)
    have HKd := Lib.hid (HK1.out.trans (Kp.of_below H1.out.lt ((Below.refl _ w1).drew)))
    clear x0 x1 x2 x3 x4 x5 y0 y1 y2 y3 y4 y5 hh1 hh2
    obtain ⟨Wd, hWd⟩ : ∃ Wd, Wd = w1.drew := ⟨_, rfl⟩
    rw [← hWd] at HWd HKd ⊢
    clear hWd
    go_wp2_with fail
    rw [← HSL.out]
    refine (pSide d IH.out w0 e n b false _ _ HO.out (HEn.out.kp HKd.out) HT.out HA.out HR.out HWd.out (by rw [← HN.out]; have := HL.out; simp at this ⊢; omega)).mono ?_
    rintro r w2 ⟨rfl, hw2, hk2⟩
    have H2 := Lib.hid (wr_eq (m := pre ++ out) (by rw [HOUT.out, HN.out]; simp) hw2); clear hw2
    have HK2 := Lib.hid hk2; clear hk2
    go_wp2_with fail
    go_end0
    exact ⟨rfl, H2.out, HKd.out.trans HK2.out⟩
  rcases hD : ((exTm d e).x.k == 1) with _ | _
  case false =>
    have HN := Lib.hid (show negB (exOp d e) (exTm d e) = false by rw [HN0.out, hA, hB, hC, hD]; rfl)
    refine wp_region_still_tail 36 (by kernel_rfl) (by kernel_rfl) ?_
    simp only [List.take_succ_cons, List.take_zero, List.drop_succ_cons, List.drop_zero]
    iterate 29 still_step
    iterate 5 (rewrite [still_eq (by kernel_rfl)]; simp only [Act.put, List.setIfInBounds_toArray, List.set_cons_zero, List.set_cons_succ])
    iterate 2 still_step
    refine wpStill_nil ?_
    change wpList _ _ _ _ _ w1.drew
    have HWd := Lib.hid (Wr.drew H1.out)
    have HKd := Lib.hid (HK1.out.trans (Kp.of_below H1.out.lt ((Below.refl _ w1).drew)))
    clear x0 x1 x2 x3 x4 x5 y0 y1 y2 y3 y4 y5 hh1 hh2
    obtain ⟨Wd, hWd⟩ : ∃ Wd, Wd = w1.drew := ⟨_, rfl⟩
    rw [← hWd] at HWd HKd ⊢
    clear hWd
    go_wp2_with fail
    rw [← HSL.out]
    refine (pSide d IH.out w0 e n b false _ _ HO.out (HEn.out.kp HKd.out) HT.out HA.out HR.out HWd.out (by rw [← HN.out]; have := HL.out; simp at this ⊢; omega)).mono ?_
    rintro r w2 ⟨rfl, hw2, hk2⟩
    have H2 := Lib.hid (wr_eq (m := pre ++ out) (by rw [HOUT.out, HN.out]; simp) hw2); clear hw2
    have HK2 := Lib.hid hk2; clear hk2
    go_wp2_with fail
    go_end0
    exact ⟨rfl, H2.out, HKd.out.trans HK2.out⟩
  rcases hE : decide (0 ≤ (exTm d e).x.n) with _ | _
  case false =>
    have HN := Lib.hid (show negB (exOp d e) (exTm d e) = false by rw [HN0.out, hA, hB, hC, hD, hE]; rfl)
    refine wp_region_still_tail 36 (by kernel_rfl) (by kernel_rfl) ?_
    simp only [List.take_succ_cons, List.take_zero, List.drop_succ_cons, List.drop_zero]
    iterate 36 still_step
    refine wpStill_nil ?_
    change wpList _ _ _ _ _ w1.drew
    have HWd := Lib.hid (Wr.drew H1.out)
    have HKd := Lib.hid (HK1.out.trans (Kp.of_below H1.out.lt ((Below.refl _ w1).drew)))
    clear x0 x1 x2 x3 x4 x5 y0 y1 y2 y3 y4 y5 hh1 hh2
    obtain ⟨Wd, hWd⟩ : ∃ Wd, Wd = w1.drew := ⟨_, rfl⟩
    rw [← hWd] at HWd HKd ⊢
    clear hWd
    go_wp2_with fail
    rw [← HSL.out]
    refine (pSide d IH.out w0 e n b false _ _ HO.out (HEn.out.kp HKd.out) HT.out HA.out HR.out HWd.out (by rw [← HN.out]; have := HL.out; simp at this ⊢; omega)).mono ?_
    rintro r w2 ⟨rfl, hw2, hk2⟩
    have H2 := Lib.hid (wr_eq (m := pre ++ out) (by rw [HOUT.out, HN.out]; simp) hw2); clear hw2
    have HK2 := Lib.hid hk2; clear hk2
    go_wp2_with fail
    go_end0
    exact ⟨rfl, H2.out, HKd.out.trans HK2.out⟩
  case true =>
    have HN := Lib.hid (show negB (exOp d e) (exTm d e) = true by rw [HN0.out, hA, hB, hC, hD, hE]; rfl)
    refine wp_region_still_tail 36 (by kernel_rfl) (by kernel_rfl) ?_
    simp only [List.take_succ_cons, List.take_zero, List.drop_succ_cons, List.drop_zero]
    iterate 36 still_step
    refine wpStill_nil ?_
    change wpList _ _ _ _ _ w1.drew
    have HWd := Lib.hid (Wr.drew H1.out)
    have HKd := Lib.hid (HK1.out.trans (Kp.of_below H1.out.lt ((Below.refl _ w1).drew)))
    clear x0 x1 x2 x3 x4 x5 y0 y1 y2 y3 y4 y5 hh1 hh2
    obtain ⟨Wd, hWd⟩ : ∃ Wd, Wd = w1.drew := ⟨_, rfl⟩
    rw [← hWd] at HWd HKd ⊢
    clear hWd
    go_wp2_with fail
    rw [← HSL.out]
    refine (pSide d IH.out w0 e n b true _ _ HO.out (HEn.out.kp HKd.out) HT.out HA.out HR.out HWd.out (by rw [← HN.out]; have := HL.out; simp at this ⊢; omega)).mono ?_
    rintro r w2 ⟨rfl, hw2, hk2⟩
    have H2 := Lib.hid (wr_eq (m := pre ++ out) (by rw [HOUT.out, HN.out]; simp) hw2); clear hw2
    have HK2 := Lib.hid hk2; clear hk2
    go_wp2_with fail
    go_end0
    exact ⟨rfl, H2.out, HKd.out.trans HK2.out⟩
end Go.Proofs.YtdgbenadoaecoaaDoor

/- The writer's expr at every expression that may be, by its depth; how long such a text is. Conditions: the expression lies in memory as it is told; what is held and what is written together take at most 2^47 bytes. -/
namespace Go.Proofs.YtdgbenadoaecoaaDoor
open Go.RowKit

theorem arity_one {op : Int} {n : Nat} (h : ((n : Nat) : Int) = arityI op) : (n = 1 ∧ (op = 1 ∨ (8 ≤ op ∧ op ≤ 10))) ∨ (n = 2 ∧ 2 ≤ op ∧ op ≤ 7) := by
  unfold arityI at h
  split at h
  · omega
  · split at h <;> omega
theorem ex_open {n d : Nat} {op : Int} {tm : Tm} {sl : Value} {ks : List (Ex d)} (h : exOk (n + 1) (d + 1) (op, tm, sl, ks) = true) :
    (op = 0 ∧ ks = [] ∧ solidB tm = true) ∨ (∃ k, op = 1 ∧ ks = [k] ∧ exOk n d k = true) ∨ (∃ k, 8 ≤ op ∧ op ≤ 10 ∧ ks = [k] ∧ exOk n d k = true) ∨
      (∃ k m, 2 ≤ op ∧ op ≤ 7 ∧ ks = [k, m] ∧ exOk n d k = true ∧ exOk n d m = true) := by
  have h2 : (if op = 0 then ks.isEmpty && solidB tm else tmZero tm && decide ((ks.length : Int) = arityI op) && ks.all (exOk n d)) = true := h
  clear h
  by_cases h0 : op = 0
  · rw [if_pos h0] at h2
    simp only [Bool.and_eq_true, List.isEmpty_iff] at h2
    exact .inl ⟨h0, h2.1, h2.2⟩
  · rw [if_neg h0] at h2
    simp only [Bool.and_eq_true, decide_eq_true_eq, List.all_eq_true] at h2
    obtain ⟨⟨_, hlen⟩, hall⟩ := h2
    have hl := arity_one hlen
    match ks, hl, hall with
    | [], hl, _ => simp at hl
    | [k], hl, hall =>
      rcases hl with ⟨_, h | h⟩ | ⟨h, _⟩
      · exact .inr (.inl ⟨k, h, rfl, hall k (by simp)⟩)
      · exact .inr (.inr (.inl ⟨k, h.1, h.2, rfl, hall k (by simp)⟩))
      · simp at h
    | [k, m], hl, hall =>
      rcases hl with ⟨h, _⟩ | ⟨_, h⟩
      · simp at h
      · exact .inr (.inr (.inr ⟨k, m, h.1, h.2, rfl, hall k (by simp), hall m (by simp)⟩))
    | _ :: _ :: _ :: _, hl, _ => simp at hl
theorem exprL_term {d : Nat} (tm : Tm) (sl : Value) (ks : List (Ex d)) : exprL (d + 1) ((0 : Int), tm, sl, ks) = termL tm := rfl
theorem exprL_neg {d : Nat} (tm : Tm) (sl : Value) (k : Ex d) : exprL (d + 1) ((1 : Int), tm, sl, [k]) = 45 :: sideL (exprL d k) (negB (exOp d k) (exTm d k)) := rfl
theorem exprL_word {d : Nat} {op : Int} (tm : Tm) (sl : Value) (k : Ex d) (h : 8 ≤ op) : exprL (d + 1) (op, tm, sl, [k]) = bl (wordL.getD op.toNat ⟨#[]⟩) ++ sideL (exprL d k) true := by
  show (if op = 0 then _ else if op = 1 then _ else _) = _
  rw [if_neg (by omega), if_neg (by omega)]
theorem exprL_two {d : Nat} {op : Int} (tm : Tm) (sl : Value) (k m : Ex d) (h : 2 ≤ op) : exprL (d + 1) (op, tm, sl, [k, m]) =
    sideL (exprL d k) (decide (holdI (exOp d k) < holdI op)) ++ (32 :: (bl (signL.getD op.toNat ⟨#[]⟩) ++ [32])) ++ sideL (exprL d m) (decide (holdI (exOp d m) ≤ holdI op)) := by
  show (if op = 0 then _ else _) = _
  rw [if_neg (by omega)]
theorem sign_len : ∀ i, i < 8 → (bl (signL.getD i ⟨#[]⟩)).length ≤ 1 := by decide
theorem word_len : ∀ i, i < 11 → (bl (wordL.getD i ⟨#[]⟩)).length ≤ 5 := by decide
theorem sideL_le (l : List UInt8) (b : Bool) : (sideL l b).length ≤ l.length + 2 := by
  cases b <;> simp [sideL]
theorem solid_ok {t : Tm} (h : solidB t = true) : tmOk t = true := by
  simp only [solidB, Bool.and_eq_true] at h
  exact h.2
theorem exprL_le : ∀ (n d : Nat) (e : Ex d), exOk n d e = true → ExR d e → (exprL d e).length + 8 ≤ 810 * 2 ^ n
  | _, 0, e, _, _ => nomatch e
  | 0, _ + 1, _, h, _ => nomatch h
  | n + 1, d + 1, (op, tm, sl, ks), h, hr => by
    obtain ⟨_, htr, hrk⟩ := hr
    have hp : 1 ≤ 2 ^ n := Nat.one_le_two_pow
    have hq : (2 : Nat) ^ (n + 1) = 2 * 2 ^ n := by rw [Nat.pow_succ]; omega
    rcases ex_open h with ⟨rfl, rfl, hs⟩ | ⟨k, rfl, rfl, hk⟩ | ⟨k, h8, h10, rfl, hk⟩ | ⟨k, m, h2, h7, rfl, hk, hm⟩
    · rw [exprL_term]
      have : (termL tm).length ≤ 802 := termL_le htr (solid_ok hs)
      omega
    · rw [exprL_neg]
      have h1 := exprL_le n d k hk (hrk k (by simp))
      have h2 := sideL_le (exprL d k) (negB (exOp d k) (exTm d k))
      simp only [List.length_cons]
      omega
    · rw [exprL_word tm sl k h8]
      have h1 := exprL_le n d k hk (hrk k (by simp))
      have h2 := sideL_le (exprL d k) true
      have h3 := word_len op.toNat (by omega)
      simp only [List.length_append]
      omega
    · rw [exprL_two tm sl k m h2]
      have h1 := exprL_le n d k hk (hrk k (by simp))
      have h3 := exprL_le n d m hm (hrk m (by simp))
      have h4 := sideL_le (exprL d k) (decide (holdI (exOp d k) < holdI op))
      have h5 := sideL_le (exprL d m) (decide (holdI (exOp d m) ≤ holdI op))
      have h6 := sign_len op.toNat (by omega)
      simp only [List.length_append, List.length_cons, List.length_nil]
      omega
theorem writes_step (d : Nat) (ih : WritesAt d) : WritesAt (d + 1) := by
  intro w0 e n b pre w ho hE hT he hr hw hl
  obtain ⟨op, tm, sl, ks⟩ := e
  cases n with
  | zero => cases ho
  | succ n =>
    obtain ⟨p, cap, h1, hm, hs, hk⟩ := he
    obtain ⟨_, htr, hrk⟩ := hr
    have h1' : sl = .slice p ks.length cap := h1
    clear h1
    subst h1'
    obtain ⟨v, ⟨kd, x, t⟩⟩ := tm
    rcases ex_open ho with ⟨rfl, rfl, hs⟩ | ⟨k, rfl, rfl, hok⟩ | ⟨k, h8, h10, rfl, hok⟩ | ⟨k, m, h2, h7, rfl, hok, hom⟩
    · rw [exprL_term] at hl ⊢
      exact wTerm b pre v kd x t _ w htr (hT.at hE.bel) hw hl
    · rw [exprL_neg] at hl ⊢
      rcases hs with hs | ⟨a, o, hp, ha, hc⟩
      · simp at hs
      · have hp' : p = some ⟨a, o, none⟩ := hp
        subst hp'
        have hc0 := hc 0 (by simp)
        rw [Nat.zero_mul, Nat.add_zero] at hc0
        exact wNeg d ih w0 k n b a o cap v kd x t pre w hok hE hT ha hc0 (hk k (by simp)) (hrk k (by simp)) hw (by simp only [List.length_cons] at hl; omega)
    · rw [exprL_word _ _ k h8] at hl ⊢
      rcases hs with hs | ⟨a, o, hp, ha, hc⟩
      · simp at hs
      · have hp' : p = some ⟨a, o, none⟩ := hp
        subst hp'
        have hc0 := hc 0 (by simp)
        rw [Nat.zero_mul, Nat.add_zero] at hc0
        exact wWord d ih w0 k n b a o cap op v kd x t pre w h8 h10 hok hE hT ha hc0 (hk k (by simp)) (hrk k (by simp)) hw (by simp only [List.length_append] at hl; omega)
    · rw [exprL_two _ _ k m h2] at hl ⊢
      rcases hs with hs | ⟨a, o, hp, ha, hc⟩
      · simp at hs
      · have hp' : p = some ⟨a, o, none⟩ := hp
        subst hp'
        have hc0 := hc 0 (by simp)
        have hc1 := hc 1 (by simp)
        rw [Nat.zero_mul, Nat.add_zero] at hc0
        rw [Nat.one_mul] at hc1
        exact wTwo d ih w0 k m n b a o cap op v kd x t pre w h2 h7 hok hom hE hT ha hc0 hc1 (hk k (by simp)) (hk m (by simp)) (hrk k (by simp)) (hrk m (by simp)) hw (by simp only [List.length_append, List.length_cons, List.length_nil] at hl; omega)
theorem writes_all : ∀ d, WritesAt d
  | 0 => fun _ e => nomatch e
  | d + 1 => writes_step d (writes_all d)
end Go.Proofs.YtdgbenadoaecoaaDoor

/- The contract of print.Expr. Conditions: the expression lies in memory as it is told. -/
namespace Go.Proofs.YtdgbenadoaecoaaDoor
open Go.RowKit

theorem exprL_len {d : Nat} {e : Ex d} (h : exOk 8 d e = true) (hr : ExR d e) : (exprL d e).length ≤ 207352 := by
  have := exprL_le 8 d e h hr
  omega
set_option maxHeartbeats 1000000 in
theorem pToldE (d : Nat) (e : Ex d) (w : World) (he : ExAt w d e) (hr : ExR d e) (hT : Tabs w) :
    Calls Tryd.prog 46 #[.agg #[.int .i8 (exOp d e), .string (exTm d e).v, .int .i8 (exTm d e).x.k, .int .i64 (exTm d e).x.n, .string (exTm d e).x.t, exSl d e], .func (.func 47) #[] #[], .func (.func 48) #[] #[]] w (TextPost (exOk 8 d e) (exprL d e) w) := by
  obtain ⟨p, l, cp, hsl⟩ := ex_sl he
  have HE := Lib.hid he; clear he
  have HR := Lib.hid hr; clear hr
  have HT := Lib.hid hT; clear hT
  rw [hsl]
  have HSL := Lib.hid hsl; clear hsl
  rcases hx : exOk 8 d e with _ | _
  all_goals have HX := Lib.hid hx
  all_goals rw [← hx]
  all_goals clear hx
  · go_enter Tryd.func46, Tryd.ntmps46
    go_wp2_with fail
    rw [← HSL.out]
    refine (tCheckExpr d e _ (HE.out.up (below_alloc _ _) d e) HR.out).mono ?_
    rintro r w1 ⟨rfl, hb⟩
    have Hb := Lib.hid hb; clear hb
    rw [HX.out, show okCode false 40 = 40 from rfl]
    go_wp2_with fail
    go_ret2
    exact ⟨ret_no HX.out, (below_alloc _ _).trans (Hb.out.mono (by simp))⟩
  · have HL := Lib.hid (exprL_len HX.out HR.out)
    go_enter Tryd.func46, Tryd.ntmps46
    go_wp2_with fail
    rw [← HSL.out]
    refine (tCheckExpr d e _ (HE.out.up (below_alloc _ _) d e) HR.out).mono ?_
    rintro r w1 ⟨rfl, hb⟩
    obtain ⟨hc, hf⟩ := bcell hb
    have Hb := Lib.hid hb; clear hb
    have hsz1 : w.heap.size < w1.heap.size := by have := Hb.out.size; simp at this; omega
    rw [HX.out, show okCode true 40 = 0 from rfl]
    go_wp2_with fail
    clear hc hf
    refine (writes_all d w e 8 w1.heap.size [] _ HX.out ⟨by omega, ((below_alloc _ _).trans (Hb.out.mono (by simp))).trans ((below_alloc w1 _).mono (by omega))⟩ HT.out HE.out HR.out (wr_fresh _ w1) (by have := HL.out; simp; omega)).mono ?_
    rintro r w2 ⟨rfl, hw2, hk2⟩
    have H2 := Lib.hid hw2; clear hw2
    have HK2 := Lib.hid hk2; clear hk2
    go_wp2_with fail
    refine (bText w1.heap.size _ _ H2.out).mono ?_
    rintro r w3 ⟨rfl, hk3⟩
    have HK3 := Lib.hid hk3; clear hk3
    go_wp2_with fail
    go_ret2
    exact ⟨ret_yes HX.out, (((below_alloc _ _).trans (Hb.out.mono (by simp))).trans ((below_alloc w1 _).mono (by omega))).trans ((HK2.out.trans HK3.out).below.mono (by omega))⟩
theorem pExprT (d : Nat) (e : Ex d) (w : World) (he : ExAt w d e) (hr : ExR d e) (hT : Tabs w) :
    Calls Tryd.prog 27 #[.agg #[.int .i8 (exOp d e), .string (exTm d e).v, .int .i8 (exTm d e).x.k, .int .i64 (exTm d e).x.n, .string (exTm d e).x.t, exSl d e]] w (TextPost (exOk 8 d e) (exprL d e) w) := by
  obtain ⟨p, l, cp, hsl⟩ := ex_sl he
  have HE := Lib.hid he; clear he
  have HR := Lib.hid hr; clear hr
  have HT := Lib.hid hT; clear hT
  rw [hsl]
  have HSL := Lib.hid hsl; clear hsl
  go_enter Tryd.func27, Tryd.ntmps27
  go_wp2_with fail
  rw [← HSL.out]
  refine (pToldE d e _ (HE.out.up (below_alloc _ _) d e) HR.out (HT.out.alloc _)).mono ?_
  rintro r w1 ⟨rfl, hb⟩
  have Hb := Lib.hid hb; clear hb
  go_wp2_with fail
  go_ret2
  exact ⟨rfl, (below_alloc _ _).trans (Hb.out.mono (by simp))⟩
end Go.Proofs.YtdgbenadoaecoaaDoor

/- The contract of the statements' lives. Conditions: none beyond the tables. -/
namespace Go.Proofs.YtdgbenadoaecoaaDoor
open Go.RowKit

/-- X - -(5), its kids' slices in the blocks g and h. -/
def liveE (g h : Nat) : Ex 3 := ((3 : Int), ⟨⟨#[]⟩, ⟨0, 0, ⟨#[]⟩⟩⟩, .slice (some ⟨h, 0, none⟩) 2 2, [((0 : Int), ⟨⟨#[88]⟩, ⟨0, 0, ⟨#[]⟩⟩⟩, .slice none 0 0, ([] : List (Ex 1))), ((1 : Int), ⟨⟨#[]⟩, ⟨0, 0, ⟨#[]⟩⟩⟩, .slice (some ⟨g, 0, none⟩) 1 1, [((0 : Int), ⟨⟨#[]⟩, ⟨1, 5, ⟨#[]⟩⟩⟩, .slice none 0 0, ([] : List (Ex 0)))])])
theorem live_ok (g h : Nat) : exOk 8 3 (liveE g h) = true := by kernel_rfl
theorem live_txt (g h : Nat) : exprL 3 (liveE g h) = [88, 32, 45, 32, 45, 40, 53, 41] := by kernel_rfl
theorem tmr_of {v : ByteArray} {k n : Int} {t : ByteArray} (h1 : v.size ≤ 1) (h2 : 0 ≤ n) (h3 : n ≤ 5) (h4 : t.size ≤ 1) : TmR v k n t :=
  ⟨⟨by omega, by omega, by unfold maxLen; omega⟩, by unfold maxLen; omega⟩
theorem live_r (g h : Nat) : ExR 3 (liveE g h) := by
  refine ⟨⟨of_decide_eq_true (by kernel_rfl), of_decide_eq_true (by kernel_rfl)⟩, tmr_of (of_decide_eq_true (by kernel_rfl)) (of_decide_eq_true (by kernel_rfl)) (of_decide_eq_true (by kernel_rfl)) (of_decide_eq_true (by kernel_rfl)), fun k hk => ?_⟩
  have hk' := List.mem_cons.1 hk
  rcases hk' with rfl | hk'
  · exact ⟨⟨of_decide_eq_true (by kernel_rfl), of_decide_eq_true (by kernel_rfl)⟩, tmr_of (of_decide_eq_true (by kernel_rfl)) (of_decide_eq_true (by kernel_rfl)) (of_decide_eq_true (by kernel_rfl)) (of_decide_eq_true (by kernel_rfl)), fun k hk => nomatch hk⟩
  · obtain rfl := List.mem_singleton.1 hk'
    refine ⟨⟨of_decide_eq_true (by kernel_rfl), of_decide_eq_true (by kernel_rfl)⟩, tmr_of (of_decide_eq_true (by kernel_rfl)) (of_decide_eq_true (by kernel_rfl)) (of_decide_eq_true (by kernel_rfl)) (of_decide_eq_true (by kernel_rfl)), fun k hk => ?_⟩
    obtain rfl := List.mem_singleton.1 hk
    exact ⟨⟨of_decide_eq_true (by kernel_rfl), of_decide_eq_true (by kernel_rfl)⟩, tmr_of (of_decide_eq_true (by kernel_rfl)) (of_decide_eq_true (by kernel_rfl)) (of_decide_eq_true (by kernel_rfl)) (of_decide_eq_true (by kernel_rfl)), fun k hk => nomatch hk⟩
theorem live_at {w : World} {g h : Nat} {T T' : TypeId} {fz fz' : Nat × Nat}
    (hg : w.heap[g]? = some (.cells #[.int .i8 0, .string ⟨#[]⟩, .int .i8 1, .int .i64 5, .string ⟨#[]⟩, .slice none 0 0] T fz))
    (hh : w.heap[h]? = some (.cells #[.int .i8 0, .string ⟨#[88]⟩, .int .i8 0, .int .i64 0, .string ⟨#[]⟩, .slice none 0 0, .int .i8 1, .string ⟨#[]⟩, .int .i8 0, .int .i64 0, .string ⟨#[]⟩, .slice (some ⟨g, 0, none⟩) 1 1] T' fz')) :
    ExAt w 3 (liveE g h) := by
  have lg : g < w.heap.size := (Array.getElem?_eq_some_iff.1 hg).1
  have lh : h < w.heap.size := (Array.getElem?_eq_some_iff.1 hh).1
  refine ⟨_, 2, rfl, of_decide_eq_true (by kernel_rfl), .inr ⟨h, 0, rfl, lh, fun i hi => ?_⟩, fun k hk => ?_⟩
  · have hi' : i < 2 := hi
    match i, hi' with
    | 0, _ => exact ⟨by rw [Lib.cell_of_heap hh]; rfl, by rw [Lib.cell_of_heap hh]; rfl, by rw [Lib.cell_of_heap hh]; rfl, by rw [Lib.cell_of_heap hh]; rfl, by rw [Lib.cell_of_heap hh]; rfl, by rw [Lib.cell_of_heap hh]; rfl⟩
    | 1, _ => exact ⟨by rw [Lib.cell_of_heap hh]; rfl, by rw [Lib.cell_of_heap hh]; rfl, by rw [Lib.cell_of_heap hh]; rfl, by rw [Lib.cell_of_heap hh]; rfl, by rw [Lib.cell_of_heap hh]; rfl, by rw [Lib.cell_of_heap hh]; rfl⟩
  · have hk' := List.mem_cons.1 hk
    rcases hk' with rfl | hk'
    · exact ⟨none, 0, rfl, of_decide_eq_true (by kernel_rfl), .inl rfl, fun k hk => nomatch hk⟩
    · obtain rfl := List.mem_singleton.1 hk'
      refine ⟨_, 1, rfl, of_decide_eq_true (by kernel_rfl), .inr ⟨g, 0, rfl, lg, fun i hi => ?_⟩, fun k hk => ?_⟩
      · have hi' : i < 1 := hi
        match i, hi' with
        | 0, _ => exact ⟨by rw [Lib.cell_of_heap hg]; rfl, by rw [Lib.cell_of_heap hg]; rfl, by rw [Lib.cell_of_heap hg]; rfl, by rw [Lib.cell_of_heap hg]; rfl, by rw [Lib.cell_of_heap hg]; rfl, by rw [Lib.cell_of_heap hg]; rfl⟩
      · obtain rfl := List.mem_singleton.1 hk
        exact ⟨none, 0, rfl, of_decide_eq_true (by kernel_rfl), .inl rfl, fun k hk => nomatch hk⟩
theorem pLiveE {w : World} {g h : Nat} {T T' : TypeId} {fz fz' : Nat × Nat} (hT : Tabs w)
    (hg : w.heap[g]? = some (.cells #[.int .i8 0, .string ⟨#[]⟩, .int .i8 1, .int .i64 5, .string ⟨#[]⟩, .slice none 0 0] T fz))
    (hh : w.heap[h]? = some (.cells #[.int .i8 0, .string ⟨#[88]⟩, .int .i8 0, .int .i64 0, .string ⟨#[]⟩, .slice none 0 0, .int .i8 1, .string ⟨#[]⟩, .int .i8 0, .int .i64 0, .string ⟨#[]⟩, .slice (some ⟨g, 0, none⟩) 1 1] T' fz')) :
    Calls Tryd.prog 27 #[.agg #[.int .i8 3, .string ⟨#[]⟩, .int .i8 0, .int .i64 0, .string ⟨#[]⟩, .slice (some ⟨h, 0, none⟩) 2 2]] w fun e w' =>
      e = .returned (.tuple #[.string ⟨#[88, 32, 45, 32, 45, 40, 53, 41]⟩, .int .i64 0]) ∧ Below w.heap.size w w' := by
  refine (pExprT 3 (liveE g h) w (live_at hg hh) (live_r g h) hT).mono ?_
  rintro e w' ⟨rfl, hb⟩
  refine ⟨?_, hb⟩
  rw [live_ok, live_txt]
  rfl
def liveTs : List Tm := [⟨⟨#[95]⟩, ⟨0, 0, ⟨#[]⟩⟩⟩, ⟨⟨#[]⟩, ⟨2, 0, ⟨#[97]⟩⟩⟩]
theorem liveA_ok : atOk ⟨#[112]⟩ liveTs = true := by kernel_rfl
theorem liveA_txt : atomL ⟨#[112]⟩ liveTs = [112, 40, 95, 44, 32, 97, 41] := by kernel_rfl
theorem pLiveA {w : World} {g : Nat} {T : TypeId} {fz : Nat × Nat} (hT : Tabs w)
    (hg : w.heap[g]? = some (.cells #[.string ⟨#[95]⟩, .int .i8 0, .int .i64 0, .string ⟨#[]⟩, .string ⟨#[]⟩, .int .i8 2, .int .i64 0, .string ⟨#[97]⟩] T fz)) :
    Calls Tryd.prog 28 #[.agg #[.string ⟨#[112]⟩, .slice (some ⟨g, 0, none⟩) 2 2]] w fun e w' =>
      e = .returned (.tuple #[.string ⟨#[112, 40, 95, 44, 32, 97, 41]⟩, .int .i64 0]) ∧ Below w.heap.size w w' := by
  have lg : g < w.heap.size := (Array.getElem?_eq_some_iff.1 hg).1
  refine (pAtomT ⟨#[112]⟩ _ liveTs w (by decide) ⟨some ⟨g, 0, none⟩, 2, rfl, of_decide_eq_true (by kernel_rfl), .inr ⟨g, 0, rfl, lg, fun i hi => ?_⟩⟩ ?_ hT).mono ?_
  · have hi' : i < 2 := hi
    match i, hi' with
    | 0, _ => exact ⟨by rw [Lib.cell_of_heap hg]; rfl, by rw [Lib.cell_of_heap hg]; rfl, by rw [Lib.cell_of_heap hg]; rfl, by rw [Lib.cell_of_heap hg]; rfl⟩
    | 1, _ => exact ⟨by rw [Lib.cell_of_heap hg]; rfl, by rw [Lib.cell_of_heap hg]; rfl, by rw [Lib.cell_of_heap hg]; rfl, by rw [Lib.cell_of_heap hg]; rfl⟩
  · intro t ht
    have ht' := List.mem_cons.1 ht
    rcases ht' with rfl | ht'
    · exact tmr_of (by decide) (by decide) (by decide) (by decide)
    · obtain rfl := List.mem_singleton.1 ht'
      exact tmr_of (by decide) (by decide) (by decide) (by decide)
  · rintro e w' ⟨rfl, hb⟩
    refine ⟨?_, hb⟩
    rw [liveA_ok, liveA_txt]
    rfl
theorem new2 (w : World) (a b c : Obj) : (((w.alloc a).alloc b).alloc c).heap[w.heap.size + 1 + 1]? = some c := by
  have h := heap_alloc_new ((w.alloc a).alloc b) c
  rwa [show ((w.alloc a).alloc b).heap.size = w.heap.size + 1 + 1 by simp] at h
theorem new3 (w : World) (a b c d : Obj) : ((((w.alloc a).alloc b).alloc c).alloc d).heap[w.heap.size + 1 + 1 + 1]? = some d := by
  have h := heap_alloc_new (((w.alloc a).alloc b).alloc c) d
  rwa [show (((w.alloc a).alloc b).alloc c).heap.size = w.heap.size + 1 + 1 + 1 by simp] at h
set_option maxHeartbeats 1000000 in
theorem lives (w : World) (hT : Tabs w) : Calls Tryd.prog 11 #[] w fun e w' => e = .returned (.bool true) ∧ Below w.heap.size w w' := by
  have HT := Lib.hid hT; clear hT
  go_enter Tryd.func11, Tryd.ntmps11
  go_wp2_with fail
  refine (pLiveE (g := w.heap.size + 1 + 1) (h := w.heap.size + 1 + 1 + 1) ((((HT.out.alloc _).alloc _).alloc _).alloc _) ((Lib.alloc_old _ _ _ (by simp)).trans (new2 w _ _ _)) (new3 w _ _ _ _)).mono ?_
  rintro e w1 ⟨rfl, hb⟩
  have Hb := Lib.hid (((((below_alloc w _).trans ((below_alloc (w.alloc _) _).mono (by simp))).trans ((below_alloc ((w.alloc _).alloc _) _).mono (by simp; omega))).trans ((below_alloc (((w.alloc _).alloc _).alloc _) _).mono (by simp; omega))).trans (hb.mono (by simp; omega))); clear hb
  go_wp2_with fail
  refine (pLiveA ((HT.out.at Hb.out).alloc _) (heap_alloc_new w1 _)).mono ?_
  rintro e w2 ⟨rfl, hb⟩
  have Hb2 := Lib.hid ((below_alloc w1 _).trans (hb.mono (by simp))); clear hb
  go_wp2_with fail
  go_ret
  exact ⟨rfl, Hb.out.trans (Hb2.out.mono Hb.out.size)⟩
end Go.Proofs.YtdgbenadoaecoaaDoor
