/- The contract of the writer's expr, by its cases: a term, a word, two sides. Conditions: the expression lies in memory as it is told; what is held and what is written together take at most 2^47 bytes. -/
import Derived.Test.YtlghiakckkhekaaDoorW22
namespace Go.Proofs.YtlghiakckkhekaaDoor
open Go.RowKit

theorem op_range {n d : Nat} {e : Ex d} (h : exOk n d e = true) : 0 ≤ exOp d e ∧ exOp d e ≤ 10 := by
  cases d with
  | zero => exact nomatch e
  | succ d =>
    cases n with
    | zero => cases h
    | succ n =>
      obtain ⟨op, tm, sl, ks⟩ := e
      have h2 : (if op = 0 then ks.isEmpty && solidB tm else tmZero tm && decide ((ks.length : Int) = arityI op) && ks.all (exOk n d)) = true := h
      show 0 ≤ op ∧ op ≤ 10
      by_cases h0 : op = 0
      · omega
      · rw [if_neg h0] at h2
        simp only [Bool.and_eq_true, decide_eq_true_eq] at h2
        have h3 := h2.1.2
        unfold arityI at h3
        split at h3
        · omega
        · split at h3 <;> omega
set_option maxHeartbeats 1000000 in
theorem wTerm (b : Nat) (pre : List UInt8) (v : ByteArray) (k x : Int) (t : ByteArray) (sl : Value) (w : World) (hr : TmR v k x t) (hT : Tabs w) (hw : Wr 94 b pre w)
    (hl : pre.length + (termL ⟨v, ⟨k, x, t⟩⟩).length ≤ 140737488355328) :
    Calls Tryd.prog 38 #[.pointer (some ⟨b, 0, none⟩), .agg #[.int .i8 0, .string v, .int .i8 k, .int .i64 x, .string t, sl]] w (Wrote b pre (termL ⟨v, ⟨k, x, t⟩⟩) w) := by
  have HR := Lib.hid hr; clear hr
  have HT := Lib.hid hT; clear hT
  have HW := Lib.hid hw
  have hlt := hw.lt; clear hw
  go_enter Tryd.func38, Tryd.ntmps38
  go_wp2_with fail
  refine (pTerm b pre v k x t _ HR.out (HT.out.alloc _) (HW.out.alloc _) hl).mono ?_
  rintro r w1 ⟨rfl, hw1, hk1⟩
  have H1 := Lib.hid hw1; clear hw1
  have HK1 := Lib.hid hk1; clear hk1
  go_wp2_with fail
  go_end0
  exact ⟨rfl, H1.out, (Kp.alloc HW.out _).trans HK1.out⟩
set_option maxHeartbeats 1000000 in
set_option maxRecDepth 100000 in
theorem wWord (d : Nat) (ih : WritesAt d) (w0 : World) (e : Ex d) (n b a o cap : Nat) (op : Int) (v : ByteArray) (k x : Int) (t : ByteArray) (pre : List UInt8) (w : World) (h8 : 8 ≤ op) (h10 : op ≤ 10)
    (ho : exOk n d e = true) (hE : Env w0 b w) (hT : Tabs w0) (ha : a < w0.heap.size) (hc : ExCell w0 a o (exOp d e) (exTm d e) (exSl d e)) (he : ExAt w0 d e) (hr : ExR d e) (hw : Wr 94 b pre w)
    (hl : pre.length + ((bl (wordL.getD op.toNat ⟨#[]⟩)).length + (sideL (exprL d e) true).length) ≤ 140737488355328) :
    Calls Tryd.prog 38 #[.pointer (some ⟨b, 0, none⟩), .agg #[.int .i8 op, .string v, .int .i8 k, .int .i64 x, .string t, .slice (some ⟨a, o, none⟩) 1 cap]] w
      (Wrote b pre (bl (wordL.getD op.toNat ⟨#[]⟩) ++ sideL (exprL d e) true) w) := by
  have HO := Lib.hid ho; clear ho
  have HEn := Lib.hid hE; clear hE
  have HT := Lib.hid hT; clear hT
  have HA := Lib.hid he; clear he
  have HR := Lib.hid hr; clear hr
  have IH := Lib.hid ih; clear ih
  have HC := Lib.hid hc; clear hc
  have HW := Lib.hid hw
  have hlt := hw.lt; clear hw
  have q0 : (op == 0) = false := beq_eq_false_iff_ne.2 (by omega)
  have q1 : (op == 1) = false := beq_eq_false_iff_ne.2 (by omega)
  have hwd : w.cell? ⟨1, op.toNat, none⟩ = some (.string (wordL.getD op.toNat ⟨#[]⟩)) := (HT.out.at HEn.out.bel).words op.toNat (by omega)
  have h9 : 1 < w.heap.size := by have := (HT.out.at HEn.out.bel).size; omega
  obtain ⟨wd, hwde⟩ : ∃ wd, wd = wordL.getD op.toNat ⟨#[]⟩ := ⟨_, rfl⟩
  rw [← hwde] at hl hwd ⊢
  clear hwde
  have HL := Lib.hid hl; clear hl
  go_enter Tryd.func38, Tryd.ntmps38
  go_wp2_with fail
  refine (pPut b (w.heap.size + 1) pre [wd] 1 _ ((HW.out.alloc _).alloc _) (by rw [catL_one]; have := HL.out; omega) (by simp) (by simpa using heap_alloc_new (w.alloc _) _) (by omega)).mono ?_
  rintro r w1 ⟨rfl, hw1, hk1⟩
  have hbx := hk1.cell (k := w.heap.size) (c := #[.int .i8 op, .string v, .int .i8 k, .int .i64 x, .string t, .slice (some ⟨a, o, none⟩) 1 cap]) (t := 36) (fz := (0, 0)) (by rw [Lib.alloc_old _ _ _ (by simp)]; exact heap_alloc_new w _) (by omega) (by decide)
  obtain ⟨x0, x1, x2, x3, x4, x5⟩ := six hbx
  have HBX := Lib.hid hbx; clear hbx
  have H1 := Lib.hid (wr_eq (by rw [catL_one]) hw1)
  have hlt1 := hw1.lt; clear hw1
  have HK1 := Lib.hid (((Kp.alloc HW.out _).trans (Kp.alloc (HW.out.alloc _) _)).trans hk1); clear hk1
  obtain ⟨c0, c1, c2, c3, c4, c5⟩ := HC.out.up (HEn.out.kp HK1.out).bel ha
  clear hwd
  go_wp2_with fail
  refine (pSide d IH.out w0 e n b true _ _ HO.out (HEn.out.kp HK1.out) HT.out HA.out HR.out H1.out (by have := HL.out; simp at this ⊢; omega)).mono ?_
  rintro r w2 ⟨rfl, hw2, hk2⟩
  clear x0 x1 x2 x3 x4 x5 c0 c1 c2 c3 c4 c5
  have H2 := Lib.hid hw2; clear hw2
  have HK2 := Lib.hid hk2; clear hk2
  go_wp2_with fail
  go_end0
  exact ⟨rfl, wr_eq (by simp) H2.out, HK1.out.trans HK2.out⟩
end Go.Proofs.YtlghiakckkhekaaDoor
