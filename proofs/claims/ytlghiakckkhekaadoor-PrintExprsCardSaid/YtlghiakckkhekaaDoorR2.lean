/- The contract of the reference's expr, by its cases: a term, a word, a minus. Conditions: the expression lies in memory as it is told. -/
import Derived.Test.YtlghiakckkhekaaDoorR1
import Derived.StillTailTactics
import Derived.Deep.RegionHeld3
namespace Go.Proofs.YtlghiakckkhekaaDoor
open Go.RowKit

set_option maxHeartbeats 1000000 in
theorem eTerm (v : ByteArray) (k x : Int) (t : ByteArray) (p : Option Addr) (l c : Nat) (w : World) (hr : TmR v k x t) :
    Calls Tryd.prog 35 #[.agg #[.int .i8 0, .string v, .int .i8 k, .int .i64 x, .string t, .slice p l c]] w fun r w' =>
      r = .returned (.string ⟨(termL ⟨v, ⟨k, x, t⟩⟩).toArray⟩) ∧ Below w.heap.size w w' := by
  have HR := Lib.hid hr; clear hr
  go_enter Tryd.func35, Tryd.ntmps35
  go_wp2_with fail
  refine (rText v k x t _ HR.out).mono ?_
  rintro r w1 ⟨rfl, hb⟩
  have Hb := Lib.hid hb; clear hb
  go_wp2_with fail
  go_ret
  exact ⟨rfl, (below_alloc _ _).trans (Hb.out.mono (by simp))⟩
set_option maxHeartbeats 4000000 in
set_option maxRecDepth 100000 in
theorem eWord (d : Nat) (ih : RefAt d) (e : Ex d) (n a o cap : Nat) (op : Int) (v : ByteArray) (k x : Int) (t : ByteArray) (w : World) (h8 : 8 ≤ op) (h10 : op ≤ 10) (hn : n ≤ 8)
    (ho : exOk n d e = true) (ha : a < w.heap.size) (hc : ExCell w a o (exOp d e) (exTm d e) (exSl d e)) (he : ExAt w d e) (hr : ExR d e) :
    Calls Tryd.prog 35 #[.agg #[.int .i8 op, .string v, .int .i8 k, .int .i64 x, .string t, .slice (some ⟨a, o, none⟩) 1 cap]] w fun r w' =>
      r = .returned (.string ⟨(bl (wordL.getD op.toNat ⟨#[]⟩) ++ sideL (exprL d e) true).toArray⟩) ∧ Below w.heap.size w w' := by
  have HLE := Lib.hid (exprL_b hn ho hr)
  have HO := Lib.hid ho; clear ho
  have HA := Lib.hid he; clear he
  have HR := Lib.hid hr; clear hr
  have IH := Lib.hid ih; clear ih
  have HC := Lib.hid hc; clear hc
  obtain ⟨wd, hwde⟩ : ∃ wd, wd = wordL.getD op.toNat ⟨#[]⟩ := ⟨_, rfl⟩
  have hwl : wd.size ≤ 5 := by
    have := word_len op.toNat (by omega)
    rw [← hwde] at this
    rw [size_bl] at *
    exact this
  have HWD := Lib.hid hwde
  rw [← hwde]
  clear hwde
  have HS := Lib.hid (show sideL (exprL d e) true = 40 :: (exprL d e ++ [41]) from rfl)
  obtain ⟨W, hW⟩ : ∃ W, W = w.alloc (.cells #[.int .i8 op, .string v, .int .i8 k, .int .i64 x, .string t, .slice (some ⟨a, o, none⟩) 1 cap] 36) := ⟨_, rfl⟩
  have HBW := Lib.hid (show Below w.heap.size w W by rw [hW]; exact below_alloc _ _)
  have hsW : W.heap.size = w.heap.size + 1 := by rw [hW]; simp
  have hbx0 : W.heap[w.heap.size]? = some (.cells #[.int .i8 op, .string v, .int .i8 k, .int .i64 x, .string t, .slice (some ⟨a, o, none⟩) 1 cap] 36 (0, 0)) := by rw [hW]; exact heap_alloc_new w _
  obtain ⟨x0, x1, x2, x3, x4, x5⟩ := six hbx0
  clear hbx0
  obtain ⟨c0, c1, c2, c3, c4, c5⟩ := HC.out.up HBW.out ha
  have q0 : (op == 0) = false := beq_eq_false_iff_ne.2 (by omega)
  have hop : op = 8 ∨ op = 9 ∨ op = 10 := by omega
  go_enter Tryd.func35, Tryd.ntmps35
  rcases hop with rfl | rfl | rfl
  all_goals
    go_wp2_with fail
    rw [← hW]
    clear hW
    have hbk : w.heap.size < W.heap.size := by omega
    have haW : a < W.heap.size := by omega
    have hcat : ¬ 9223372036854775807 < wd.size + 1 := by omega
    go_region_held3 (fun w' => w'.cell? ⟨w.heap.size, 0, none⟩ = W.cell? ⟨w.heap.size, 0, none⟩ ∧ w'.cell? ⟨w.heap.size, 5, none⟩ = W.cell? ⟨w.heap.size, 5, none⟩ ∧ w'.cell? ⟨a, o, none⟩ = W.cell? ⟨a, o, none⟩ ∧ w'.cell? ⟨a, o + 1, none⟩ = W.cell? ⟨a, o + 1, none⟩ ∧
        w'.cell? ⟨a, o + 2, none⟩ = W.cell? ⟨a, o + 2, none⟩ ∧ w'.cell? ⟨a, o + 3, none⟩ = W.cell? ⟨a, o + 3, none⟩ ∧ w'.cell? ⟨a, o + 4, none⟩ = W.cell? ⟨a, o + 4, none⟩ ∧ w'.cell? ⟨a, o + 5, none⟩ = W.cell? ⟨a, o + 5, none⟩)
      (first | exact ⟨rfl, rfl, rfl, rfl, rfl, rfl, rfl, rfl⟩ | exact ⟨Hb.out.cell hbk, Hb.out.cell hbk, Hb.out.cell haW, Hb.out.cell haW, Hb.out.cell haW, Hb.out.cell haW, Hb.out.cell haW, Hb.out.cell haW⟩)
      (first
        | (go_at_call 71
           refine (rWordS _ _ h8 h10).mono ?_
           rintro r w2 ⟨rfl, rfl⟩
           rw [← HWD.out])
        | (go_at_call 35
           refine (IH.out e n _ hn HO.out ?_ HR.out).mono ?_
           · exact HA.out.up HBW.out.drew d e
           rintro r w1 ⟨rfl, hb⟩
           have Hb := Lib.hid (show Below W.heap.size W w1 from ⟨hb.os, hb.tape, hb.output, hb.size, hb.block⟩)
           clear hb
           obtain ⟨s, hs⟩ : ∃ s : ByteArray, s = ⟨(exprL d e).toArray⟩ := ⟨_, rfl⟩
           have hsz : s.size ≤ 207352 := by rw [hs]; simpa [ByteArray.size] using HLE.out
           have hcat2 : ¬ 9223372036854775807 < wd.size + 1 + s.size := by omega
           have hcat3 : ¬ 9223372036854775807 < wd.size + 1 + s.size + 1 := by omega
           have HSB := Lib.hid (show bl s = exprL d e by rw [hs])
           rw [← hs]
           clear hs))
    all_goals
      clear x0 x1 x2 x3 x4 x5 c0 c1 c2 c3 c4 c5
      go_wp2_with fail
      go_ret
      exact ⟨ret_bytes (by rw [HS.out, bl_cat, bl_cat, bl_cat, HSB.out]; simp [bl]), HBW.out.trans (Hb.out.mono (by omega))⟩
end Go.Proofs.YtlghiakckkhekaaDoor
