/- The contract of TwinExpr. Conditions: the expression lies in memory as it is told, its lists are not too long. -/
import Derived.Test.YtlghiakckkhekaaDoorT3
namespace Go.Proofs.YtlghiakckkhekaaDoor
open Go.RowKit

set_option maxHeartbeats 4000000 in
theorem twin_step (d : Nat) (ih : TwinAll d) : TwinAll (d + 1) := by
  intro e w he hr hb hT
  obtain ⟨op, ⟨v, ⟨kd, y, t⟩⟩, sl, ks⟩ := e
  obtain ⟨p, cap, h1, hm, hs, hk⟩ := he
  obtain ⟨hrg, htr, hrk⟩ := hr
  obtain ⟨hb1, hbk⟩ := hb
  have h1' : sl = .slice p ks.length cap := h1
  clear h1
  subst h1'
  have HKS := Lib.hid (show KSl w d p ks from ⟨hs, hk⟩); clear hs hk
  have HRK := Lib.hid hrk; clear hrk
  have HBK := Lib.hid hbk; clear hbk
  have HB1 := Lib.hid (show ks.length ≤ 2199023255552 from hb1); clear hb1 hm hrg htr
  have HT := Lib.hid hT; clear hT
  have IH := Lib.hid ih; clear ih
  obtain ⟨W, hW⟩ : ∃ W, W = (w.alloc (.cells #[.int .i8 op, .string v, .int .i8 kd, .int .i64 y, .string t, .slice p ks.length cap] 36)).alloc (.cells #[.int .i8 0, .string ⟨#[]⟩, .int .i8 0, .int .i64 0, .string ⟨#[]⟩, .slice none 0 0] 36) := ⟨_, rfl⟩
  have HBW := Lib.hid (show Below w.heap.size w W by rw [hW]; exact (below_alloc _ _).trans ((below_alloc _ _).mono (by simp)))
  have hsW : W.heap.size = w.heap.size + 1 + 1 := by rw [hW]; simp
  have HBX := Lib.hid (show W.heap[w.heap.size]? = some (.cells #[.int .i8 op, .string v, .int .i8 kd, .int .i64 y, .string t, .slice p ks.length cap] 36 (0, 0)) by rw [hW, Lib.alloc_old _ _ _ (by simp)]; exact heap_alloc_new w _)
  have HBY := Lib.hid (show W.heap[w.heap.size + 1]? = some (.cells #[.int .i8 0, .string ⟨#[]⟩, .int .i8 0, .int .i64 0, .string ⟨#[]⟩, .slice none 0 0] 36 (0, 0)) by rw [hW]; simpa using heap_alloc_new (w.alloc _) _)
  change Calls _ _ #[.agg #[.int .i8 op, .string v, .int .i8 kd, .int .i64 y, .string t, .slice p ks.length cap]] w _
  go_enter Tryd.func12, Tryd.ntmps12
  go_wp2_with fail
  rw [← hW]
  clear hW
  refine (twins d IH.out ks p cap _ ?_ HRK.out HBK.out HB1.out (HT.out.at HBW.out)).mono ?_
  · obtain ⟨h1, h2⟩ := HKS.out
    exact ⟨h1.imp id fun ⟨a, o, hp, ha, hc⟩ => ⟨a, o, hp, Nat.lt_of_lt_of_le ha HBW.out.size, fun i hi => (hc i hi).up HBW.out ha⟩, fun k hk => ExAt.up HBW.out d k (h2 k hk)⟩
  rintro r w1 ⟨a, ts, rfl, hl, hal, ha1, ha2, hcell, hmark, htw, hb⟩
  have HL := Lib.hid hl; clear hl
  have HAL := Lib.hid hal; clear hal
  have HCELL := Lib.hid hcell; clear hcell
  have HMARK := Lib.hid hmark; clear hmark
  have HTW := Lib.hid htw; clear htw
  have hx := (hb.block w.heap.size (by omega)).trans HBX.out
  have hy := (hb.block (w.heap.size + 1) (by omega)).trans HBY.out
  have HB := Lib.hid hb; clear hb
  obtain ⟨x0, x1, x2, x3, x4, x5⟩ := six hx
  obtain ⟨y0, y1, y2, y3, y4, y5⟩ := six hy
  have fx : w1.frozen? ⟨w.heap.size, 5, none⟩ = false := Lib.frozen_of_heap hx _
  have f0 : w1.frozen? ⟨w.heap.size + 1, 0, none⟩ = false := Lib.frozen_of_heap hy _
  have f1 : w1.frozen? ⟨w.heap.size + 1, 1, none⟩ = false := Lib.frozen_of_heap hy _
  have f2 : w1.frozen? ⟨w.heap.size + 1, 2, none⟩ = false := Lib.frozen_of_heap hy _
  have f3 : w1.frozen? ⟨w.heap.size + 1, 3, none⟩ = false := Lib.frozen_of_heap hy _
  have f4 : w1.frozen? ⟨w.heap.size + 1, 4, none⟩ = false := Lib.frozen_of_heap hy _
  have f5 : w1.frozen? ⟨w.heap.size + 1, 5, none⟩ = false := Lib.frozen_of_heap hy _
  have HX := Lib.hid hx; clear hx
  have HY := Lib.hid hy; clear hy
  go_wp2_with fail
  clear x0 x1 x2 x3 x4 x5 y0 y1 y2 y3 y4 y5 fx f0 f1 f2 f3 f4 f5
  change bodyPost _ _ _ _ _ (put6 (w1.setCell ⟨w.heap.size, 5, none⟩ (.slice (some ⟨a, 0, none⟩) ks.length (ks.length + 1))) (w.heap.size + 1) 0 (.int .i8 op) (.string v) (.int .i8 kd) (.int .i64 y) (.string t) (.slice (some ⟨a, 0, none⟩) ks.length (ks.length + 1)))
  have hy1 : (w1.setCell ⟨w.heap.size, 5, none⟩ (.slice (some ⟨a, 0, none⟩) ks.length (ks.length + 1))).heap[w.heap.size + 1]? = some (.cells #[.int .i8 0, .string ⟨#[]⟩, .int .i8 0, .int .i64 0, .string ⟨#[]⟩, .slice none 0 0] 36 (0, 0)) := by
    rw [Below.heap_setCell _ _ _ _ (show w.heap.size + 1 ≠ w.heap.size by omega)]
    exact HY.out
  have hb2 := put6_heap hy1 0 (.int .i8 op) (.string v) (.int .i8 kd) (.int .i64 y) (.string t) (.slice (some ⟨a, 0, none⟩) ks.length (ks.length + 1))
  have HBp := Lib.hid (put6_below (((HBW.out.trans (HB.out.mono (by omega))).setCell (p := ⟨w.heap.size, 5, none⟩) (Nat.le_refl _) (.slice (some ⟨a, 0, none⟩) ks.length (ks.length + 1)))) (show w.heap.size ≤ w.heap.size + 1 by omega) 0 (.int .i8 op) (.string v) (.int .i8 kd) (.int .i64 y) (.string t) (.slice (some ⟨a, 0, none⟩) ks.length (ks.length + 1)))
  have HBL := Lib.hid (show (∀ k, W.heap.size ≤ k → (put6 (w1.setCell ⟨w.heap.size, 5, none⟩ (.slice (some ⟨a, 0, none⟩) ks.length (ks.length + 1))) (w.heap.size + 1) 0 (.int .i8 op) (.string v) (.int .i8 kd) (.int .i64 y) (.string t) (.slice (some ⟨a, 0, none⟩) ks.length (ks.length + 1))).heap[k]? = w1.heap[k]?) from
    (fun k hk => by rw [put6_block _ (by omega), Below.heap_setCell _ _ _ _ (show k ≠ w.heap.size by omega)]))
  have hsz2 : (put6 (w1.setCell ⟨w.heap.size, 5, none⟩ (.slice (some ⟨a, 0, none⟩) ks.length (ks.length + 1))) (w.heap.size + 1) 0 (.int .i8 op) (.string v) (.int .i8 kd) (.int .i64 y) (.string t) (.slice (some ⟨a, 0, none⟩) ks.length (ks.length + 1))).heap.size = w1.heap.size := by
    rw [put6_size]; simp [World.setCell]
  obtain ⟨W2, hW2⟩ : ∃ W2, W2 = put6 (w1.setCell ⟨w.heap.size, 5, none⟩ (.slice (some ⟨a, 0, none⟩) ks.length (ks.length + 1))) (w.heap.size + 1) 0 (.int .i8 op) (.string v) (.int .i8 kd) (.int .i64 y) (.string t) (.slice (some ⟨a, 0, none⟩) ks.length (ks.length + 1)) := ⟨_, rfl⟩
  rw [← hW2] at hb2 HBp HBL hsz2 ⊢
  clear hW2 hy1
  obtain ⟨z0, z1, z2, z3, z4, z5⟩ := six (show W2.heap[w.heap.size + 1]? = some (.cells #[.int .i8 op, .string v, .int .i8 kd, .int .i64 y, .string t, .slice (some ⟨a, 0, none⟩) ks.length (ks.length + 1)] 36 (0, 0)) from hb2)
  refine bodyPost_ret (v := .agg #[.int .i8 op, .string v, .int .i8 kd, .int .i64 y, .string t, .slice (some ⟨a, 0, none⟩) ks.length (ks.length + 1)]) (by simp [results, Tryd.results12, go_sem, z0, z1, z2, z3, z4, z5]) rfl ?_
  have hl : ts.length = ks.length := HL.out
  refine ⟨(op, ⟨v, ⟨kd, y, t⟩⟩, .slice (some ⟨a, 0, none⟩) ks.length (ks.length + 1), ts), rfl, ⟨rfl, rfl, hl.symm, HAL.out⟩, ⟨a, ?_, by omega, by omega, fun i h => (HCELL.out i h).of_block (HBL.out a ha1), ?_, fun k hk => (HTW.out k hk).up (by omega) (by omega) (fun q hq _ => HBL.out q (by omega))⟩, HBp.out⟩
  · show Value.slice (some ⟨a, 0, none⟩) ks.length (ks.length + 1) = .slice (some ⟨a, 0, none⟩) ts.length (ts.length + 1)
    rw [hl]
  · show ExCell W2 a (ts.length * 6) 99 markTm (.slice none 0 0)
    rw [hl]
    exact HMARK.out.of_block (HBL.out a ha1)
theorem twin_all : ∀ d, TwinAll d
  | 0 => fun e => nomatch e
  | d + 1 => twin_step d (twin_all d)
end Go.Proofs.YtlghiakckkhekaaDoor
