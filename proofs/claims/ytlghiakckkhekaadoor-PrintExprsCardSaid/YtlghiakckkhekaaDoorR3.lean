/- The contract of the reference's expr at a minus. Conditions: the expression lies in memory as it is told. -/
import Derived.Test.YtlghiakckkhekaaDoorR2
namespace Go.Proofs.YtlghiakckkhekaaDoor
open Go.RowKit

theorem Below.here {w w' : World} {B : Nat} {W : World} (h : Below w.heap.size w w') (hs : w.heap.size = B) (hh : ∀ k, k < B → w.heap[k]? = W.heap[k]?) (h1 : w.os = W.os) (h2 : w.tape = W.tape) (h3 : w.output = W.output) (h4 : W.heap.size ≤ w.heap.size) : Below B W w' :=
  ⟨h.os.trans h1, h.tape.trans h2, h.output.trans h3, Nat.le_trans h4 h.size, fun k hk => (h.block k (by omega)).trans (hh k hk)⟩
set_option maxHeartbeats 8000000 in
set_option maxRecDepth 100000 in
theorem eNeg (d : Nat) (ih : RefAt d) (e : Ex d) (n a o cap : Nat) (v : ByteArray) (k x : Int) (t : ByteArray) (w : World) (hn : n ≤ 8)
    (ho : exOk n d e = true) (ha : a < w.heap.size) (hc : ExCell w a o (exOp d e) (exTm d e) (exSl d e)) (he : ExAt w d e) (hr : ExR d e) :
    Calls Tryd.prog 35 #[.agg #[.int .i8 1, .string v, .int .i8 k, .int .i64 x, .string t, .slice (some ⟨a, o, none⟩) 1 cap]] w fun r w' =>
      r = .returned (.string ⟨(45 :: sideL (exprL d e) (negB (exOp d e) (exTm d e))).toArray⟩) ∧ Below w.heap.size w w' := by
  obtain ⟨r1, r2⟩ := op_range ho
  have HLE := Lib.hid (exprL_b hn ho hr)
  have HO := Lib.hid ho; clear ho
  have HA := Lib.hid he
  have HR := Lib.hid hr; clear hr
  have IH := Lib.hid ih; clear ih
  obtain ⟨p, l, cp, hsl⟩ := ex_sl he
  clear he
  have r3 : exOp d e < 11 := by omega
  obtain ⟨c0, c1, c2, c3, c4, c5⟩ := hc
  rw [hsl] at c5
  have HSL := Lib.hid hsl; clear hsl
  obtain ⟨W, hW⟩ : ∃ W, W = (w.alloc (.cells #[.int .i8 1, .string v, .int .i8 k, .int .i64 x, .string t, .slice (some ⟨a, o, none⟩) 1 cap] 36)).alloc (.cells #[.int .i8 (exOp d e), .string (exTm d e).v, .int .i8 (exTm d e).x.k, .int .i64 (exTm d e).x.n, .string (exTm d e).x.t, .slice p l cp] 36) := ⟨_, rfl⟩
  have HBW := Lib.hid (show Below w.heap.size w W by rw [hW]; exact (below_alloc _ _).trans ((below_alloc _ _).mono (by simp)))
  have hsW : W.heap.size = w.heap.size + 1 + 1 := by rw [hW]; simp
  have hbx0 : W.heap[w.heap.size + 1]? = some (.cells #[.int .i8 (exOp d e), .string (exTm d e).v, .int .i8 (exTm d e).x.k, .int .i64 (exTm d e).x.n, .string (exTm d e).x.t, .slice p l cp] 36 (0, 0)) := by rw [hW]; simpa using heap_alloc_new (w.alloc _) _
  obtain ⟨y0, y1, y2, y3, y4, y5⟩ := six hbx0
  clear hbx0
  have HN0 := Lib.hid (show negB (exOp d e) (exTm d e) = (decide (holdI (exOp d e) < 3) || (exOp d e == 0 && (exTm d e).v.toList.isEmpty && (exTm d e).x.k == 1 && decide (0 ≤ (exTm d e).x.n))) by unfold negB bl; rw [← ByteArray.toList_eq]; rfl)
  have hbk : w.heap.size + 1 < W.heap.size := by omega
  rcases hB : (exOp d e == 0) with _ | _
  case false =>
    rcases hA : decide (holdI (exOp d e) < 3) with _ | _
    case false =>
      have HN := Lib.hid (show negB (exOp d e) (exTm d e) = false by rw [HN0.out, hA, hB]; rfl)
      go_enter Tryd.func35, Tryd.ntmps35
      go_wp2_with fail
      rw [← hW]
      clear hW
      go_region_held3 (fun w' => w'.cell? ⟨w.heap.size + 1, 0, none⟩ = W.cell? ⟨w.heap.size + 1, 0, none⟩ ∧ w'.cell? ⟨w.heap.size + 1, 1, none⟩ = W.cell? ⟨w.heap.size + 1, 1, none⟩ ∧ w'.cell? ⟨w.heap.size + 1, 2, none⟩ = W.cell? ⟨w.heap.size + 1, 2, none⟩ ∧ w'.cell? ⟨w.heap.size + 1, 3, none⟩ = W.cell? ⟨w.heap.size + 1, 3, none⟩ ∧ w'.cell? ⟨w.heap.size + 1, 4, none⟩ = W.cell? ⟨w.heap.size + 1, 4, none⟩ ∧ w'.cell? ⟨w.heap.size + 1, 5, none⟩ = W.cell? ⟨w.heap.size + 1, 5, none⟩)
        (first | exact ⟨rfl, rfl, rfl, rfl, rfl, rfl⟩ | exact ⟨Hb2.out.cell hbk, Hb2.out.cell hbk, Hb2.out.cell hbk, Hb2.out.cell hbk, Hb2.out.cell hbk, Hb2.out.cell hbk⟩ | exact ⟨Hb.out.cell hbk, Hb.out.cell hbk, Hb.out.cell hbk, Hb.out.cell hbk, Hb.out.cell hbk, Hb.out.cell hbk⟩)
        (first
          | (go_at_call 73
             refine (rFast _ _ _ _ _ _ _ _ _ r1 r2).mono ?_
             rintro r w1 ⟨rfl, hb⟩
             have Hb := Lib.hid (show Below W.heap.size W w1 from ⟨hb.os, hb.tape, hb.output, hb.size, hb.block⟩)
             clear hb)
          | (go_at_call 72
             rw [← HSL.out]
             refine (rWithin d IH.out e n _ _ hn HO.out ?_ HR.out).mono ?_
             · exact HA.out.up (HBW.out.trans (Hb.out.mono (by omega))) d e
             rintro r w2 ⟨rfl, hb2⟩
             have Hb2 := Lib.hid (Hb.out.trans (hb2.mono Hb.out.size))
             clear hb2
             obtain ⟨s, hs⟩ : ∃ s : ByteArray, s = ⟨(sideL (exprL d e) false).toArray⟩ := ⟨_, rfl⟩
             have hsz : s.size ≤ 207354 := by
               rw [hs]
               have h1 := sideL_le (exprL d e) false
               have h2 := HLE.out
               simp [ByteArray.size]
               omega
             have hcat : ¬ 9223372036854775807 < 1 + s.size := by omega
             have HSB := Lib.hid (show bl s = sideL (exprL d e) false by rw [hs])
             rw [← hs]
             clear hs))
      clear y0 y1 y2 y3 y4 y5 c0 c1 c2 c3 c4 c5
      go_wp2_with fail
      go_ret
      exact ⟨ret_bytes (by rw [HN.out, bl_cat, HSB.out]; rfl), HBW.out.trans (Hb2.out.mono (by omega))⟩
    case true =>
      have HN := Lib.hid (show negB (exOp d e) (exTm d e) = true by rw [HN0.out, hA]; rfl)
      go_enter Tryd.func35, Tryd.ntmps35
      go_wp2_with fail
      rw [← hW]
      clear hW
      first | go_region_with (first
          | (go_at_call 73
             refine (rFast _ _ _ _ _ _ _ _ _ r1 r2).mono ?_
             rintro r w1 ⟨rfl, hb⟩
             have Hb := Lib.hid (show Below W.heap.size W w1 from ⟨hb.os, hb.tape, hb.output, hb.size, hb.block⟩)
             clear hb
             have z0 := (Hb.out.cell (p := ⟨w.heap.size + 1, 0, none⟩) hbk).trans y0
             have z1 := (Hb.out.cell (p := ⟨w.heap.size + 1, 1, none⟩) hbk).trans y1
             have z2 := (Hb.out.cell (p := ⟨w.heap.size + 1, 2, none⟩) hbk).trans y2
             have z3 := (Hb.out.cell (p := ⟨w.heap.size + 1, 3, none⟩) hbk).trans y3
             have z4 := (Hb.out.cell (p := ⟨w.heap.size + 1, 4, none⟩) hbk).trans y4
             have z5 := (Hb.out.cell (p := ⟨w.heap.size + 1, 5, none⟩) hbk).trans y5)
          | (go_at_call 72
             rw [← HSL.out]
             refine (rWithin d IH.out e n _ _ hn HO.out ?_ HR.out).mono ?_
             · exact HA.out.up (HBW.out.trans (Hb.out.mono (by omega))) d e
             rintro r w2 ⟨rfl, hb2⟩
             have Hb2 := Lib.hid (Hb.out.trans (hb2.mono Hb.out.size))
             clear hb2
             obtain ⟨s, hs⟩ : ∃ s : ByteArray, s = ⟨(sideL (exprL d e) true).toArray⟩ := ⟨_, rfl⟩
             have hsz : s.size ≤ 207354 := by
               rw [hs]
               have h1 := sideL_le (exprL d e) true
               have h2 := HLE.out
               simp [ByteArray.size]
               omega
             have hcat : ¬ 9223372036854775807 < 1 + s.size := by omega
             have HSB := Lib.hid (show bl s = sideL (exprL d e) true by rw [hs])
             rw [← hs]
             clear hs)) | fail
      all_goals
        clear y0 y1 y2 y3 y4 y5 c0 c1 c2 c3 c4 c5
        go_wp2_with fail
        go_ret
        exact ⟨ret_bytes (by rw [HN.out, bl_cat, HSB.out]; rfl), HBW.out.trans (Hb2.out.mono (by omega))⟩
  rcases hC : (exTm d e).v.toList.isEmpty with _ | _
  case false =>
    rcases hA : decide (holdI (exOp d e) < 3) with _ | _
    case false =>
      have HN := Lib.hid (show negB (exOp d e) (exTm d e) = false by rw [HN0.out, hA, hB, hC]; rfl)
      go_enter Tryd.func35, Tryd.ntmps35
      go_wp2_with fail
      rw [← hW]
      clear hW
      go_region_held3 (fun w' => w'.cell? ⟨w.heap.size + 1, 0, none⟩ = W.cell? ⟨w.heap.size + 1, 0, none⟩ ∧ w'.cell? ⟨w.heap.size + 1, 1, none⟩ = W.cell? ⟨w.heap.size + 1, 1, none⟩ ∧ w'.cell? ⟨w.heap.size + 1, 2, none⟩ = W.cell? ⟨w.heap.size + 1, 2, none⟩ ∧ w'.cell? ⟨w.heap.size + 1, 3, none⟩ = W.cell? ⟨w.heap.size + 1, 3, none⟩ ∧ w'.cell? ⟨w.heap.size + 1, 4, none⟩ = W.cell? ⟨w.heap.size + 1, 4, none⟩ ∧ w'.cell? ⟨w.heap.size + 1, 5, none⟩ = W.cell? ⟨w.heap.size + 1, 5, none⟩)
        (first | exact ⟨rfl, rfl, rfl, rfl, rfl, rfl⟩ | exact ⟨Hb2.out.cell hbk, Hb2.out.cell hbk, Hb2.out.cell hbk, Hb2.out.cell hbk, Hb2.out.cell hbk, Hb2.out.cell hbk⟩ | exact ⟨Hb.out.cell hbk, Hb.out.cell hbk, Hb.out.cell hbk, Hb.out.cell hbk, Hb.out.cell hbk, Hb.out.cell hbk⟩)
        (first
          | (go_at_call 73
             refine (rFast _ _ _ _ _ _ _ _ _ r1 r2).mono ?_
             rintro r w1 ⟨rfl, hb⟩
             have Hb := Lib.hid (show Below W.heap.size W w1 from ⟨hb.os, hb.tape, hb.output, hb.size, hb.block⟩)
             clear hb)
          | (go_at_call 72
             rw [← HSL.out]
             refine (rWithin d IH.out e n _ _ hn HO.out ?_ HR.out).mono ?_
             · exact HA.out.up (HBW.out.trans (Hb.out.mono (by omega))) d e
             rintro r w2 ⟨rfl, hb2⟩
             have Hb2 := Lib.hid (Hb.out.trans (hb2.mono Hb.out.size))
             clear hb2
             obtain ⟨s, hs⟩ : ∃ s : ByteArray, s = ⟨(sideL (exprL d e) false).toArray⟩ := ⟨_, rfl⟩
             have hsz : s.size ≤ 207354 := by
               rw [hs]
               have h1 := sideL_le (exprL d e) false
               have h2 := HLE.out
               simp [ByteArray.size]
               omega
             have hcat : ¬ 9223372036854775807 < 1 + s.size := by omega
             have HSB := Lib.hid (show bl s = sideL (exprL d e) false by rw [hs])
             rw [← hs]
             clear hs))
      clear y0 y1 y2 y3 y4 y5 c0 c1 c2 c3 c4 c5
      go_wp2_with fail
      go_ret
      exact ⟨ret_bytes (by rw [HN.out, bl_cat, HSB.out]; rfl), HBW.out.trans (Hb2.out.mono (by omega))⟩
    case true =>
      have HN := Lib.hid (show negB (exOp d e) (exTm d e) = true by rw [HN0.out, hA]; rfl)
      go_enter Tryd.func35, Tryd.ntmps35
      go_wp2_with fail
      rw [← hW]
      clear hW
      first | go_region_with (first
          | (go_at_call 73
             refine (rFast _ _ _ _ _ _ _ _ _ r1 r2).mono ?_
             rintro r w1 ⟨rfl, hb⟩
             have Hb := Lib.hid (show Below W.heap.size W w1 from ⟨hb.os, hb.tape, hb.output, hb.size, hb.block⟩)
             clear hb
             have z0 := (Hb.out.cell (p := ⟨w.heap.size + 1, 0, none⟩) hbk).trans y0
             have z1 := (Hb.out.cell (p := ⟨w.heap.size + 1, 1, none⟩) hbk).trans y1
             have z2 := (Hb.out.cell (p := ⟨w.heap.size + 1, 2, none⟩) hbk).trans y2
             have z3 := (Hb.out.cell (p := ⟨w.heap.size + 1, 3, none⟩) hbk).trans y3
             have z4 := (Hb.out.cell (p := ⟨w.heap.size + 1, 4, none⟩) hbk).trans y4
             have z5 := (Hb.out.cell (p := ⟨w.heap.size + 1, 5, none⟩) hbk).trans y5)
          | (go_at_call 72
             rw [← HSL.out]
             refine (rWithin d IH.out e n _ _ hn HO.out ?_ HR.out).mono ?_
             · exact HA.out.up (HBW.out.trans (Hb.out.mono (by omega))) d e
             rintro r w2 ⟨rfl, hb2⟩
             have Hb2 := Lib.hid (Hb.out.trans (hb2.mono Hb.out.size))
             clear hb2
             obtain ⟨s, hs⟩ : ∃ s : ByteArray, s = ⟨(sideL (exprL d e) true).toArray⟩ := ⟨_, rfl⟩
             have hsz : s.size ≤ 207354 := by
               rw [hs]
               have h1 := sideL_le (exprL d e) true
               have h2 := HLE.out
               simp [ByteArray.size]
               omega
             have hcat : ¬ 9223372036854775807 < 1 + s.size := by omega
             have HSB := Lib.hid (show bl s = sideL (exprL d e) true by rw [hs])
             rw [← hs]
             clear hs)) | fail
      all_goals
        clear y0 y1 y2 y3 y4 y5 c0 c1 c2 c3 c4 c5
        go_wp2_with fail
        go_ret
        exact ⟨ret_bytes (by rw [HN.out, bl_cat, HSB.out]; rfl), HBW.out.trans (Hb2.out.mono (by omega))⟩
  rcases hD : ((exTm d e).x.k == 1) with _ | _
  case false =>
    rcases hA : decide (holdI (exOp d e) < 3) with _ | _
    case false =>
      have HN := Lib.hid (show negB (exOp d e) (exTm d e) = false by rw [HN0.out, hA, hB, hC, hD]; rfl)
      go_enter Tryd.func35, Tryd.ntmps35
      go_wp2_with fail
      rw [← hW]
      clear hW
      go_region_held3 (fun w' => w'.cell? ⟨w.heap.size + 1, 0, none⟩ = W.cell? ⟨w.heap.size + 1, 0, none⟩ ∧ w'.cell? ⟨w.heap.size + 1, 1, none⟩ = W.cell? ⟨w.heap.size + 1, 1, none⟩ ∧ w'.cell? ⟨w.heap.size + 1, 2, none⟩ = W.cell? ⟨w.heap.size + 1, 2, none⟩ ∧ w'.cell? ⟨w.heap.size + 1, 3, none⟩ = W.cell? ⟨w.heap.size + 1, 3, none⟩ ∧ w'.cell? ⟨w.heap.size + 1, 4, none⟩ = W.cell? ⟨w.heap.size + 1, 4, none⟩ ∧ w'.cell? ⟨w.heap.size + 1, 5, none⟩ = W.cell? ⟨w.heap.size + 1, 5, none⟩)
        (first | exact ⟨rfl, rfl, rfl, rfl, rfl, rfl⟩ | exact ⟨Hb2.out.cell hbk, Hb2.out.cell hbk, Hb2.out.cell hbk, Hb2.out.cell hbk, Hb2.out.cell hbk, Hb2.out.cell hbk⟩ | exact ⟨Hb.out.cell hbk, Hb.out.cell hbk, Hb.out.cell hbk, Hb.out.cell hbk, Hb.out.cell hbk, Hb.out.cell hbk⟩)
        (first
          | (go_at_call 73
             refine (rFast _ _ _ _ _ _ _ _ _ r1 r2).mono ?_
             rintro r w1 ⟨rfl, hb⟩
             have Hb := Lib.hid (show Below W.heap.size W w1 from ⟨hb.os, hb.tape, hb.output, hb.size, hb.block⟩)
             clear hb)
          | (go_at_call 72
             rw [← HSL.out]
             refine (rWithin d IH.out e n _ _ hn HO.out ?_ HR.out).mono ?_
             · exact HA.out.up (HBW.out.trans (Hb.out.mono (by omega))) d e
             rintro r w2 ⟨rfl, hb2⟩
             have Hb2 := Lib.hid (Hb.out.trans (hb2.mono Hb.out.size))
             clear hb2
             obtain ⟨s, hs⟩ : ∃ s : ByteArray, s = ⟨(sideL (exprL d e) false).toArray⟩ := ⟨_, rfl⟩
             have hsz : s.size ≤ 207354 := by
               rw [hs]
               have h1 := sideL_le (exprL d e) false
               have h2 := HLE.out
               simp [ByteArray.size]
               omega
             have hcat : ¬ 9223372036854775807 < 1 + s.size := by omega
             have HSB := Lib.hid (show bl s = sideL (exprL d e) false by rw [hs])
             rw [← hs]
             clear hs))
      clear y0 y1 y2 y3 y4 y5 c0 c1 c2 c3 c4 c5
      go_wp2_with fail
      go_ret
      exact ⟨ret_bytes (by rw [HN.out, bl_cat, HSB.out]; rfl), HBW.out.trans (Hb2.out.mono (by omega))⟩
    case true =>
      have HN := Lib.hid (show negB (exOp d e) (exTm d e) = true by rw [HN0.out, hA]; rfl)
      go_enter Tryd.func35, Tryd.ntmps35
      go_wp2_with fail
      rw [← hW]
      clear hW
      first | go_region_with (first
          | (go_at_call 73
             refine (rFast _ _ _ _ _ _ _ _ _ r1 r2).mono ?_
             rintro r w1 ⟨rfl, hb⟩
             have Hb := Lib.hid (show Below W.heap.size W w1 from ⟨hb.os, hb.tape, hb.output, hb.size, hb.block⟩)
             clear hb
             have z0 := (Hb.out.cell (p := ⟨w.heap.size + 1, 0, none⟩) hbk).trans y0
             have z1 := (Hb.out.cell (p := ⟨w.heap.size + 1, 1, none⟩) hbk).trans y1
             have z2 := (Hb.out.cell (p := ⟨w.heap.size + 1, 2, none⟩) hbk).trans y2
             have z3 := (Hb.out.cell (p := ⟨w.heap.size + 1, 3, none⟩) hbk).trans y3
             have z4 := (Hb.out.cell (p := ⟨w.heap.size + 1, 4, none⟩) hbk).trans y4
             have z5 := (Hb.out.cell (p := ⟨w.heap.size + 1, 5, none⟩) hbk).trans y5)
          | (go_at_call 72
             rw [← HSL.out]
             refine (rWithin d IH.out e n _ _ hn HO.out ?_ HR.out).mono ?_
             · exact HA.out.up (HBW.out.trans (Hb.out.mono (by omega))) d e
             rintro r w2 ⟨rfl, hb2⟩
             have Hb2 := Lib.hid (Hb.out.trans (hb2.mono Hb.out.size))
             clear hb2
             obtain ⟨s, hs⟩ : ∃ s : ByteArray, s = ⟨(sideL (exprL d e) true).toArray⟩ := ⟨_, rfl⟩
             have hsz : s.size ≤ 207354 := by
               rw [hs]
               have h1 := sideL_le (exprL d e) true
               have h2 := HLE.out
               simp [ByteArray.size]
               omega
             have hcat : ¬ 9223372036854775807 < 1 + s.size := by omega
             have HSB := Lib.hid (show bl s = sideL (exprL d e) true by rw [hs])
             rw [← hs]
             clear hs)) | fail
      all_goals
        clear y0 y1 y2 y3 y4 y5 c0 c1 c2 c3 c4 c5
        go_wp2_with fail
        go_ret
        exact ⟨ret_bytes (by rw [HN.out, bl_cat, HSB.out]; rfl), HBW.out.trans (Hb2.out.mono (by omega))⟩
  rcases hE : decide (0 ≤ (exTm d e).x.n) with _ | _
  case false =>
    rcases hA : decide (holdI (exOp d e) < 3) with _ | _
    case false =>
      have HN := Lib.hid (show negB (exOp d e) (exTm d e) = false by rw [HN0.out, hA, hB, hC, hD, hE]; rfl)
      go_enter Tryd.func35, Tryd.ntmps35
      go_wp2_with fail
      rw [← hW]
      clear hW
      go_region_held3 (fun w' => w'.cell? ⟨w.heap.size + 1, 0, none⟩ = W.cell? ⟨w.heap.size + 1, 0, none⟩ ∧ w'.cell? ⟨w.heap.size + 1, 1, none⟩ = W.cell? ⟨w.heap.size + 1, 1, none⟩ ∧ w'.cell? ⟨w.heap.size + 1, 2, none⟩ = W.cell? ⟨w.heap.size + 1, 2, none⟩ ∧ w'.cell? ⟨w.heap.size + 1, 3, none⟩ = W.cell? ⟨w.heap.size + 1, 3, none⟩ ∧ w'.cell? ⟨w.heap.size + 1, 4, none⟩ = W.cell? ⟨w.heap.size + 1, 4, none⟩ ∧ w'.cell? ⟨w.heap.size + 1, 5, none⟩ = W.cell? ⟨w.heap.size + 1, 5, none⟩)
        (first | exact ⟨rfl, rfl, rfl, rfl, rfl, rfl⟩ | exact ⟨Hb2.out.cell hbk, Hb2.out.cell hbk, Hb2.out.cell hbk, Hb2.out.cell hbk, Hb2.out.cell hbk, Hb2.out.cell hbk⟩ | exact ⟨Hb.out.cell hbk, Hb.out.cell hbk, Hb.out.cell hbk, Hb.out.cell hbk, Hb.out.cell hbk, Hb.out.cell hbk⟩)
        (first
          | (go_at_call 73
             refine (rFast _ _ _ _ _ _ _ _ _ r1 r2).mono ?_
             rintro r w1 ⟨rfl, hb⟩
             have Hb := Lib.hid (show Below W.heap.size W w1 from ⟨hb.os, hb.tape, hb.output, hb.size, hb.block⟩)
             clear hb)
          | (go_at_call 72
             rw [← HSL.out]
             refine (rWithin d IH.out e n _ _ hn HO.out ?_ HR.out).mono ?_
             · exact HA.out.up (HBW.out.trans (Hb.out.mono (by omega))) d e
             rintro r w2 ⟨rfl, hb2⟩
             have Hb2 := Lib.hid (Hb.out.trans (hb2.mono Hb.out.size))
             clear hb2
             obtain ⟨s, hs⟩ : ∃ s : ByteArray, s = ⟨(sideL (exprL d e) false).toArray⟩ := ⟨_, rfl⟩
             have hsz : s.size ≤ 207354 := by
               rw [hs]
               have h1 := sideL_le (exprL d e) false
               have h2 := HLE.out
               simp [ByteArray.size]
               omega
             have hcat : ¬ 9223372036854775807 < 1 + s.size := by omega
             have HSB := Lib.hid (show bl s = sideL (exprL d e) false by rw [hs])
             rw [← hs]
             clear hs))
      clear y0 y1 y2 y3 y4 y5 c0 c1 c2 c3 c4 c5
      go_wp2_with fail
      go_ret
      exact ⟨ret_bytes (by rw [HN.out, bl_cat, HSB.out]; rfl), HBW.out.trans (Hb2.out.mono (by omega))⟩
    case true =>
      have HN := Lib.hid (show negB (exOp d e) (exTm d e) = true by rw [HN0.out, hA]; rfl)
      go_enter Tryd.func35, Tryd.ntmps35
      go_wp2_with fail
      rw [← hW]
      clear hW
      first | go_region_with (first
          | (go_at_call 73
             refine (rFast _ _ _ _ _ _ _ _ _ r1 r2).mono ?_
             rintro r w1 ⟨rfl, hb⟩
             have Hb := Lib.hid (show Below W.heap.size W w1 from ⟨hb.os, hb.tape, hb.output, hb.size, hb.block⟩)
             clear hb
             have z0 := (Hb.out.cell (p := ⟨w.heap.size + 1, 0, none⟩) hbk).trans y0
             have z1 := (Hb.out.cell (p := ⟨w.heap.size + 1, 1, none⟩) hbk).trans y1
             have z2 := (Hb.out.cell (p := ⟨w.heap.size + 1, 2, none⟩) hbk).trans y2
             have z3 := (Hb.out.cell (p := ⟨w.heap.size + 1, 3, none⟩) hbk).trans y3
             have z4 := (Hb.out.cell (p := ⟨w.heap.size + 1, 4, none⟩) hbk).trans y4
             have z5 := (Hb.out.cell (p := ⟨w.heap.size + 1, 5, none⟩) hbk).trans y5)
          | (go_at_call 72
             rw [← HSL.out]
             refine (rWithin d IH.out e n _ _ hn HO.out ?_ HR.out).mono ?_
             · exact HA.out.up (HBW.out.trans (Hb.out.mono (by omega))) d e
             rintro r w2 ⟨rfl, hb2⟩
             have Hb2 := Lib.hid (Hb.out.trans (hb2.mono Hb.out.size))
             clear hb2
             obtain ⟨s, hs⟩ : ∃ s : ByteArray, s = ⟨(sideL (exprL d e) true).toArray⟩ := ⟨_, rfl⟩
             have hsz : s.size ≤ 207354 := by
               rw [hs]
               have h1 := sideL_le (exprL d e) true
               have h2 := HLE.out
               simp [ByteArray.size]
               omega
             have hcat : ¬ 9223372036854775807 < 1 + s.size := by omega
             have HSB := Lib.hid (show bl s = sideL (exprL d e) true by rw [hs])
             rw [← hs]
             clear hs)) | fail
      all_goals
        clear y0 y1 y2 y3 y4 y5 c0 c1 c2 c3 c4 c5
        go_wp2_with fail
        go_ret
        exact ⟨ret_bytes (by rw [HN.out, bl_cat, HSB.out]; rfl), HBW.out.trans (Hb2.out.mono (by omega))⟩
  case true =>
    rcases hA : decide (holdI (exOp d e) < 3) with _ | _
    case false =>
      have HN := Lib.hid (show negB (exOp d e) (exTm d e) = true by rw [HN0.out, hA, hB, hC, hD, hE]; rfl)
      go_enter Tryd.func35, Tryd.ntmps35
      go_wp2_with fail
      rw [← hW]
      clear hW
      go_region_held3 (fun w' => w'.cell? ⟨w.heap.size + 1, 0, none⟩ = W.cell? ⟨w.heap.size + 1, 0, none⟩ ∧ w'.cell? ⟨w.heap.size + 1, 1, none⟩ = W.cell? ⟨w.heap.size + 1, 1, none⟩ ∧ w'.cell? ⟨w.heap.size + 1, 2, none⟩ = W.cell? ⟨w.heap.size + 1, 2, none⟩ ∧ w'.cell? ⟨w.heap.size + 1, 3, none⟩ = W.cell? ⟨w.heap.size + 1, 3, none⟩ ∧ w'.cell? ⟨w.heap.size + 1, 4, none⟩ = W.cell? ⟨w.heap.size + 1, 4, none⟩ ∧ w'.cell? ⟨w.heap.size + 1, 5, none⟩ = W.cell? ⟨w.heap.size + 1, 5, none⟩)
        (first | exact ⟨rfl, rfl, rfl, rfl, rfl, rfl⟩ | exact ⟨Hb2.out.cell hbk, Hb2.out.cell hbk, Hb2.out.cell hbk, Hb2.out.cell hbk, Hb2.out.cell hbk, Hb2.out.cell hbk⟩ | exact ⟨Hb.out.cell hbk, Hb.out.cell hbk, Hb.out.cell hbk, Hb.out.cell hbk, Hb.out.cell hbk, Hb.out.cell hbk⟩)
        (first
          | (go_at_call 73
             refine (rFast _ _ _ _ _ _ _ _ _ r1 r2).mono ?_
             rintro r w1 ⟨rfl, hb⟩
             have Hb := Lib.hid (show Below W.heap.size W w1 from ⟨hb.os, hb.tape, hb.output, hb.size, hb.block⟩)
             clear hb)
          | (go_at_call 72
             rw [← HSL.out]
             refine (rWithin d IH.out e n _ _ hn HO.out ?_ HR.out).mono ?_
             · exact HA.out.up (HBW.out.trans (Hb.out.mono (by omega))) d e
             rintro r w2 ⟨rfl, hb2⟩
             have Hb2 := Lib.hid (Hb.out.trans (hb2.mono Hb.out.size))
             clear hb2
             obtain ⟨s, hs⟩ : ∃ s : ByteArray, s = ⟨(sideL (exprL d e) true).toArray⟩ := ⟨_, rfl⟩
             have hsz : s.size ≤ 207354 := by
               rw [hs]
               have h1 := sideL_le (exprL d e) true
               have h2 := HLE.out
               simp [ByteArray.size]
               omega
             have hcat : ¬ 9223372036854775807 < 1 + s.size := by omega
             have HSB := Lib.hid (show bl s = sideL (exprL d e) true by rw [hs])
             rw [← hs]
             clear hs))
      clear y0 y1 y2 y3 y4 y5 c0 c1 c2 c3 c4 c5
      go_wp2_with fail
      go_ret
      exact ⟨ret_bytes (by rw [HN.out, bl_cat, HSB.out]; rfl), HBW.out.trans (Hb2.out.mono (by omega))⟩
    case true =>
      have HN := Lib.hid (show negB (exOp d e) (exTm d e) = true by rw [HN0.out, hA]; rfl)
      go_enter Tryd.func35, Tryd.ntmps35
      go_wp2_with fail
      rw [← hW]
      clear hW
      first | go_region_with (first
          | (go_at_call 73
             refine (rFast _ _ _ _ _ _ _ _ _ r1 r2).mono ?_
             rintro r w1 ⟨rfl, hb⟩
             have Hb := Lib.hid (show Below W.heap.size W w1 from ⟨hb.os, hb.tape, hb.output, hb.size, hb.block⟩)
             clear hb
             have z0 := (Hb.out.cell (p := ⟨w.heap.size + 1, 0, none⟩) hbk).trans y0
             have z1 := (Hb.out.cell (p := ⟨w.heap.size + 1, 1, none⟩) hbk).trans y1
             have z2 := (Hb.out.cell (p := ⟨w.heap.size + 1, 2, none⟩) hbk).trans y2
             have z3 := (Hb.out.cell (p := ⟨w.heap.size + 1, 3, none⟩) hbk).trans y3
             have z4 := (Hb.out.cell (p := ⟨w.heap.size + 1, 4, none⟩) hbk).trans y4
             have z5 := (Hb.out.cell (p := ⟨w.heap.size + 1, 5, none⟩) hbk).trans y5)
          | (go_at_call 72
             rw [← HSL.out]
             refine (rWithin d IH.out e n _ _ hn HO.out ?_ HR.out).mono ?_
             · exact HA.out.up (HBW.out.trans (Hb.out.mono (by omega))) d e
             rintro r w2 ⟨rfl, hb2⟩
             have Hb2 := Lib.hid (Hb.out.trans (hb2.mono Hb.out.size))
             clear hb2
             obtain ⟨s, hs⟩ : ∃ s : ByteArray, s = ⟨(sideL (exprL d e) true).toArray⟩ := ⟨_, rfl⟩
             have hsz : s.size ≤ 207354 := by
               rw [hs]
               have h1 := sideL_le (exprL d e) true
               have h2 := HLE.out
               simp [ByteArray.size]
               omega
             have hcat : ¬ 9223372036854775807 < 1 + s.size := by omega
             have HSB := Lib.hid (show bl s = sideL (exprL d e) true by rw [hs])
             rw [← hs]
             clear hs)) | fail
      all_goals
        clear y0 y1 y2 y3 y4 y5 c0 c1 c2 c3 c4 c5
        go_wp2_with fail
        go_ret
        exact ⟨ret_bytes (by rw [HN.out, bl_cat, HSB.out]; rfl), HBW.out.trans (Hb2.out.mono (by omega))⟩
end Go.Proofs.YtlghiakckkhekaaDoor
