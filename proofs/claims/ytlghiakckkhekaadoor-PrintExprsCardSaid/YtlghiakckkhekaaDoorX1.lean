/- The walk of PrintExprs. Conditions: the expression lies in memory as it is told, its lists are not too long; the tables lie as they are laid. -/
import Derived.Test.YtlghiakckkhekaaDoorW28
import Derived.Test.YtlghiakckkhekaaDoorR6
import Derived.Test.YtlghiakckkhekaaDoorT6
import Derived.Test.YtlghiakckkhekaaDoorT7
namespace Go.Proofs.YtlghiakckkhekaaDoor
open Go.RowKit

/-- What a call leaves that answers yes or no. -/
def BoolPost (w : World) (r : Ending) (w' : World) : Prop := ∃ b : Bool, r = .returned (.bool b) ∧ Below w.heap.size w w'
theorem beyond (d : Nat) (e : Ex d) (w : World) (he : ExAt w d e) (heb : ExB d e) :
    Calls Tryd.prog 11 #[.agg #[.int .i8 (exOp d e), .string (exTm d e).v, .int .i8 (exTm d e).x.k, .int .i64 (exTm d e).x.n, .string (exTm d e).x.t, exSl d e]] w (BoolPost w) := by
  obtain ⟨p, l, cp, hsl⟩ := ex_sl he
  have HE := Lib.hid he; clear he
  have HEB := Lib.hid heb; clear heb
  rw [hsl]
  have HSL := Lib.hid hsl; clear hsl
  go_enter Tryd.func11, Tryd.ntmps11
  go_wp2_with fail
  rw [← HSL.out]
  refine (parts d e 1048576 _ (ExAt.up (below_alloc _ _) d e HE.out) HEB.out (by decide) (by decide)).mono ?_
  rintro r w1 ⟨n, rfl, h0, h1, hb⟩
  have Hb := Lib.hid hb; clear hb
  go_wp2_with fail
  go_ret
  exact ⟨_, rfl, (below_alloc _ _).trans (Hb.out.mono (by simp))⟩
set_option maxHeartbeats 4000000 in
theorem printExprs (d : Nat) (e : Ex d) (w : World) (he : ExAt w d e) (hr : ExR d e) (heb : ExB d e) (hT : Tabs w) :
    Calls Tryd.prog 4 #[.agg #[.int .i8 (exOp d e), .string (exTm d e).v, .int .i8 (exTm d e).x.k, .int .i64 (exTm d e).x.n, .string (exTm d e).x.t, exSl d e]] w fun r w' => r = .returned (.bool true) ∧ Below w.heap.size w w' := by
  obtain ⟨p, l, cp, hsl⟩ := ex_sl he
  have HE := Lib.hid he; clear he
  have HR := Lib.hid hr; clear hr
  have HEB := Lib.hid heb; clear heb
  have HT := Lib.hid hT; clear hT
  rw [hsl]
  have HSL := Lib.hid hsl; clear hsl
  obtain ⟨W, hW⟩ : ∃ W, W = w.alloc (.cells #[.int .i8 (exOp d e), .string (exTm d e).v, .int .i8 (exTm d e).x.k, .int .i64 (exTm d e).x.n, .string (exTm d e).x.t, .slice p l cp] 36) := ⟨_, rfl⟩
  have HBW := Lib.hid (show Below w.heap.size w W by rw [hW]; exact below_alloc _ _)
  have hsW : W.heap.size = w.heap.size + 1 := by rw [hW]; simp
  have HBX := Lib.hid (show W.heap[w.heap.size]? = some (.cells #[.int .i8 (exOp d e), .string (exTm d e).v, .int .i8 (exTm d e).x.k, .int .i64 (exTm d e).x.n, .string (exTm d e).x.t, .slice p l cp] 36 (0, 0)) by rw [hW]; exact heap_alloc_new w _)
  go_enter Tryd.func4, Tryd.ntmps4
  go_wp2_with fail
  rw [← hW]
  clear hW
  rw [← HSL.out]
  refine (beyond d e _ (ExAt.up HBW.out d e HE.out) HEB.out).mono ?_
  rintro r w1 ⟨b, rfl, hb⟩
  have HB1 := Lib.hid (HBW.out.trans (hb.mono (by omega)))
  have hbx1 := (hb.block w.heap.size (by omega)).trans HBX.out
  have hs1 : w.heap.size < w1.heap.size := by have := hb.size; omega
  clear hb
  cases b
  case true =>
    go_wp2_with fail
    go_ret
    exact ⟨rfl, HB1.out⟩
  case false =>
    obtain ⟨x0, x1, x2, x3, x4, x5⟩ := six hbx1
    have HBX1 := Lib.hid hbx1; clear hbx1
    go_wp2_with fail
    rw [← HSL.out]
    refine (twin_all d e _ (ExAt.up HB1.out d e HE.out) HR.out HEB.out (HT.out.at HB1.out)).mono ?_
    rintro r w2 ⟨f, rfl, hal, htw, hb⟩
    obtain ⟨pf, lf, cf, hslf⟩ := ex_sl (htw.at (hal.b HEB.out))
    rw [hslf]
    have HSLF := Lib.hid hslf; clear hslf
    have HAL := Lib.hid hal; clear hal
    have HTW := Lib.hid htw; clear htw
    have hbx2 := (hb.block w.heap.size hs1).trans HBX1.out
    have HB2 := Lib.hid (HB1.out.trans (hb.mono (by omega)))
    have hs2 : w.heap.size < w2.heap.size := by have := hb.size; omega
    clear hb x0 x1 x2 x3 x4 x5
    obtain ⟨x0, x1, x2, x3, x4, x5⟩ := six hbx2
    have HBX2 := Lib.hid hbx2; clear hbx2
    obtain ⟨w3, hw3⟩ : ∃ w3, w3 = w2.alloc (.cells #[.int .i8 (exOp d f), .string (exTm d f).v, .int .i8 (exTm d f).x.k, .int .i64 (exTm d f).x.n, .string (exTm d f).x.t, .slice pf lf cf] 36) := ⟨_, rfl⟩
    have HB3 := Lib.hid (show Below w.heap.size w w3 by rw [hw3]; exact HB2.out.trans ((below_alloc _ _).mono (by omega)))
    have HB23 := Lib.hid (show Below w2.heap.size w2 w3 by rw [hw3]; exact below_alloc _ _)
    have hs3 : w3.heap.size = w2.heap.size + 1 := by rw [hw3]; simp
    have HBX3 := Lib.hid ((HB23.out.block w.heap.size hs2).trans HBX2.out)
    have HBY3 := Lib.hid (show w3.heap[w2.heap.size]? = some (.cells #[.int .i8 (exOp d f), .string (exTm d f).v, .int .i8 (exTm d f).x.k, .int .i64 (exTm d f).x.n, .string (exTm d f).x.t, .slice pf lf cf] 36 (0, 0)) by rw [hw3]; exact heap_alloc_new w2 _)
    go_wp2_with fail
    rw [← hw3]
    clear hw3 x0 x1 x2 x3 x4 x5
    rw [← HSL.out]
    refine (rExprT d e _ (ExAt.up HB3.out d e HE.out) HR.out).mono ?_
    rintro r w4 ⟨rfl, hb⟩
    have hbx4 := (hb.block w.heap.size (by omega)).trans HBX3.out
    have hby4 := (hb.block w2.heap.size (by omega)).trans HBY3.out
    have HB4 := Lib.hid (HB3.out.trans (hb.mono (by omega)))
    have HB24 := Lib.hid (HB23.out.trans (hb.mono (by omega)))
    have hs4 : w2.heap.size < w4.heap.size := by have := hb.size; omega
    clear hb
    obtain ⟨y0, y1, y2, y3, y4, y5⟩ := six hby4
    have HBX4 := Lib.hid hbx4; clear hbx4
    have HBY4 := Lib.hid hby4; clear hby4
    go_wp2_with fail
    rw [← HSLF.out]
    refine (pExprT d f _ ((HTW.out.low HB24.out).at (HAL.out.b HEB.out)) (HAL.out.r HR.out) (HT.out.at HB4.out)).mono ?_
    rintro r w5 ⟨rfl, hb⟩
    rw [← HAL.out.ok, ← HAL.out.txt]
    clear y0 y1 y2 y3 y4 y5
    have hbx5 := (hb.block w.heap.size (by omega)).trans HBX4.out
    have hby5 := (hb.block w2.heap.size (by omega)).trans HBY4.out
    have HB5 := Lib.hid (HB4.out.trans (hb.mono (by omega)))
    have HB25 := Lib.hid (HB24.out.trans (hb.mono (by omega)))
    have hs5 : w2.heap.size < w5.heap.size := by have := hb.size; omega
    clear hb
    obtain ⟨x0, x1, x2, x3, x4, x5⟩ := six hbx5
    obtain ⟨y0, y1, y2, y3, y4, y5⟩ := six hby5
    obtain ⟨s, hs⟩ : ∃ s, s = (⟨(txt (exOk 8 d e) (exprL d e)).toArray⟩ : ByteArray) := ⟨_, rfl⟩
    obtain ⟨c, hc⟩ : ∃ c, c = okCode (exOk 8 d e) 40 := ⟨_, rfl⟩
    rw [← hs, ← hc]
    clear hs hc hbx5 hby5
    go_wp2_with fail
    rw [← HSL.out, ← HSLF.out]
    refine (left_all d e f _ _ (ExAt.up HB5.out d e HE.out) HEB.out HAL.out (HTW.out.low HB25.out) (HT.out.at HB5.out)).mono ?_
    rintro r w6 ⟨rfl, hb⟩
    clear x0 x1 x2 x3 x4 x5 y0 y1 y2 y3 y4 y5
    have HB6 := Lib.hid (HB5.out.trans (hb.mono (by omega))); clear hb
    go_wp2_with fail
    refine (lives _ (HT.out.at HB6.out)).mono ?_
    rintro r w7 ⟨rfl, hb⟩
    have HB7 := Lib.hid (HB6.out.trans (hb.mono HB6.out.size)); clear hb
    go_wp2_with fail
    go_ret
    exact ⟨rfl, HB7.out⟩
end Go.Proofs.YtlghiakckkhekaaDoor
