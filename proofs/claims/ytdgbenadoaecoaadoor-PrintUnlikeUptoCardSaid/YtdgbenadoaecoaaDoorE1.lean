/- The contract of literalParts. Conditions: the literal lies in memory as it is told, its lists are not too long; the number that it counts up to is at most 2^20. -/
import Derived.Test.YtdgbenadoaecoaaDoorC1
import Derived.Test.YtdgbenadoaecoaaDoorMG
import Derived.Deep.RegionHeld3
namespace Go.Proofs.YtdgbenadoaecoaaDoor
open Go.RowKit

/-- A literal whose lists are not too long. -/
structure LtB {d : Nat} (x : Lt d) : Prop where
  ts_ : x.ts.length ≤ 2932031007317
  l_ : ExB d x.l
  g_ : ExB d x.g
set_option maxHeartbeats 4000000 in
set_option maxRecDepth 100000 in
theorem litParts (d : Nat) (x : Lt d) (left : Int) (w : World) (hx : LtAt w x) (hb : LtB x) (hl0 : 0 ≤ left) (hl1 : left ≤ 1048576) :
    Calls Tryd.prog 52 #[.agg #[.int .i8 x.k, .string x.p, x.sv, .int .i8 x.r, .int .i8 (exOp d x.l), .string (exTm d x.l).v, .int .i8 (exTm d x.l).x.k, .int .i64 (exTm d x.l).x.n, .string (exTm d x.l).x.t, exSl d x.l, .int .i8 (exOp d x.g), .string (exTm d x.g).v, .int .i8 (exTm d x.g).x.k, .int .i64 (exTm d x.g).x.n, .string (exTm d x.g).x.t, exSl d x.g], .int .i64 left] w (PartsPost left w) := by
  have HX := Lib.hid hx
  have hts := hb.ts_
  have HB := Lib.hid hb; clear hb
  obtain ⟨q, cap, hsv, _, _⟩ := hx.at_
  obtain ⟨pl, cl, hsl⟩ := ex_sl2 hx.l_
  obtain ⟨pg, cg, hsg⟩ := ex_sl2 hx.g_
  rw [hsv, hsl, hsg]
  have HSL := Lib.hid hsl
  have HSG := Lib.hid hsg
  clear hx hsv hsl hsg
  obtain ⟨W, hW⟩ : ∃ W, W = w.alloc (.cells #[.int .i8 x.k, .string x.p, .slice q x.ts.length cap, .int .i8 x.r, .int .i8 (exOp d x.l), .string (exTm d x.l).v, .int .i8 (exTm d x.l).x.k, .int .i64 (exTm d x.l).x.n, .string (exTm d x.l).x.t, .slice pl (exLen d x.l) cl, .int .i8 (exOp d x.g), .string (exTm d x.g).v, .int .i8 (exTm d x.g).x.k, .int .i64 (exTm d x.g).x.n, .string (exTm d x.g).x.t, .slice pg (exLen d x.g) cg] 94) := ⟨_, rfl⟩
  have HBW := Lib.hid (show Below w.heap.size w W by rw [hW]; exact below_alloc _ _)
  have hsW : W.heap.size = w.heap.size + 1 := by rw [hW]; simp
  have HBX := Lib.hid (show W.heap[w.heap.size]? = some (.cells #[.int .i8 x.k, .string x.p, .slice q x.ts.length cap, .int .i8 x.r, .int .i8 (exOp d x.l), .string (exTm d x.l).v, .int .i8 (exTm d x.l).x.k, .int .i64 (exTm d x.l).x.n, .string (exTm d x.l).x.t, .slice pl (exLen d x.l) cl, .int .i8 (exOp d x.g), .string (exTm d x.g).v, .int .i8 (exTm d x.g).x.k, .int .i64 (exTm d x.g).x.n, .string (exTm d x.g).x.t, .slice pg (exLen d x.g) cg] 94 (0, 0)) by rw [hW]; exact heap_alloc_new w _)
  obtain ⟨x0, x1, x2, x3, x4, x5, x6, x7, x8, x9, x10, x11, x12, x13, x14, x15⟩ := sixteen HBX.out
  have hbk : w.heap.size < W.heap.size := by omega
  have hw1 : IntKind.i64.wrap (1 + (x.ts.length : Int)) = 1 + (x.ts.length : Int) := by rw [IntKind.wrap_i64]; omega
  have Hb := Lib.hid ((Below.refl W.heap.size W).drew)
  go_enter Tryd.func52, Tryd.ntmps52
  go_wp2_with fail
  rw [← hW]
  clear hW
  go_region_held3 (fun w' => w'.cell? ⟨w.heap.size, 2, none⟩ = W.cell? ⟨w.heap.size, 2, none⟩ ∧ w'.cell? ⟨w.heap.size, 4, none⟩ = W.cell? ⟨w.heap.size, 4, none⟩ ∧ w'.cell? ⟨w.heap.size, 5, none⟩ = W.cell? ⟨w.heap.size, 5, none⟩ ∧ w'.cell? ⟨w.heap.size, 6, none⟩ = W.cell? ⟨w.heap.size, 6, none⟩ ∧ w'.cell? ⟨w.heap.size, 7, none⟩ = W.cell? ⟨w.heap.size, 7, none⟩ ∧ w'.cell? ⟨w.heap.size, 8, none⟩ = W.cell? ⟨w.heap.size, 8, none⟩ ∧ w'.cell? ⟨w.heap.size, 9, none⟩ = W.cell? ⟨w.heap.size, 9, none⟩)
    (exact ⟨Hb.out.cell hbk, Hb.out.cell hbk, Hb.out.cell hbk, Hb.out.cell hbk, Hb.out.cell hbk, Hb.out.cell hbk, Hb.out.cell hbk⟩)
    (first
      | (go_at_call 75
         rw [← HSL.out]
         refine (parts d x.l left _ ?_ HB.out.l_ hl0 hl1).mono ?_
         · exact ExAt.up (HBW.out.trans (Hb.out.mono (by omega))) d _ HX.out.l_
         rintro r w1 ⟨n, rfl, hn0, hn1, hb1⟩
         have Hb := Lib.hid (Hb.out.trans (hb1.mono Hb.out.size))
         clear hb1
         have hw2 : IntKind.i64.wrap (1 + (x.ts.length : Int) + n) = 1 + (x.ts.length : Int) + n := by rw [IntKind.wrap_i64]; omega))
  all_goals
    clear x0 x1 x2 x3 x4 x5 x6 x7 x8 x9 x10 x11 x12 x13 x14 x15 hw1 hw2
    by_cases hgt : left < 1 + (x.ts.length : Int) + n
    · have q1 : decide (left < 1 + (x.ts.length : Int) + n) = true := decide_eq_true hgt
      go_wp2_with fail
      go_ret
      exact ⟨left + 1, rfl, by omega, by omega, HBW.out.trans (Hb.out.mono (by omega))⟩
    · have q1 : decide (left < 1 + (x.ts.length : Int) + n) = false := decide_eq_false hgt
      obtain ⟨x0, x1, x2, x3, x4, x5, x6, x7, x8, x9, x10, x11, x12, x13, x14, x15⟩ := sixteen ((Hb.out.block w.heap.size hbk).trans HBX.out)
      go_wp2_with fail
      rw [← HSG.out]
      refine (parts d x.g (left - (1 + (x.ts.length : Int) + n)) _ (ExAt.up (HBW.out.trans (Hb.out.mono (by omega))) d _ HX.out.g_) HB.out.g_ (by omega) (by omega)).mono ?_
      rintro r w2 ⟨m, rfl, hm0, hm1, hb2⟩
      have Hb2 := Lib.hid (Hb.out.trans (hb2.mono Hb.out.size)); clear hb2
      clear x0 x1 x2 x3 x4 x5 x6 x7 x8 x9 x10 x11 x12 x13 x14 x15
      go_wp2_with fail
      go_ret
      exact ⟨1 + (x.ts.length : Int) + n + m, rfl, by omega, by omega, HBW.out.trans (Hb2.out.mono (by omega))⟩
end Go.Proofs.YtdgbenadoaecoaaDoor
