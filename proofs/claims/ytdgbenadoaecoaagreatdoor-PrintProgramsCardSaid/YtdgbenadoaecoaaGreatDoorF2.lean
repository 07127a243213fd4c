/- The contract of LeftLiteral at a copy that is still as it was made. Conditions: both lie in memory as they are told. -/
import Derived.Test.YtdgbenadoaecoaaGreatDoorF1
namespace Go.Proofs.YtdgbenadoaecoaaGreatDoor
open Go.RowKit

set_option maxHeartbeats 8000000 in
set_option maxRecDepth 100000 in
theorem leftLit (d : Nat) (x y : Lt d) (B : Nat) (w : World) (hx : LtAt w x) (hb : LtB x) (hl : LtLike x y) (ht : LtTw w B y) (hT : Tabs w) :
    Calls Tryz.prog 52 #[.agg #[.int .i8 y.k, .string y.p, y.sv, .int .i8 y.r, .int .i8 (exOp d y.l), .string (exTm d y.l).v, .int .i8 (exTm d y.l).x.k, .int .i64 (exTm d y.l).x.n, .string (exTm d y.l).x.t, exSl d y.l, .int .i8 (exOp d y.g), .string (exTm d y.g).v, .int .i8 (exTm d y.g).x.k, .int .i64 (exTm d y.g).x.n, .string (exTm d y.g).x.t, exSl d y.g], .agg #[.int .i8 x.k, .string x.p, x.sv, .int .i8 x.r, .int .i8 (exOp d x.l), .string (exTm d x.l).v, .int .i8 (exTm d x.l).x.k, .int .i64 (exTm d x.l).x.n, .string (exTm d x.l).x.t, exSl d x.l, .int .i8 (exOp d x.g), .string (exTm d x.g).v, .int .i8 (exTm d x.g).x.k, .int .i64 (exTm d x.g).x.n, .string (exTm d x.g).x.t, exSl d x.g]] w fun r w' => r = .returned (.bool true) ∧ Below w.heap.size w w' := by
  have HT := Lib.hid hT; clear hT
  have HX := Lib.hid hx
  obtain ⟨k, p, ts, sv, r, e, g⟩ := x
  obtain ⟨k', p', ts', sv', r', f, h⟩ := y
  have htf := ht.l_
  have hth := ht.g_
  obtain ⟨a, hsv', _, htw⟩ := ht.at_
  obtain ⟨e1, e2, e3, e4, hal, hag⟩ := hl
  have e1' : k = k' := e1
  have e2' : p = p' := e2
  have e3' : ts = ts' := e3
  have e4' : r = r' := e4
  clear e1 e2 e3 e4
  subst e1' e2' e3' e4'
  have hal' : Alike d e f := hal
  have hag' : Alike d g h := hag
  have hsv2 : sv' = .slice (some ⟨a, 0, none⟩) ts.length (ts.length + 1) := hsv'
  clear hal hag hsv'
  subst hsv2
  obtain ⟨q, cap, hsv, _, _⟩ := hx.at_
  obtain ⟨pl, cl, hsl⟩ := ex_sl2 hx.l_
  obtain ⟨pg, cg, hsg⟩ := ex_sl2 hx.g_
  obtain ⟨pf, cf, hsf⟩ := ex_sl2 (htf.at (hal'.b hb.l_))
  obtain ⟨ph, ch, hsh⟩ := ex_sl2 (hth.at (hag'.b hb.g_))
  have hca := fun w' h1 h2 h3 => leftAtom p ts a sv w' h1 hb.ts_ h2 h3
  have hcl := fun w' h1 h2 h3 => left_all d e f B w' h1 hb.l_ hal' h2 h3
  have hcg := fun w' h1 h2 h3 => left_all d g h B w' h1 hb.g_ hag' h2 h3
  have hAT := hx.at_
  have hLA := hx.l_
  have hGA := hx.g_
  simp only at hsv hsl hsg hsf hsh hAT hLA hGA htf hth htw ⊢
  rw [hsv] at hca hAT
  rw [hsl, hsf] at hcl
  rw [hsg, hsh] at hcg
  rw [hsv, hsl, hsg, hsf, hsh]
  rw [← hal'.op, ← hal'.tm] at hcl ⊢
  rw [← hag'.op, ← hag'.tm] at hcg ⊢
  have HCA := Lib.hid hca
  have HCL := Lib.hid hcl
  have HCG := Lib.hid hcg
  have HAT := Lib.hid hAT
  have HLA := Lib.hid hLA
  have HGA := Lib.hid hGA
  have HTF := Lib.hid htf
  have HTH := Lib.hid hth
  have HTW := Lib.hid htw
  clear hca hcl hcg hAT hLA hGA htf hth htw hx hb ht hal' hag' hsv hsl hsg hsf hsh HX
  obtain ⟨W, hW⟩ : ∃ W, W = (w.alloc (.cells #[.int .i8 k, .string p, .slice (some ⟨a, 0, none⟩) ts.length (ts.length + 1), .int .i8 r, .int .i8 (exOp d e), .string (exTm d e).v, .int .i8 (exTm d e).x.k, .int .i64 (exTm d e).x.n, .string (exTm d e).x.t, .slice pf (exLen d f) cf, .int .i8 (exOp d g), .string (exTm d g).v, .int .i8 (exTm d g).x.k, .int .i64 (exTm d g).x.n, .string (exTm d g).x.t, .slice ph (exLen d h) ch] 80)).alloc (.cells #[.int .i8 k, .string p, .slice q ts.length cap, .int .i8 r, .int .i8 (exOp d e), .string (exTm d e).v, .int .i8 (exTm d e).x.k, .int .i64 (exTm d e).x.n, .string (exTm d e).x.t, .slice pl (exLen d e) cl, .int .i8 (exOp d g), .string (exTm d g).v, .int .i8 (exTm d g).x.k, .int .i64 (exTm d g).x.n, .string (exTm d g).x.t, .slice pg (exLen d g) cg] 80) := ⟨_, rfl⟩
  have HBW := Lib.hid (show Below w.heap.size w W by rw [hW]; exact (below_alloc _ _).trans ((below_alloc _ _).mono (by simp)))
  have hsW : W.heap.size = w.heap.size + 1 + 1 := by rw [hW]; simp
  have HBT := Lib.hid (show W.heap[w.heap.size]? = some (.cells #[.int .i8 k, .string p, .slice (some ⟨a, 0, none⟩) ts.length (ts.length + 1), .int .i8 r, .int .i8 (exOp d e), .string (exTm d e).v, .int .i8 (exTm d e).x.k, .int .i64 (exTm d e).x.n, .string (exTm d e).x.t, .slice pf (exLen d f) cf, .int .i8 (exOp d g), .string (exTm d g).v, .int .i8 (exTm d g).x.k, .int .i64 (exTm d g).x.n, .string (exTm d g).x.t, .slice ph (exLen d h) ch] 80 (0, 0)) by rw [hW, Lib.alloc_old _ _ _ (by simp)]; exact heap_alloc_new w _)
  have HBX := Lib.hid (show W.heap[w.heap.size + 1]? = some (.cells #[.int .i8 k, .string p, .slice q ts.length cap, .int .i8 r, .int .i8 (exOp d e), .string (exTm d e).v, .int .i8 (exTm d e).x.k, .int .i64 (exTm d e).x.n, .string (exTm d e).x.t, .slice pl (exLen d e) cl, .int .i8 (exOp d g), .string (exTm d g).v, .int .i8 (exTm d g).x.k, .int .i64 (exTm d g).x.n, .string (exTm d g).x.t, .slice pg (exLen d g) cg] 80 (0, 0)) by rw [hW]; simpa using heap_alloc_new (w.alloc _) _)
  obtain ⟨t0, t1, t2, t3, t4, t5, t6, t7, t8, t9, t10, t11, t12, t13, t14, t15⟩ := sixteen HBT.out
  obtain ⟨x0, x1, x2, x3, x4, x5, x6, x7, x8, x9, x10, x11, x12, x13, x14, x15⟩ := sixteen HBX.out
  go_enter Tryz.func52, Tryz.ntmps52
  go_wp2_with fail
  rw [← hW]
  clear hW
  clear x0 x1 x2 x3 x4 x5 x6 x7 x8 x9 x10 x11 x12 x13 x14 x15 t0 t1 t2 t3 t4 t5 t6 t7 t8 t9 t10 t11 t12 t13 t14 t15
  refine (HCA.out _ (HAT.out.up HBW.out) (HTW.out.low HBW.out) (HT.out.at HBW.out)).mono ?_
  rintro r w1 ⟨rfl, hb⟩
  have hx1 := (hb.block (w.heap.size + 1) (by omega)).trans HBX.out
  have ht1 := (hb.block w.heap.size (by omega)).trans HBT.out
  have HB1 := Lib.hid (HBW.out.trans (hb.mono (by omega)))
  have hsz1 : W.heap.size ≤ w1.heap.size := hb.size
  clear hb
  obtain ⟨t0, t1, t2, t3, t4, t5, t6, t7, t8, t9, t10, t11, t12, t13, t14, t15⟩ := sixteen ht1
  obtain ⟨x0, x1, x2, x3, x4, x5, x6, x7, x8, x9, x10, x11, x12, x13, x14, x15⟩ := sixteen hx1
  have HX1 := Lib.hid hx1; clear hx1
  have HT1 := Lib.hid ht1; clear ht1
  go_wp2_with fail
  clear x0 x1 x2 x3 x4 x5 x6 x7 x8 x9 x10 x11 x12 x13 x14 x15 t0 t1 t2 t3 t4 t5 t6 t7 t8 t9 t10 t11 t12 t13 t14 t15
  refine (HCL.out _ (ExAt.up HB1.out d _ HLA.out) (HTF.out.low HB1.out) (HT.out.at HB1.out)).mono ?_
  rintro r w2 ⟨rfl, hb⟩
  have hx2 := (hb.block (w.heap.size + 1) (by omega)).trans HX1.out
  have ht2 := (hb.block w.heap.size (by omega)).trans HT1.out
  have HB2 := Lib.hid (HB1.out.trans (hb.mono (by omega)))
  clear hb
  obtain ⟨t0, t1, t2, t3, t4, t5, t6, t7, t8, t9, t10, t11, t12, t13, t14, t15⟩ := sixteen ht2
  obtain ⟨x0, x1, x2, x3, x4, x5, x6, x7, x8, x9, x10, x11, x12, x13, x14, x15⟩ := sixteen hx2
  clear hx2 ht2
  go_wp2_with fail
  clear x0 x1 x2 x3 x4 x5 x6 x7 x8 x9 x10 x11 x12 x13 x14 x15 t0 t1 t2 t3 t4 t5 t6 t7 t8 t9 t10 t11 t12 t13 t14 t15
  refine (HCG.out _ (ExAt.up HB2.out d _ HGA.out) (HTH.out.low HB2.out) (HT.out.at HB2.out)).mono ?_
  rintro r w3 ⟨rfl, hb⟩
  have HB3 := Lib.hid (HB2.out.trans (hb.mono HB2.out.size)); clear hb
  go_wp2_with fail
  go_ret
  exact ⟨rfl, HB3.out⟩
end Go.Proofs.YtdgbenadoaecoaaGreatDoor
