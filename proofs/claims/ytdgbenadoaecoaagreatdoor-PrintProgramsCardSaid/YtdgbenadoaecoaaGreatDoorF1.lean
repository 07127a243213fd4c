/- The contracts of TwinLiteral. Conditions: the literal lies in memory as it is told, its lists are not too long. -/
import Derived.Test.YtdgbenadoaecoaaGreatDoorB3
import Derived.Test.YtdgbenadoaecoaaGreatDoorE1
import Derived.Test.YtdgbenadoaecoaaGreatDoorU0
namespace Go.Proofs.YtdgbenadoaecoaaGreatDoor
open Go.RowKit

/-- Two literals alike but for where their lists lie. -/
structure LtLike {d : Nat} (x y : Lt d) : Prop where
  k_ : x.k = y.k
  p_ : x.p = y.p
  ts_ : x.ts = y.ts
  r_ : x.r = y.r
  l_ : Alike d x.l y.l
  g_ : Alike d x.g y.g
/-- A copy of a literal, with a mark behind each list; its blocks begin at B. -/
structure LtTw (w : World) (B : Nat) {d : Nat} (y : Lt d) : Prop where
  at_ : ∃ a, y.sv = .slice (some ⟨a, 0, none⟩) y.ts.length (y.ts.length + 1) ∧ B ≤ a ∧ TwTm w a y.ts
  l_ : TwAt w B d y.l
  g_ : TwAt w B d y.g
theorem LtTw.up {w w' : World} {B B' : Nat} (hB : B' ≤ B) (hs : w.heap.size ≤ w'.heap.size) (hb : ∀ k, B ≤ k → k < w.heap.size → w'.heap[k]? = w.heap[k]?) {d : Nat} {y : Lt d} (h : LtTw w B y) : LtTw w' B' y :=
  ⟨by obtain ⟨a, h1, h2, h3⟩ := h.at_; exact ⟨a, h1, by omega, h3.of_block (Nat.lt_of_lt_of_le h3.lt hs) (hb a h2 h3.lt)⟩, h.l_.up hB hs hb, h.g_.up hB hs hb⟩
theorem LtTw.low {w w' : World} {B : Nat} {d : Nat} {y : Lt d} (h : LtTw w B y) (hb : Below w.heap.size w w') : LtTw w' B y := h.up (Nat.le_refl _) hb.size (fun k _ hk => hb.block k hk)
theorem LtLike.b {d : Nat} {x y : Lt d} (h : LtLike x y) (hb : LtB x) : LtB y := ⟨by rw [← h.ts_]; exact hb.ts_, h.l_.b hb.l_, h.g_.b hb.g_⟩
theorem LtTw.at {w : World} {B d : Nat} {y : Lt d} (h : LtTw w B y) (hb : LtB y) : LtAt w y :=
  ⟨by obtain ⟨a, h1, _, h3⟩ := h.at_; rw [h1]; exact h3.sl hb.ts_, h.l_.at hb.l_, h.g_.at hb.g_⟩
/-- What a call leaves that copies a literal. -/
def TlPost {d : Nat} (x : Lt d) (w : World) (r : Ending) (w' : World) : Prop :=
  ∃ y : Lt d, r = .returned (.agg #[.int .i8 y.k, .string y.p, y.sv, .int .i8 y.r, .int .i8 (exOp d y.l), .string (exTm d y.l).v, .int .i8 (exTm d y.l).x.k, .int .i64 (exTm d y.l).x.n, .string (exTm d y.l).x.t, exSl d y.l, .int .i8 (exOp d y.g), .string (exTm d y.g).v, .int .i8 (exTm d y.g).x.k, .int .i64 (exTm d y.g).x.n, .string (exTm d y.g).x.t, exSl d y.g]) ∧ LtLike x y ∧ LtTw w' w.heap.size y ∧ Below w.heap.size w w'
set_option maxHeartbeats 8000000 in
set_option maxRecDepth 100000 in
theorem twinLit (d : Nat) (x : Lt d) (w : World) (hx : LtAt w x) (hr : LtR x) (hb : LtB x) (hT : Tabs w) :
    Calls Tryz.prog 34 #[.agg #[.int .i8 x.k, .string x.p, x.sv, .int .i8 x.r, .int .i8 (exOp d x.l), .string (exTm d x.l).v, .int .i8 (exTm d x.l).x.k, .int .i64 (exTm d x.l).x.n, .string (exTm d x.l).x.t, exSl d x.l, .int .i8 (exOp d x.g), .string (exTm d x.g).v, .int .i8 (exTm d x.g).x.k, .int .i64 (exTm d x.g).x.n, .string (exTm d x.g).x.t, exSl d x.g]] w (TlPost x w) := by
  have HX := Lib.hid hx
  have HT := Lib.hid hT; clear hT
  obtain ⟨q, cap, hsv, _, _⟩ := hx.at_
  obtain ⟨pl, cl, hsl⟩ := ex_sl2 hx.l_
  obtain ⟨pg, cg, hsg⟩ := ex_sl2 hx.g_
  have hca := fun w' h1 h2 => twinAtom x.p x.ts x.sv w' h1 hb.ts_ h2
  have hcl := fun w' h1 h2 => twin_all d x.l w' h1 hr.l_ hb.l_ h2
  have hcg := fun w' h1 h2 => twin_all d x.g w' h1 hr.g_ hb.g_ h2
  have hAT := hx.at_
  rw [hsv] at hca hAT
  rw [hsl] at hcl
  rw [hsg] at hcg
  rw [hsv, hsl, hsg]
  have HCA := Lib.hid hca
  have HCL := Lib.hid hcl
  have HCG := Lib.hid hcg
  have HAT := Lib.hid hAT
  have HLB := Lib.hid hb
  clear hca hcl hcg hAT hx hr hb hsv hsl hsg
  obtain ⟨W, hW⟩ : ∃ W, W = (w.alloc (.cells #[.int .i8 x.k, .string x.p, .slice q x.ts.length cap, .int .i8 x.r, .int .i8 (exOp d x.l), .string (exTm d x.l).v, .int .i8 (exTm d x.l).x.k, .int .i64 (exTm d x.l).x.n, .string (exTm d x.l).x.t, .slice pl (exLen d x.l) cl, .int .i8 (exOp d x.g), .string (exTm d x.g).v, .int .i8 (exTm d x.g).x.k, .int .i64 (exTm d x.g).x.n, .string (exTm d x.g).x.t, .slice pg (exLen d x.g) cg] 80)).alloc (.cells #[.int .i8 0, .string ⟨#[]⟩, .slice none 0 0, .int .i8 0, .int .i8 0, .string ⟨#[]⟩, .int .i8 0, .int .i64 0, .string ⟨#[]⟩, .slice none 0 0, .int .i8 0, .string ⟨#[]⟩, .int .i8 0, .int .i64 0, .string ⟨#[]⟩, .slice none 0 0] 80) := ⟨_, rfl⟩
  have HBW := Lib.hid (show Below w.heap.size w W by rw [hW]; exact (below_alloc _ _).trans ((below_alloc _ _).mono (by simp)))
  have hsW : W.heap.size = w.heap.size + 1 + 1 := by rw [hW]; simp
  have HBX := Lib.hid (show W.heap[w.heap.size]? = some (.cells #[.int .i8 x.k, .string x.p, .slice q x.ts.length cap, .int .i8 x.r, .int .i8 (exOp d x.l), .string (exTm d x.l).v, .int .i8 (exTm d x.l).x.k, .int .i64 (exTm d x.l).x.n, .string (exTm d x.l).x.t, .slice pl (exLen d x.l) cl, .int .i8 (exOp d x.g), .string (exTm d x.g).v, .int .i8 (exTm d x.g).x.k, .int .i64 (exTm d x.g).x.n, .string (exTm d x.g).x.t, .slice pg (exLen d x.g) cg] 80 (0, 0)) by rw [hW, Lib.alloc_old _ _ _ (by simp)]; exact heap_alloc_new w _)
  have HBY := Lib.hid (show W.heap[w.heap.size + 1]? = some (.cells #[.int .i8 0, .string ⟨#[]⟩, .slice none 0 0, .int .i8 0, .int .i8 0, .string ⟨#[]⟩, .int .i8 0, .int .i64 0, .string ⟨#[]⟩, .slice none 0 0, .int .i8 0, .string ⟨#[]⟩, .int .i8 0, .int .i64 0, .string ⟨#[]⟩, .slice none 0 0] 80 (0, 0)) by rw [hW]; simpa using heap_alloc_new (w.alloc _) _)
  obtain ⟨x0, x1, x2, x3, x4, x5, x6, x7, x8, x9, x10, x11, x12, x13, x14, x15⟩ := sixteen HBX.out
  go_enter Tryz.func34, Tryz.ntmps34
  go_wp2_with fail
  rw [← hW]
  clear hW
  clear x0 x1 x2 x3 x4 x5 x6 x7 x8 x9 x10 x11 x12 x13 x14 x15
  refine (HCA.out _ (HAT.out.up HBW.out) (HT.out.at HBW.out)).mono ?_
  rintro r w1 ⟨a, rfl, ha1, htw, hb⟩
  have ha2 := htw.lt
  have HTW := Lib.hid htw; clear htw
  have hx := (hb.block w.heap.size (by omega)).trans HBX.out
  have hy := (hb.block (w.heap.size + 1) (by omega)).trans HBY.out
  have HB1 := Lib.hid (HBW.out.trans (hb.mono (by omega)))
  have hsz1 : W.heap.size ≤ w1.heap.size := hb.size
  clear hb
  obtain ⟨x0, x1, x2, x3, x4, x5, x6, x7, x8, x9, x10, x11, x12, x13, x14, x15⟩ := sixteen hx
  have fx1 : w1.frozen? ⟨w.heap.size, 1, none⟩ = false := Lib.frozen_of_heap hx _
  have fx2 : w1.frozen? ⟨w.heap.size, 2, none⟩ = false := Lib.frozen_of_heap hx _
  have HX1 := Lib.hid hx; clear hx
  have HY1 := Lib.hid hy; clear hy
  go_wp2_with fail
  clear x0 x1 x2 x3 x4 x5 x6 x7 x8 x9 x10 x11 x12 x13 x14 x15 fx1 fx2
  obtain ⟨W1, hW1⟩ : ∃ W1, W1 = (w1.setCell ⟨w.heap.size, 1, none⟩ (.string x.p)).setCell ⟨w.heap.size, 2, none⟩ (.slice (some ⟨a, 0, none⟩) x.ts.length (x.ts.length + 1)) := ⟨_, rfl⟩
  have HBX1 := Lib.hid (show W1.heap[w.heap.size]? = some (.cells #[.int .i8 x.k, .string x.p, .slice (some ⟨a, 0, none⟩) x.ts.length (x.ts.length + 1), .int .i8 x.r, .int .i8 (exOp d x.l), .string (exTm d x.l).v, .int .i8 (exTm d x.l).x.k, .int .i64 (exTm d x.l).x.n, .string (exTm d x.l).x.t, .slice pl (exLen d x.l) cl, .int .i8 (exOp d x.g), .string (exTm d x.g).v, .int .i8 (exTm d x.g).x.k, .int .i64 (exTm d x.g).x.n, .string (exTm d x.g).x.t, .slice pg (exLen d x.g) cg] 80 (0, 0)) by rw [hW1]; simp [World.setCell, Array.getElem?_modify, HX1.out])
  have HBL1 := Lib.hid (show ∀ k, k ≠ w.heap.size → W1.heap[k]? = w1.heap[k]? from fun k hk => by rw [hW1, Below.heap_setCell _ _ _ _ hk, Below.heap_setCell _ _ _ _ hk])
  have HBP1 := Lib.hid (show Below w.heap.size w W1 by rw [hW1]; exact (HB1.out.setCell (p := ⟨w.heap.size, 1, none⟩) (Nat.le_refl _) _).setCell (p := ⟨w.heap.size, 2, none⟩) (Nat.le_refl _) _)
  have hszW1 : W1.heap.size = w1.heap.size := by rw [hW1]; simp [World.setCell]
  rw [← hW1]
  clear hW1
  refine (HCL.out _ (ExAt.up HBP1.out d _ HX.out.l_) (HT.out.at HBP1.out)).mono ?_
  rintro r w2 ⟨f, rfl, hal, htf, hb⟩
  obtain ⟨pf, cf, hsf⟩ := ex_sl2 (htf.at (hal.b HLB.out.l_))
  have HALF := Lib.hid hal; clear hal
  have HTF := Lib.hid htf; clear htf
  have hx := (hb.block w.heap.size (by omega)).trans HBX1.out
  have HB2 := Lib.hid (HBP1.out.trans (hb.mono (by omega)))
  have HKB2 := Lib.hid hb
  have hsz2 : W1.heap.size ≤ w2.heap.size := hb.size
  clear hb
  obtain ⟨x0, x1, x2, x3, x4, x5, x6, x7, x8, x9, x10, x11, x12, x13, x14, x15⟩ := sixteen hx
  have fx4 : w2.frozen? ⟨w.heap.size, 4, none⟩ = false := Lib.frozen_of_heap hx _
  have fx5 : w2.frozen? ⟨w.heap.size, 5, none⟩ = false := Lib.frozen_of_heap hx _
  have fx6 : w2.frozen? ⟨w.heap.size, 6, none⟩ = false := Lib.frozen_of_heap hx _
  have fx7 : w2.frozen? ⟨w.heap.size, 7, none⟩ = false := Lib.frozen_of_heap hx _
  have fx8 : w2.frozen? ⟨w.heap.size, 8, none⟩ = false := Lib.frozen_of_heap hx _
  have fx9 : w2.frozen? ⟨w.heap.size, 9, none⟩ = false := Lib.frozen_of_heap hx _
  have HSF := Lib.hid hsf
  rw [hsf]
  clear hsf
  have HX2 := Lib.hid hx; clear hx
  go_wp2_with fail
  clear x0 x1 x2 x3 x4 x5 x6 x7 x8 x9 x10 x11 x12 x13 x14 x15 fx4 fx5 fx6 fx7 fx8 fx9
  change Calls _ _ _ (put6 w2 w.heap.size 4 (.int .i8 (exOp d f)) (.string (exTm d f).v) (.int .i8 (exTm d f).x.k) (.int .i64 (exTm d f).x.n) (.string (exTm d f).x.t) (.slice pf (exLen d f) cf)) _
  obtain ⟨W2, hW2⟩ : ∃ W2, W2 = put6 w2 w.heap.size 4 (.int .i8 (exOp d f)) (.string (exTm d f).v) (.int .i8 (exTm d f).x.k) (.int .i64 (exTm d f).x.n) (.string (exTm d f).x.t) (.slice pf (exLen d f) cf) := ⟨_, rfl⟩
  have HBX2 := Lib.hid (show W2.heap[w.heap.size]? = some (.cells #[.int .i8 x.k, .string x.p, .slice (some ⟨a, 0, none⟩) x.ts.length (x.ts.length + 1), .int .i8 x.r, .int .i8 (exOp d f), .string (exTm d f).v, .int .i8 (exTm d f).x.k, .int .i64 (exTm d f).x.n, .string (exTm d f).x.t, .slice pf (exLen d f) cf, .int .i8 (exOp d x.g), .string (exTm d x.g).v, .int .i8 (exTm d x.g).x.k, .int .i64 (exTm d x.g).x.n, .string (exTm d x.g).x.t, .slice pg (exLen d x.g) cg] 80 (0, 0)) by rw [hW2]; exact put6_heap HX2.out 4 (.int .i8 (exOp d f)) (.string (exTm d f).v) (.int .i8 (exTm d f).x.k) (.int .i64 (exTm d f).x.n) (.string (exTm d f).x.t) (.slice pf (exLen d f) cf))
  have HBL2 := Lib.hid (show ∀ k, k ≠ w.heap.size → W2.heap[k]? = w2.heap[k]? from fun k hk => by rw [hW2, put6_block _ hk])
  have HBP2 := Lib.hid (show Below w.heap.size w W2 by rw [hW2]; exact put6_below HB2.out (Nat.le_refl _) _ _ _ _ _ _ _)
  have hszW2 : W2.heap.size = w2.heap.size := by rw [hW2, put6_size]
  rw [← hW2]
  clear hW2
  refine (HCG.out _ (ExAt.up HBP2.out d _ HX.out.g_) (HT.out.at HBP2.out)).mono ?_
  rintro r w3 ⟨g, rfl, hal, htg, hb⟩
  obtain ⟨pg', cg', hsg⟩ := ex_sl2 (htg.at (hal.b HLB.out.g_))
  have HALG := Lib.hid hal; clear hal
  have HTG := Lib.hid htg; clear htg
  have hx := (hb.block w.heap.size (by omega)).trans HBX2.out
  have hy := (hb.block (w.heap.size + 1) (by omega)).trans ((HBL2.out _ (by omega)).trans ((HKB2.out.block (w.heap.size + 1) (by omega)).trans ((HBL1.out _ (by omega)).trans HY1.out)))
  have HB3 := Lib.hid (HBP2.out.trans (hb.mono (by omega)))
  have HKB3 := Lib.hid hb
  have hsz3 : W2.heap.size ≤ w3.heap.size := hb.size
  clear hb
  obtain ⟨x0, x1, x2, x3, x4, x5, x6, x7, x8, x9, x10, x11, x12, x13, x14, x15⟩ := sixteen hx
  obtain ⟨y0, y1, y2, y3, y4, y5, y6, y7, y8, y9, y10, y11, y12, y13, y14, y15⟩ := sixteen hy
  have fx10 : w3.frozen? ⟨w.heap.size, 10, none⟩ = false := Lib.frozen_of_heap hx _
  have fx11 : w3.frozen? ⟨w.heap.size, 11, none⟩ = false := Lib.frozen_of_heap hx _
  have fx12 : w3.frozen? ⟨w.heap.size, 12, none⟩ = false := Lib.frozen_of_heap hx _
  have fx13 : w3.frozen? ⟨w.heap.size, 13, none⟩ = false := Lib.frozen_of_heap hx _
  have fx14 : w3.frozen? ⟨w.heap.size, 14, none⟩ = false := Lib.frozen_of_heap hx _
  have fx15 : w3.frozen? ⟨w.heap.size, 15, none⟩ = false := Lib.frozen_of_heap hx _
  have fy0 : w3.frozen? ⟨w.heap.size + 1, 0, none⟩ = false := Lib.frozen_of_heap hy _
  have fy1 : w3.frozen? ⟨w.heap.size + 1, 1, none⟩ = false := Lib.frozen_of_heap hy _
  have fy2 : w3.frozen? ⟨w.heap.size + 1, 2, none⟩ = false := Lib.frozen_of_heap hy _
  have fy3 : w3.frozen? ⟨w.heap.size + 1, 3, none⟩ = false := Lib.frozen_of_heap hy _
  have fy4 : w3.frozen? ⟨w.heap.size + 1, 4, none⟩ = false := Lib.frozen_of_heap hy _
  have fy5 : w3.frozen? ⟨w.heap.size + 1, 5, none⟩ = false := Lib.frozen_of_heap hy _
  have fy6 : w3.frozen? ⟨w.heap.size + 1, 6, none⟩ = false := Lib.frozen_of_heap hy _
  have fy7 : w3.frozen? ⟨w.heap.size + 1, 7, none⟩ = false := Lib.frozen_of_heap hy _
  have fy8 : w3.frozen? ⟨w.heap.size + 1, 8, none⟩ = false := Lib.frozen_of_heap hy _
  have fy9 : w3.frozen? ⟨w.heap.size + 1, 9, none⟩ = false := Lib.frozen_of_heap hy _
  have fy10 : w3.frozen? ⟨w.heap.size + 1, 10, none⟩ = false := Lib.frozen_of_heap hy _
  have fy11 : w3.frozen? ⟨w.heap.size + 1, 11, none⟩ = false := Lib.frozen_of_heap hy _
  have fy12 : w3.frozen? ⟨w.heap.size + 1, 12, none⟩ = false := Lib.frozen_of_heap hy _
  have fy13 : w3.frozen? ⟨w.heap.size + 1, 13, none⟩ = false := Lib.frozen_of_heap hy _
  have fy14 : w3.frozen? ⟨w.heap.size + 1, 14, none⟩ = false := Lib.frozen_of_heap hy _
  have fy15 : w3.frozen? ⟨w.heap.size + 1, 15, none⟩ = false := Lib.frozen_of_heap hy _
  have HSG := Lib.hid hsg
  rw [hsg]
  clear hsg
  have HX3 := Lib.hid hx; clear hx
  have HY3 := Lib.hid hy; clear hy
  clear HX1 HX2 HY1 HBX HBY HBX1 HBX2
  go_wp2_with fail
  clear x0 x1 x2 x3 x4 x5 x6 x7 x8 x9 x10 x11 x12 x13 x14 x15 fx10 fx11 fx12 fx13 fx14 fx15 fy0 fy1 fy2 fy3 fy4 fy5 fy6 fy7 fy8 fy9 fy10 fy11 fy12 fy13 fy14 fy15 y0 y1 y2 y3 y4 y5 y6 y7 y8 y9 y10 y11 y12 y13 y14 y15
  obtain ⟨W3, W4, hW3, hW4, e⟩ : ∃ W3 W4 : World, W3 = putL w3 w.heap.size 10 [.int .i8 (exOp d g), .string (exTm d g).v, .int .i8 (exTm d g).x.k, .int .i64 (exTm d g).x.n, .string (exTm d g).x.t, .slice pg' (exLen d g) cg'] ∧ W4 = putL W3 (w.heap.size + 1) 0 [.int .i8 x.k, .string x.p, .slice (some ⟨a, 0, none⟩) x.ts.length (x.ts.length + 1), .int .i8 x.r, .int .i8 (exOp d f), .string (exTm d f).v, .int .i8 (exTm d f).x.k, .int .i64 (exTm d f).x.n, .string (exTm d f).x.t, .slice pf (exLen d f) cf, .int .i8 (exOp d g), .string (exTm d g).v, .int .i8 (exTm d g).x.k, .int .i64 (exTm d g).x.n, .string (exTm d g).x.t, .slice pg' (exLen d g) cg'] ∧ ((((((((((((((((((((((w3.setCell ⟨w.heap.size, 10, none⟩ (.int .i8 (exOp d g))).setCell ⟨w.heap.size, 11, none⟩ (.string (exTm d g).v)).setCell ⟨w.heap.size, 12, none⟩ (.int .i8 (exTm d g).x.k)).setCell ⟨w.heap.size, 13, none⟩ (.int .i64 (exTm d g).x.n)).setCell ⟨w.heap.size, 14, none⟩ (.string (exTm d g).x.t)).setCell ⟨w.heap.size, 15, none⟩ (.slice pg' (exLen d g) cg')).setCell ⟨w.heap.size + 1, 0, none⟩ (.int .i8 x.k)).setCell ⟨w.heap.size + 1, 1, none⟩ (.string x.p)).setCell ⟨w.heap.size + 1, 2, none⟩ (.slice (some ⟨a, 0, none⟩) x.ts.length (x.ts.length + 1))).setCell ⟨w.heap.size + 1, 3, none⟩ (.int .i8 x.r)).setCell ⟨w.heap.size + 1, 4, none⟩ (.int .i8 (exOp d f))).setCell ⟨w.heap.size + 1, 5, none⟩ (.string (exTm d f).v)).setCell ⟨w.heap.size + 1, 6, none⟩ (.int .i8 (exTm d f).x.k)).setCell ⟨w.heap.size + 1, 7, none⟩ (.int .i64 (exTm d f).x.n)).setCell ⟨w.heap.size + 1, 8, none⟩ (.string (exTm d f).x.t)).setCell ⟨w.heap.size + 1, 9, none⟩ (.slice pf (exLen d f) cf)).setCell ⟨w.heap.size + 1, 10, none⟩ (.int .i8 (exOp d g))).setCell ⟨w.heap.size + 1, 11, none⟩ (.string (exTm d g).v)).setCell ⟨w.heap.size + 1, 12, none⟩ (.int .i8 (exTm d g).x.k)).setCell ⟨w.heap.size + 1, 13, none⟩ (.int .i64 (exTm d g).x.n)).setCell ⟨w.heap.size + 1, 14, none⟩ (.string (exTm d g).x.t)).setCell ⟨w.heap.size + 1, 15, none⟩ (.slice pg' (exLen d g) cg')) = W4 := ⟨_, _, rfl, rfl, by simp only [putL, Nat.zero_add, Nat.reduceAdd]⟩
  rw [e]
  clear e
  have hy3 : W3.heap[w.heap.size + 1]? = some (.cells #[.int .i8 0, .string ⟨#[]⟩, .slice none 0 0, .int .i8 0, .int .i8 0, .string ⟨#[]⟩, .int .i8 0, .int .i64 0, .string ⟨#[]⟩, .slice none 0 0, .int .i8 0, .string ⟨#[]⟩, .int .i8 0, .int .i64 0, .string ⟨#[]⟩, .slice none 0 0] 80 (0, 0)) := by rw [hW3, putL_block (by omega)]; exact HY3.out
  have HBL3 := Lib.hid (show ∀ k, k ≠ w.heap.size → W3.heap[k]? = w3.heap[k]? from fun k hk => by rw [hW3, putL_block hk])
  have HBP3 := Lib.hid (show Below w.heap.size w W3 by rw [hW3]; exact putL_below (Nat.le_refl _) _ _ _ HB3.out)
  have hszW3 : W3.heap.size = w3.heap.size := by rw [hW3, putL_size]
  clear hW3
  have hby := putL_heap [.int .i8 x.k, .string x.p, .slice (some ⟨a, 0, none⟩) x.ts.length (x.ts.length + 1), .int .i8 x.r, .int .i8 (exOp d f), .string (exTm d f).v, .int .i8 (exTm d f).x.k, .int .i64 (exTm d f).x.n, .string (exTm d f).x.t, .slice pf (exLen d f) cf, .int .i8 (exOp d g), .string (exTm d g).v, .int .i8 (exTm d g).x.k, .int .i64 (exTm d g).x.n, .string (exTm d g).x.t, .slice pg' (exLen d g) cg'] hy3 rfl
  have HBL4 := Lib.hid (show ∀ k, k ≠ w.heap.size + 1 → W4.heap[k]? = W3.heap[k]? from fun k hk => by rw [hW4, putL_block hk])
  have HBP4 := Lib.hid (show Below w.heap.size w W4 by rw [hW4]; exact putL_below (by omega) _ _ _ HBP3.out)
  have hszW4 : W4.heap.size = W3.heap.size := by rw [hW4, putL_size]
  rw [← hW4] at hby
  clear hy3 hW4
  obtain ⟨y0, y1, y2, y3, y4, y5, y6, y7, y8, y9, y10, y11, y12, y13, y14, y15⟩ := sixteen (show W4.heap[w.heap.size + 1]? = some (.cells #[.int .i8 x.k, .string x.p, .slice (some ⟨a, 0, none⟩) x.ts.length (x.ts.length + 1), .int .i8 x.r, .int .i8 (exOp d f), .string (exTm d f).v, .int .i8 (exTm d f).x.k, .int .i64 (exTm d f).x.n, .string (exTm d f).x.t, .slice pf (exLen d f) cf, .int .i8 (exOp d g), .string (exTm d g).v, .int .i8 (exTm d g).x.k, .int .i64 (exTm d g).x.n, .string (exTm d g).x.t, .slice pg' (exLen d g) cg'] 80 (0, 0)) from hby)
  clear hby
  refine bodyPost_ret (v := .agg #[.int .i8 x.k, .string x.p, .slice (some ⟨a, 0, none⟩) x.ts.length (x.ts.length + 1), .int .i8 x.r, .int .i8 (exOp d f), .string (exTm d f).v, .int .i8 (exTm d f).x.k, .int .i64 (exTm d f).x.n, .string (exTm d f).x.t, .slice pf (exLen d f) cf, .int .i8 (exOp d g), .string (exTm d g).v, .int .i8 (exTm d g).x.k, .int .i64 (exTm d g).x.n, .string (exTm d g).x.t, .slice pg' (exLen d g) cg']) (by simp [results, Tryz.results34, go_sem, y0, y1, y2, y3, y4, y5, y6, y7, y8, y9, y10, y11, y12, y13, y14, y15]) rfl ?_
  have k3 : ∀ k, k ≠ w.heap.size → k ≠ w.heap.size + 1 → k < W2.heap.size → W4.heap[k]? = W2.heap[k]? := fun k h1 h2 h3 => by rw [HBL4.out k h2, HBL3.out k h1, HKB3.out.block k h3]
  have k2 : ∀ k, k ≠ w.heap.size → k ≠ w.heap.size + 1 → k < W1.heap.size → W4.heap[k]? = W1.heap[k]? := fun k h1 h2 h3 => by rw [k3 k h1 h2 (by omega), HBL2.out k h1, HKB2.out.block k h3]
  refine ⟨⟨x.k, x.p, x.ts, .slice (some ⟨a, 0, none⟩) x.ts.length (x.ts.length + 1), x.r, f, g⟩, ?_, ⟨rfl, rfl, rfl, rfl, HALF.out, HALG.out⟩, ⟨⟨a, rfl, by omega, HTW.out.of_block (by omega) ?_⟩, HTF.out.up (by omega) (by omega) (fun k h1 h2 => ?_), HTG.out.up (by omega) (by omega) (fun k h1 h2 => ?_)⟩, HBP4.out⟩
  · show _ = Ending.returned (.agg #[.int .i8 x.k, .string x.p, .slice (some ⟨a, 0, none⟩) x.ts.length (x.ts.length + 1), .int .i8 x.r, .int .i8 (exOp d f), .string (exTm d f).v, .int .i8 (exTm d f).x.k, .int .i64 (exTm d f).x.n, .string (exTm d f).x.t, exSl d f, .int .i8 (exOp d g), .string (exTm d g).v, .int .i8 (exTm d g).x.k, .int .i64 (exTm d g).x.n, .string (exTm d g).x.t, exSl d g])
    rw [HSF.out, HSG.out]
  · rw [k2 a (by omega) (by omega) (by omega), HBL1.out a (by omega)]
  · rw [k3 k (by omega) (by omega) (by omega), HBL2.out k (by omega)]
  · rw [HBL4.out k (by omega), HBL3.out k (by omega)]
end Go.Proofs.YtdgbenadoaecoaaGreatDoor
