/- The contracts of the reference's Literal and of the writer's pos, not and cmp. Conditions: the literal lies in memory as it is told; what is held and what is written together take at most 2^47 bytes. -/
import Derived.Test.YtdgbenadoaecoaaDoorC3
import Derived.Test.YtdgbenadoaecoaaDoorME
namespace Go.Proofs.YtdgbenadoaecoaaDoor
open Go.RowKit

/-- The relations' table, as a world holds it. -/
structure RelsAt (w : World) : Prop where
  size : 9 ≤ w.heap.size
  rels : ∀ i, i < 7 → w.cell? ⟨4, i, none⟩ = some (.string (relL.getD i ⟨#[]⟩))
theorem RelsAt.at {w w' : World} (h : RelsAt w) (hb : Below w.heap.size w w') : RelsAt w' :=
  ⟨Nat.le_trans h.size hb.size, fun i hi => (hb.cell (p := ⟨4, i, none⟩) (by have := h.size; show 4 < _; omega)).trans (h.rels i hi)⟩
set_option maxHeartbeats 2000000 in
theorem pPos (w0 : World) (d : Nat) (x : Lt d) (b : Nat) (pre : List UInt8) (w : World) (hE : Env w0 b w) (hT : Tabs w0) (hx : LtAt w0 x) (hr : LtR x) (h24 : x.ts.length ≤ 24) (hw : Wr 68 b pre w)
    (hlen : pre.length + (atomL x.p x.ts).length ≤ 140737488355328) :
    Calls Tryd.prog 60 #[.pointer (some ⟨b, 0, none⟩), .agg #[.int .i8 x.k, .string x.p, x.sv, .int .i8 x.r, .int .i8 (exOp d x.l), .string (exTm d x.l).v, .int .i8 (exTm d x.l).x.k, .int .i64 (exTm d x.l).x.n, .string (exTm d x.l).x.t, exSl d x.l, .int .i8 (exOp d x.g), .string (exTm d x.g).v, .int .i8 (exTm d x.g).x.k, .int .i64 (exTm d x.g).x.n, .string (exTm d x.g).x.t, exSl d x.g]] w (Wrote b pre (atomL x.p x.ts) w) := by
  have HX := Lib.hid hx
  have HR := Lib.hid hr; clear hr
  have HE := Lib.hid hE; clear hE
  have HT := Lib.hid hT; clear hT
  have HW := Lib.hid hw
  have hlt := hw.lt; clear hw
  have HA := Lib.hid hx.at_
  obtain ⟨q, cap, hsv, _, _⟩ := hx.at_
  obtain ⟨pl, cl, hsl⟩ := ex_sl2 hx.l_
  obtain ⟨pg, cg, hsg⟩ := ex_sl2 hx.g_
  rw [hsl, hsg]
  rw [hsv] at HA ⊢
  clear hx hsv hsl hsg
  have HLN := Lib.hid hlen; clear hlen
  go_enter Tryd.func60, Tryd.ntmps60
  go_wp2_with fail
  refine (pAtom w0 b pre x.p _ x.ts _ (HE.out.kp (Kp.alloc HW.out _)) HT.out HA.out HR.out.ts_ h24 (HW.out.alloc _) HLN.out).mono ?_
  rintro e w1 ⟨rfl, hw1, hk1⟩
  have H1 := Lib.hid hw1; clear hw1
  have HK1 := Lib.hid hk1; clear hk1
  go_wp2_with fail
  go_end0
  exact ⟨rfl, H1.out, (Kp.alloc HW.out _).trans HK1.out⟩
set_option maxHeartbeats 2000000 in
theorem pNot (w0 : World) (d : Nat) (x : Lt d) (b : Nat) (pre : List UInt8) (w : World) (hE : Env w0 b w) (hT : Tabs w0) (hx : LtAt w0 x) (hr : LtR x) (h24 : x.ts.length ≤ 24) (hw : Wr 68 b pre w)
    (hlen : pre.length + ([110, 111, 116, 32] ++ atomL x.p x.ts).length ≤ 140737488355328) :
    Calls Tryd.prog 61 #[.pointer (some ⟨b, 0, none⟩), .agg #[.int .i8 x.k, .string x.p, x.sv, .int .i8 x.r, .int .i8 (exOp d x.l), .string (exTm d x.l).v, .int .i8 (exTm d x.l).x.k, .int .i64 (exTm d x.l).x.n, .string (exTm d x.l).x.t, exSl d x.l, .int .i8 (exOp d x.g), .string (exTm d x.g).v, .int .i8 (exTm d x.g).x.k, .int .i64 (exTm d x.g).x.n, .string (exTm d x.g).x.t, exSl d x.g]] w (Wrote b pre ([110, 111, 116, 32] ++ atomL x.p x.ts) w) := by
  have HX := Lib.hid hx
  have HR := Lib.hid hr; clear hr
  have HE := Lib.hid hE; clear hE
  have HT := Lib.hid hT; clear hT
  have HW := Lib.hid hw
  have hlt := hw.lt; clear hw
  have HA := Lib.hid hx.at_
  obtain ⟨q, cap, hsv, _, _⟩ := hx.at_
  obtain ⟨pl, cl, hsl⟩ := ex_sl2 hx.l_
  obtain ⟨pg, cg, hsg⟩ := ex_sl2 hx.g_
  rw [hsl, hsg]
  rw [hsv] at HA ⊢
  clear hx hsv hsl hsg
  have HLN := Lib.hid hlen; clear hlen
  have hbw : w.heap.size ≠ b := by omega
  go_enter Tryd.func61, Tryd.ntmps61
  go_wp2_with fail
  refine (pPut b (w.heap.size + 1) pre [⟨#[110, 111, 116, 32]⟩] 1 _ ((HW.out.alloc _).alloc _) (by rw [catL_one]; have := HLN.out; simp [bl] at this ⊢; omega) (by simp) (by simpa using heap_alloc_new (w.alloc _) _) (by omega)).mono ?_
  rintro e w1 ⟨rfl, hw1, hk1⟩
  have hbx := hk1.cell (k := w.heap.size) (c := #[.int .i8 x.k, .string x.p, .slice q x.ts.length cap, .int .i8 x.r, .int .i8 (exOp d x.l), .string (exTm d x.l).v, .int .i8 (exTm d x.l).x.k, .int .i64 (exTm d x.l).x.n, .string (exTm d x.l).x.t, .slice pl (exLen d x.l) cl, .int .i8 (exOp d x.g), .string (exTm d x.g).v, .int .i8 (exTm d x.g).x.k, .int .i64 (exTm d x.g).x.n, .string (exTm d x.g).x.t, .slice pg (exLen d x.g) cg]) (t := 94) (fz := (0, 0)) (by rw [Lib.alloc_old _ _ _ (by simp)]; exact heap_alloc_new w _) hbw (by decide)
  obtain ⟨x0, x1, x2, x3, x4, x5, x6, x7, x8, x9, x10, x11, x12, x13, x14, x15⟩ := sixteen hbx
  clear hbx
  have H1 := Lib.hid (wr_eq (m := pre ++ [110, 111, 116, 32]) (by rw [catL_one]) hw1); clear hw1
  have HK1 := Lib.hid (((Kp.alloc HW.out _).trans (Kp.alloc (HW.out.alloc _) _)).trans hk1); clear hk1
  go_wp2_with fail
  refine (pAtom w0 b _ x.p _ x.ts _ (HE.out.kp HK1.out) HT.out HA.out HR.out.ts_ h24 H1.out (by have := HLN.out; simp at this ⊢; omega)).mono ?_
  rintro e w2 ⟨rfl, hw2, hk2⟩
  have H2 := Lib.hid hw2; clear hw2
  have HK2 := Lib.hid hk2; clear hk2
  clear x0 x1 x2 x3 x4 x5 x6 x7 x8 x9 x10 x11 x12 x13 x14 x15
  go_wp2_with fail
  go_end0
  exact ⟨rfl, wr_eq (by simp) H2.out, HK1.out.trans HK2.out⟩
set_option maxHeartbeats 4000000 in
theorem pCmp (w0 : World) (d : Nat) (x : Lt d) (b : Nat) (pre : List UInt8) (w : World) (hE : Env w0 b w) (hT : Tabs w0) (hRl : RelsAt w0) (hx : LtAt w0 x) (hr : LtR x) (h1 : 1 ≤ x.r) (h6 : x.r ≤ 6) (hol : exOk 8 d x.l = true) (hog : exOk 8 d x.g = true) (hw : Wr 68 b pre w)
    (hlen : pre.length + (exprL d x.l ++ (32 :: (bl (relL.getD x.r.toNat ⟨#[]⟩) ++ [32])) ++ exprL d x.g).length ≤ 140737488355328) :
    Calls Tryd.prog 62 #[.pointer (some ⟨b, 0, none⟩), .agg #[.int .i8 x.k, .string x.p, x.sv, .int .i8 x.r, .int .i8 (exOp d x.l), .string (exTm d x.l).v, .int .i8 (exTm d x.l).x.k, .int .i64 (exTm d x.l).x.n, .string (exTm d x.l).x.t, exSl d x.l, .int .i8 (exOp d x.g), .string (exTm d x.g).v, .int .i8 (exTm d x.g).x.k, .int .i64 (exTm d x.g).x.n, .string (exTm d x.g).x.t, exSl d x.g]] w (Wrote b pre (exprL d x.l ++ (32 :: (bl (relL.getD x.r.toNat ⟨#[]⟩) ++ [32])) ++ exprL d x.g) w) := by
  have HX := Lib.hid hx
  have HR := Lib.hid hr; clear hr
  have HE := Lib.hid hE; clear hE
  have HT := Lib.hid hT; clear hT
  have HRL := Lib.hid hRl; clear hRl
  have HOL := Lib.hid hol; clear hol
  have HOG := Lib.hid hog; clear hog
  have HW := Lib.hid hw
  have hlt := hw.lt; clear hw
  obtain ⟨q, cap, hsv, _, _⟩ := hx.at_
  obtain ⟨pl, cl, hsl⟩ := ex_sl2 hx.l_
  obtain ⟨pg, cg, hsg⟩ := ex_sl2 hx.g_
  rw [hsl, hsg, hsv]
  have HSL := Lib.hid hsl
  have HSG := Lib.hid hsg
  clear hx hsv hsl hsg
  have HLN := Lib.hid hlen; clear hlen
  have hbw : w.heap.size ≠ b := by omega
  obtain ⟨rs, hrs⟩ : ∃ rs, rs = relL.getD x.r.toNat ⟨#[]⟩ := ⟨_, rfl⟩
  have HRS := Lib.hid hrs
  rw [← hrs] at HLN ⊢
  clear hrs
  have r0 : 0 ≤ x.r := by omega
  have r7 : x.r < 7 := by omega
  have r7n : x.r.toNat < 7 := by omega
  go_enter Tryd.func62, Tryd.ntmps62
  go_wp2_with fail
  rw [← HSL.out]
  refine (writes_all d w0 x.l 8 b pre _ HOL.out (HE.out.kp (Kp.alloc HW.out _)) HT.out HX.out.l_ HR.out.l_ (HW.out.alloc _) (by have := HLN.out; simp at this; omega)).mono ?_
  rintro e w1 ⟨rfl, hw1, hk1⟩
  have hbx := hk1.cell (k := w.heap.size) (c := #[.int .i8 x.k, .string x.p, .slice q x.ts.length cap, .int .i8 x.r, .int .i8 (exOp d x.l), .string (exTm d x.l).v, .int .i8 (exTm d x.l).x.k, .int .i64 (exTm d x.l).x.n, .string (exTm d x.l).x.t, exSl d x.l, .int .i8 (exOp d x.g), .string (exTm d x.g).v, .int .i8 (exTm d x.g).x.k, .int .i64 (exTm d x.g).x.n, .string (exTm d x.g).x.t, .slice pg (exLen d x.g) cg]) (t := 94) (fz := (0, 0)) (heap_alloc_new w _) hbw (by decide)
  rw [HSL.out] at hbx
  obtain ⟨x0, x1, x2, x3, x4, x5, x6, x7, x8, x9, x10, x11, x12, x13, x14, x15⟩ := sixteen hbx
  have HBX1 := Lib.hid hbx; clear hbx
  have H1 := Lib.hid hw1
  have hlt1 := hw1.lt; clear hw1
  have HK1 := Lib.hid ((Kp.alloc HW.out _).trans hk1); clear hk1
  have hrel : w1.cell? ⟨4, x.r.toNat, none⟩ = some (.string rs) := by rw [HRS.out]; exact (HRL.out.at (HE.out.kp HK1.out).bel).rels _ r7n
  have hrsz : 4 < w1.heap.size := by have := (HRL.out.at (HE.out.kp HK1.out).bel).size; omega
  go_wp2_with fail
  refine (pPut b w1.heap.size _ [⟨#[32]⟩, rs, ⟨#[32]⟩] 3 _ (H1.out.alloc _) (by have := HLN.out; simp [catL, bl] at this ⊢; omega) (by simp) (heap_alloc_new w1 _) (by omega)).mono ?_
  rintro e w2 ⟨rfl, hw2, hk2⟩
  clear x0 x1 x2 x3 x4 x5 x6 x7 x8 x9 x10 x11 x12 x13 x14 x15
  have hbx2 := ((Kp.alloc H1.out _).trans hk2).cell HBX1.out hbw (by decide)
  obtain ⟨x0, x1, x2, x3, x4, x5, x6, x7, x8, x9, x10, x11, x12, x13, x14, x15⟩ := sixteen hbx2
  clear hbx2 hrel
  have H2 := Lib.hid (wr_eq (m := pre ++ exprL d x.l ++ (32 :: (bl rs ++ [32]))) (by simp [catL, bl]) hw2); clear hw2
  have HK2 := Lib.hid ((HK1.out.trans (Kp.alloc H1.out _)).trans hk2); clear hk2
  go_wp2_with fail
  rw [← HSG.out]
  refine (writes_all d w0 x.g 8 b _ _ HOG.out (HE.out.kp HK2.out) HT.out HX.out.g_ HR.out.g_ H2.out (by have := HLN.out; simp at this ⊢; omega)).mono ?_
  rintro e w3 ⟨rfl, hw3, hk3⟩
  clear x0 x1 x2 x3 x4 x5 x6 x7 x8 x9 x10 x11 x12 x13 x14 x15
  have H3 := Lib.hid hw3; clear hw3
  have HK3 := Lib.hid hk3; clear hk3
  go_wp2_with fail
  go_end0
  exact ⟨rfl, wr_eq (by simp) H3.out, HK2.out.trans HK3.out⟩
end Go.Proofs.YtdgbenadoaecoaaDoor
