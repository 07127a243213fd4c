/- The contract of the reference's expr at two sides. Conditions: the expression lies in memory as it is told. -/
import Derived.Test.YtlghiakckkhekaaDoorR2
import Derived.Deep.Cut
import Derived.Deep.CutRange
namespace Go.Proofs.YtlghiakckkhekaaDoor
open Go.RowKit

/-- Two boxes behind what was there. -/
def TwoBox (W : World) (o1 : Int) (m1 : Tm) (v1 : Value) (o2 : Int) (m2 : Tm) (v2 : Value) (t5 t6 : Value) (wx : World) : Prop :=
  ∃ b5 b6, t5 = .pointer (some ⟨b5, 0, none⟩) ∧ t6 = .pointer (some ⟨b6, 0, none⟩) ∧ Below W.heap.size W wx ∧ b5 < wx.heap.size ∧ b6 < wx.heap.size ∧ ExCell wx b5 0 o1 m1 v1 ∧ ExCell wx b6 0 o2 m2 v2
theorem ex_of_six {w : World} {b : Nat} {o1 : Int} {m1 : Tm} {v1 : Value} {t : TypeId} {fz : Nat × Nat} (h : w.heap[b]? = some (.cells #[.int .i8 o1, .string m1.v, .int .i8 m1.x.k, .int .i64 m1.x.n, .string m1.x.t, v1] t fz)) : ExCell w b 0 o1 m1 v1 := by
  obtain ⟨a0, a1, a2, a3, a4, a5⟩ := six h
  exact ⟨a0, a1, a2, a3, a4, a5⟩
theorem new1 (w : World) (a b : Obj) : ((w.alloc a).alloc b).heap[w.heap.size + 1]? = some b := by
  have h := heap_alloc_new (w.alloc a) b
  rwa [show (w.alloc a).heap.size = w.heap.size + 1 by simp] at h
theorem two_ef (W : World) (o1 : Int) (m1 : Tm) (v1 : Value) (o2 : Int) (m2 : Tm) (v2 : Value) : TwoBox W o1 m1 v1 o2 m2 v2 (.pointer (some ⟨W.heap.size, 0, none⟩)) (.pointer (some ⟨W.heap.size + 1, 0, none⟩))
    ((W.alloc (.cells #[.int .i8 o1, .string m1.v, .int .i8 m1.x.k, .int .i64 m1.x.n, .string m1.x.t, v1] 36)).alloc (.cells #[.int .i8 o2, .string m2.v, .int .i8 m2.x.k, .int .i64 m2.x.n, .string m2.x.t, v2] 36)).drew :=
  ⟨W.heap.size, W.heap.size + 1, rfl, rfl, ((below_alloc _ _).trans ((below_alloc _ _).mono (by simp))).drew, by show _ < ((W.alloc _).alloc _).heap.size; simp; omega, by show _ < ((W.alloc _).alloc _).heap.size; simp,
    ex_of_six (t := 36) (fz := (0, 0)) ((Lib.alloc_old _ _ _ (by simp)).trans (heap_alloc_new W _)), ex_of_six (t := 36) (fz := (0, 0)) (new1 W _ _)⟩
theorem two_fe (W : World) (o1 : Int) (m1 : Tm) (v1 : Value) (o2 : Int) (m2 : Tm) (v2 : Value) : TwoBox W o1 m1 v1 o2 m2 v2 (.pointer (some ⟨W.heap.size + 1, 0, none⟩)) (.pointer (some ⟨W.heap.size, 0, none⟩))
    ((W.alloc (.cells #[.int .i8 o2, .string m2.v, .int .i8 m2.x.k, .int .i64 m2.x.n, .string m2.x.t, v2] 36)).alloc (.cells #[.int .i8 o1, .string m1.v, .int .i8 m1.x.k, .int .i64 m1.x.n, .string m1.x.t, v1] 36)).drew :=
  ⟨W.heap.size + 1, W.heap.size, rfl, rfl, ((below_alloc _ _).trans ((below_alloc _ _).mono (by simp))).drew, by show _ < ((W.alloc _).alloc _).heap.size; simp, by show _ < ((W.alloc _).alloc _).heap.size; simp; omega,
    ex_of_six (t := 36) (fz := (0, 0)) (new1 W _ _), ex_of_six (t := 36) (fz := (0, 0)) ((Lib.alloc_old _ _ _ (by simp)).trans (heap_alloc_new W _))⟩
set_option maxHeartbeats 8000000 in
set_option maxRecDepth 100000 in
theorem eTwo (d : Nat) (ih : RefAt d) (e f : Ex d) (n a o cap : Nat) (op : Int) (v : ByteArray) (k x : Int) (t : ByteArray) (w : World) (h2 : 2 ≤ op) (h7 : op ≤ 7) (hn : n ≤ 8)
    (ho : exOk n d e = true) (ho' : exOk n d f = true) (ha : a < w.heap.size) (hc : ExCell w a o (exOp d e) (exTm d e) (exSl d e)) (hc' : ExCell w a (o + 6) (exOp d f) (exTm d f) (exSl d f))
    (he : ExAt w d e) (he' : ExAt w d f) (hr : ExR d e) (hr' : ExR d f) :
    Calls Tryd.prog 35 #[.agg #[.int .i8 op, .string v, .int .i8 k, .int .i64 x, .string t, .slice (some ⟨a, o, none⟩) 2 cap]] w fun r w' =>
      r = .returned (.string ⟨(sideL (exprL d e) (decide (holdI (exOp d e) < holdI op)) ++ (32 :: (bl (signL.getD op.toNat ⟨#[]⟩) ++ [32])) ++ sideL (exprL d f) (decide (holdI (exOp d f) ≤ holdI op))).toArray⟩) ∧ Below w.heap.size w w' := by
  obtain ⟨r1, r2⟩ := op_range ho
  obtain ⟨s1, s2⟩ := op_range ho'
  have HLE := Lib.hid (exprL_b hn ho hr)
  have HLE' := Lib.hid (exprL_b hn ho' hr')
  have HO := Lib.hid ho; clear ho
  have HO' := Lib.hid ho'; clear ho'
  have HA := Lib.hid he
  have HA' := Lib.hid he'
  have HR := Lib.hid hr; clear hr
  have HR' := Lib.hid hr'; clear hr'
  have IH := Lib.hid ih; clear ih
  obtain ⟨p, l, cp, hsl⟩ := ex_sl he
  obtain ⟨p', l', cp', hsl'⟩ := ex_sl he'
  clear he he'
  obtain ⟨c0, c1, c2, c3, c4, c5⟩ := hc
  obtain ⟨d0, d1, d2, d3, d4, d5⟩ := hc'
  rw [hsl] at c5
  rw [hsl'] at d5
  have HSL := Lib.hid hsl; clear hsl
  have HSL' := Lib.hid hsl'; clear hsl'
  have q0 : (op == 0) = false := beq_eq_false_iff_ne.2 (by omega)
  have q1 : (op == 1) = false := beq_eq_false_iff_ne.2 (by omega)
  have q8 : (op == 8) = false := beq_eq_false_iff_ne.2 (by omega)
  have q9 : (op == 9) = false := beq_eq_false_iff_ne.2 (by omega)
  have q10 : (op == 10) = false := beq_eq_false_iff_ne.2 (by omega)
  obtain ⟨W, hW⟩ : ∃ W, W = w.alloc (.cells #[.int .i8 op, .string v, .int .i8 k, .int .i64 x, .string t, .slice (some ⟨a, o, none⟩) 2 cap] 36) := ⟨_, rfl⟩
  have HBW := Lib.hid (show Below w.heap.size w W by rw [hW]; exact below_alloc _ _)
  have hsW : W.heap.size = w.heap.size + 1 := by rw [hW]; simp
  have hbx0 : W.heap[w.heap.size]? = some (.cells #[.int .i8 op, .string v, .int .i8 k, .int .i64 x, .string t, .slice (some ⟨a, o, none⟩) 2 cap] 36 (0, 0)) := by rw [hW]; exact heap_alloc_new w _
  obtain ⟨x0, x1, x2, x3, x4, x5⟩ := six hbx0
  have HBX0 := Lib.hid hbx0; clear hbx0
  have haW : a < W.heap.size := by omega
  obtain ⟨sg, hsg⟩ : ∃ sg, sg = signL.getD op.toNat ⟨#[]⟩ := ⟨_, rfl⟩
  have hsgl : sg.size ≤ 1 := by
    have := sign_len op.toNat (by omega)
    rw [← hsg] at this
    rw [size_bl] at this
    exact this
  have HSG := Lib.hid hsg
  rw [← hsg]
  clear hsg
  have hane : a ≠ W.heap.size := by omega
  have hane1 : a ≠ W.heap.size + 1 := by omega
  have hxne : w.heap.size ≠ W.heap.size := by omega
  have hxne1 : w.heap.size ≠ W.heap.size + 1 := by omega
  have k0 := (HBW.out.cell (p := ⟨a, o, none⟩) ha).trans c0
  have k1 := (HBW.out.cell (p := ⟨a, o + 1, none⟩) ha).trans c1
  have k2 := (HBW.out.cell (p := ⟨a, o + 2, none⟩) ha).trans c2
  have k3 := (HBW.out.cell (p := ⟨a, o + 3, none⟩) ha).trans c3
  have k4 := (HBW.out.cell (p := ⟨a, o + 4, none⟩) ha).trans c4
  have k5 := (HBW.out.cell (p := ⟨a, o + 5, none⟩) ha).trans c5
  have l0 := (HBW.out.cell (p := ⟨a, o + 6, none⟩) ha).trans d0
  have l1 := (HBW.out.cell (p := ⟨a, o + 6 + 1, none⟩) ha).trans d1
  have l2 := (HBW.out.cell (p := ⟨a, o + 6 + 2, none⟩) ha).trans d2
  have l3 := (HBW.out.cell (p := ⟨a, o + 6 + 3, none⟩) ha).trans d3
  have l4 := (HBW.out.cell (p := ⟨a, o + 6 + 4, none⟩) ha).trans d4
  have l5 := (HBW.out.cell (p := ⟨a, o + 6 + 5, none⟩) ha).trans d5
  clear c0 c1 c2 c3 c4 c5 d0 d1 d2 d3 d4 d5
  go_enter Tryd.func35, Tryd.ntmps35
  go_upto_region 12 with (fail)
  go_cut [5, 6] from 67 to 74 (fun t5 t6 wx => TwoBox W (exOp d e) (exTm d e) (.slice p l cp) (exOp d f) (exTm d f) (.slice p' l' cp') t5 t6 wx)
  case first =>
    rw [← hW]
    clear hW
    go_region_held3 (fun w' => w'.cell? ⟨a, o, none⟩ = W.cell? ⟨a, o, none⟩ ∧ w'.cell? ⟨a, o + 1, none⟩ = W.cell? ⟨a, o + 1, none⟩ ∧ w'.cell? ⟨a, o + 2, none⟩ = W.cell? ⟨a, o + 2, none⟩ ∧ w'.cell? ⟨a, o + 3, none⟩ = W.cell? ⟨a, o + 3, none⟩ ∧ w'.cell? ⟨a, o + 4, none⟩ = W.cell? ⟨a, o + 4, none⟩ ∧ w'.cell? ⟨a, o + 5, none⟩ = W.cell? ⟨a, o + 5, none⟩ ∧ w'.cell? ⟨a, o + 6, none⟩ = W.cell? ⟨a, o + 6, none⟩ ∧ w'.cell? ⟨a, o + 6 + 1, none⟩ = W.cell? ⟨a, o + 6 + 1, none⟩ ∧ w'.cell? ⟨a, o + 6 + 2, none⟩ = W.cell? ⟨a, o + 6 + 2, none⟩ ∧ w'.cell? ⟨a, o + 6 + 3, none⟩ = W.cell? ⟨a, o + 6 + 3, none⟩ ∧ w'.cell? ⟨a, o + 6 + 4, none⟩ = W.cell? ⟨a, o + 6 + 4, none⟩ ∧ w'.cell? ⟨a, o + 6 + 5, none⟩ = W.cell? ⟨a, o + 6 + 5, none⟩ ∧ w'.cell? ⟨w.heap.size, 5, none⟩ = W.cell? ⟨w.heap.size, 5, none⟩)
      (first | exact ⟨rfl, rfl, rfl, rfl, rfl, rfl, rfl, rfl, rfl, rfl, rfl, rfl, rfl⟩ | go_keep)
      (first | fail)
    all_goals
      clear x0 x1 x2 x3 x4 x5 k0 k1 k2 k3 k4 k5 l0 l1 l2 l3 l4 l5
      go_wp2_with fail
      go_meet
      rw [← hsW]
      first
        | exact two_ef W (exOp d e) (exTm d e) (.slice p l cp) (exOp d f) (exTm d f) (.slice p' l' cp')
        | exact two_fe W (exOp d e) (exTm d e) (.slice p l cp) (exOp d f) (exTm d f) (.slice p' l' cp')
  case rest =>
    obtain ⟨b5, b6, rfl, rfl, hBc, h5, h6, y, z⟩ := hcut
    clear k0 k1 k2 k3 k4 k5 l0 l1 l2 l3 l4 l5
    have HBc := Lib.hid (HBW.out.trans (hBc.mono (by omega)))
    have hxs : w.heap.size < wc.heap.size := by have := hBc.size; omega
    have u0 := (hBc.cell (p := ⟨w.heap.size, 0, none⟩) (by show w.heap.size < W.heap.size; omega)).trans x0
    have u1 := (hBc.cell (p := ⟨w.heap.size, 1, none⟩) (by show w.heap.size < W.heap.size; omega)).trans x1
    have u2 := (hBc.cell (p := ⟨w.heap.size, 2, none⟩) (by show w.heap.size < W.heap.size; omega)).trans x2
    have u3 := (hBc.cell (p := ⟨w.heap.size, 3, none⟩) (by show w.heap.size < W.heap.size; omega)).trans x3
    have u4 := (hBc.cell (p := ⟨w.heap.size, 4, none⟩) (by show w.heap.size < W.heap.size; omega)).trans x4
    have u5 := (hBc.cell (p := ⟨w.heap.size, 5, none⟩) (by show w.heap.size < W.heap.size; omega)).trans x5
    clear x0 x1 x2 x3 x4 x5 hBc
    obtain ⟨y0, y1, y2, y3, y4, y5⟩ := y
    obtain ⟨z0, z1, z2, z3, z4, z5⟩ := z
    have Hb := Lib.hid ((Below.refl wc.heap.size wc).drew)
    go_wp2_with fail
    go_region_held3 (fun w' => w'.cell? ⟨b5, 0, none⟩ = wc.cell? ⟨b5, 0, none⟩ ∧ w'.cell? ⟨b5, 1, none⟩ = wc.cell? ⟨b5, 1, none⟩ ∧ w'.cell? ⟨b5, 2, none⟩ = wc.cell? ⟨b5, 2, none⟩ ∧ w'.cell? ⟨b5, 3, none⟩ = wc.cell? ⟨b5, 3, none⟩ ∧ w'.cell? ⟨b5, 4, none⟩ = wc.cell? ⟨b5, 4, none⟩ ∧ w'.cell? ⟨b5, 5, none⟩ = wc.cell? ⟨b5, 5, none⟩ ∧ w'.cell? ⟨b6, 0, none⟩ = wc.cell? ⟨b6, 0, none⟩ ∧ w'.cell? ⟨b6, 1, none⟩ = wc.cell? ⟨b6, 1, none⟩ ∧ w'.cell? ⟨b6, 2, none⟩ = wc.cell? ⟨b6, 2, none⟩ ∧ w'.cell? ⟨b6, 3, none⟩ = wc.cell? ⟨b6, 3, none⟩ ∧ w'.cell? ⟨b6, 4, none⟩ = wc.cell? ⟨b6, 4, none⟩ ∧ w'.cell? ⟨b6, 5, none⟩ = wc.cell? ⟨b6, 5, none⟩ ∧ w'.cell? ⟨w.heap.size, 0, none⟩ = wc.cell? ⟨w.heap.size, 0, none⟩ ∧ w'.cell? ⟨w.heap.size, 1, none⟩ = wc.cell? ⟨w.heap.size, 1, none⟩ ∧ w'.cell? ⟨w.heap.size, 2, none⟩ = wc.cell? ⟨w.heap.size, 2, none⟩ ∧ w'.cell? ⟨w.heap.size, 3, none⟩ = wc.cell? ⟨w.heap.size, 3, none⟩ ∧ w'.cell? ⟨w.heap.size, 4, none⟩ = wc.cell? ⟨w.heap.size, 4, none⟩ ∧ w'.cell? ⟨w.heap.size, 5, none⟩ = wc.cell? ⟨w.heap.size, 5, none⟩)
      (exact ⟨Hb.out.cell h5, Hb.out.cell h5, Hb.out.cell h5, Hb.out.cell h5, Hb.out.cell h5, Hb.out.cell h5, Hb.out.cell h6, Hb.out.cell h6, Hb.out.cell h6, Hb.out.cell h6, Hb.out.cell h6, Hb.out.cell h6, Hb.out.cell hxs, Hb.out.cell hxs, Hb.out.cell hxs, Hb.out.cell hxs, Hb.out.cell hxs, Hb.out.cell hxs⟩)
      (first
        | (go_at_call 73
           refine (rFast _ _ _ _ _ _ _ _ _ ?_ ?_).mono ?_
           · omega
           · omega
           rintro r w1 ⟨rfl, hb⟩
           have Hb := Lib.hid (Hb.out.trans (hb.mono Hb.out.size))
           clear hb)
        | (go_at_call 74
           refine (rSignS _ _ h2 h7).mono ?_
           rintro r w2 ⟨rfl, rfl⟩
           rw [← HSG.out])
        | (go_at_call 72
           rw [← HSL.out]
           refine (rWithin d IH.out e n _ _ hn HO.out ?_ HR.out).mono ?_
           · exact HA.out.up (HBc.out.trans (Hb.out.mono (by omega))) d e
           rintro r w1 ⟨rfl, hb⟩
           have Hb := Lib.hid (Hb.out.trans (hb.mono Hb.out.size))
           clear hb
           obtain ⟨s1, hs1⟩ : ∃ s : ByteArray, s = ⟨(sideL (exprL d e) (decide (holdI (exOp d e) < holdI op))).toArray⟩ := ⟨_, rfl⟩
           have hz1 : s1.size ≤ 207354 := by
             rw [hs1]
             have h1 := sideL_le (exprL d e) (decide (holdI (exOp d e) < holdI op))
             have h2 := HLE.out
             simp [ByteArray.size]
             omega
           have hcat1 : ¬ 9223372036854775807 < s1.size + 1 := by omega
           have hcat2 : ¬ 9223372036854775807 < s1.size + 1 + sg.size := by omega
           have hcat3 : ¬ 9223372036854775807 < s1.size + 1 + sg.size + 1 := by omega
           have HS1 := Lib.hid (show bl s1 = sideL (exprL d e) (decide (holdI (exOp d e) < holdI op)) by rw [hs1])
           rw [← hs1]
           clear hs1)
        | (go_at_call 72
           rw [← HSL'.out]
           refine (rWithin d IH.out f n _ _ hn HO'.out ?_ HR'.out).mono ?_
           · exact HA'.out.up (HBc.out.trans (Hb.out.mono (by omega))) d f
           rintro r w1 ⟨rfl, hb⟩
           have Hb := Lib.hid (Hb.out.trans (hb.mono Hb.out.size))
           clear hb
           obtain ⟨s2, hs2⟩ : ∃ s : ByteArray, s = ⟨(sideL (exprL d f) (decide (holdI (exOp d f) ≤ holdI op))).toArray⟩ := ⟨_, rfl⟩
           have hz2 : s2.size ≤ 207354 := by
             rw [hs2]
             have h1 := sideL_le (exprL d f) (decide (holdI (exOp d f) ≤ holdI op))
             have h2 := HLE'.out
             simp [ByteArray.size]
             omega
           have hcat4 : ¬ 9223372036854775807 < s1.size + 1 + sg.size + 1 + s2.size := by omega
           have HS2 := Lib.hid (show bl s2 = sideL (exprL d f) (decide (holdI (exOp d f) ≤ holdI op)) by rw [hs2])
           rw [← hs2]
           clear hs2))
    all_goals
      clear y0 y1 y2 y3 y4 y5 z0 z1 z2 z3 z4 z5 u0 u1 u2 u3 u4 u5
      go_wp2_with fail
      go_ret
      exact ⟨ret_bytes (by rw [bl_cat, bl_cat, bl_cat, bl_cat, HS1.out, HS2.out]; simp [bl]), HBc.out.trans (Hb.out.mono (by omega))⟩
end Go.Proofs.YtlghiakckkhekaaDoor
