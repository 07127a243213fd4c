/- The contracts of the writer's literal and of print.Literal. Conditions: the literal lies in memory as it is told; what is held and what is written together take at most 2^47 bytes. -/
import Derived.Test.YtdgbenadoaecoaaDoorC4
import Derived.StillTailTactics
import Derived.Test.YtdgbenadoaecoaaDoorB1
namespace Go.Proofs.YtdgbenadoaecoaaDoor
open Go.RowKit

/-- What each kind's writer is known to write. -/
def KindW (d : Nat) (x : Lt d) (b : Nat) (pre : List UInt8) (f : FuncId) (w0 : World) : Prop := ∀ w, Env w0 b w → Wr 68 b pre w →
  Calls Tryd.prog f #[.pointer (some ⟨b, 0, none⟩), .agg #[.int .i8 x.k, .string x.p, x.sv, .int .i8 x.r, .int .i8 (exOp d x.l), .string (exTm d x.l).v, .int .i8 (exTm d x.l).x.k, .int .i64 (exTm d x.l).x.n, .string (exTm d x.l).x.t, exSl d x.l, .int .i8 (exOp d x.g), .string (exTm d x.g).v, .int .i8 (exTm d x.g).x.k, .int .i64 (exTm d x.g).x.n, .string (exTm d x.g).x.t, exSl d x.g]] w (Wrote b pre (litL x) w)
set_option maxHeartbeats 4000000 in
set_option maxRecDepth 100000 in
theorem pLit (w0 : World) (d : Nat) (x : Lt d) (b : Nat) (pre : List UInt8) (w : World) (hE : Env w0 b w) (hx : LtAt w0 x) (ho : x.k = 1 ∨ x.k = 2 ∨ x.k = 3) (hw : Wr 68 b pre w)
    (h1 : x.k = 1 → KindW d x b pre 60 w0) (h2 : x.k = 2 → KindW d x b pre 61 w0) (h3 : x.k = 3 → KindW d x b pre 62 w0) :
    Calls Tryd.prog 41 #[.pointer (some ⟨b, 0, none⟩), .agg #[.int .i8 x.k, .string x.p, x.sv, .int .i8 x.r, .int .i8 (exOp d x.l), .string (exTm d x.l).v, .int .i8 (exTm d x.l).x.k, .int .i64 (exTm d x.l).x.n, .string (exTm d x.l).x.t, exSl d x.l, .int .i8 (exOp d x.g), .string (exTm d x.g).v, .int .i8 (exTm d x.g).x.k, .int .i64 (exTm d x.g).x.n, .string (exTm d x.g).x.t, exSl d x.g]] w (Wrote b pre (litL x) w) := by
  obtain ⟨q, cap, hsv, _, _⟩ := hx.at_
  obtain ⟨pl, cl, hsl⟩ := ex_sl2 hx.l_
  obtain ⟨pg, cg, hsg⟩ := ex_sl2 hx.g_
  unfold KindW at h1 h2 h3
  rw [hsv, hsl, hsg] at h1 h2 h3
  rw [hsv, hsl, hsg]
  clear hx hsv hsl hsg
  have K1 := Lib.hid h1; clear h1
  have K2 := Lib.hid h2; clear h2
  have K3 := Lib.hid h3; clear h3
  have HE := Lib.hid hE; clear hE
  have HW := Lib.hid hw
  have hlt := hw.lt; clear hw
  obtain ⟨out, hout⟩ : ∃ o, o = litL x := ⟨_, rfl⟩
  rw [← hout] at K1 K2 K3 ⊢
  clear hout
  obtain ⟨k, hk⟩ : ∃ k, k = x.k := ⟨_, rfl⟩
  rw [← hk] at K1 K2 K3 ho ⊢
  clear hk
  rcases ho with rfl | rfl | rfl
  case inl =>
    obtain ⟨W, hW⟩ : ∃ W, W = (w.alloc (.cells #[.int .i8 1, .string x.p, .slice q x.ts.length cap, .int .i8 x.r, .int .i8 (exOp d x.l), .string (exTm d x.l).v, .int .i8 (exTm d x.l).x.k, .int .i64 (exTm d x.l).x.n, .string (exTm d x.l).x.t, .slice pl (exLen d x.l) cl, .int .i8 (exOp d x.g), .string (exTm d x.g).v, .int .i8 (exTm d x.g).x.k, .int .i64 (exTm d x.g).x.n, .string (exTm d x.g).x.t, .slice pg (exLen d x.g) cg] 94)).alloc (.cells #[.nilFunc, .func (.func 60) #[] #[], .func (.func 61) #[] #[], .func (.func 62) #[] #[]] 126) := ⟨_, rfl⟩
    have HKW := Lib.hid (show Kp b w W by rw [hW]; exact (Kp.alloc HW.out _).trans (Kp.alloc (HW.out.alloc _) _))
    have HWW := Lib.hid (show Wr 68 b pre W by rw [hW]; exact (HW.out.alloc _).alloc _)
    have hsW : W.heap.size = w.heap.size + 1 + 1 := by rw [hW]; simp
    obtain ⟨x0, x1, x2, x3, x4, x5, x6, x7, x8, x9, x10, x11, x12, x13, x14, x15⟩ := sixteen (show W.heap[w.heap.size]? = some (.cells #[.int .i8 1, .string x.p, .slice q x.ts.length cap, .int .i8 x.r, .int .i8 (exOp d x.l), .string (exTm d x.l).v, .int .i8 (exTm d x.l).x.k, .int .i64 (exTm d x.l).x.n, .string (exTm d x.l).x.t, .slice pl (exLen d x.l) cl, .int .i8 (exOp d x.g), .string (exTm d x.g).v, .int .i8 (exTm d x.g).x.k, .int .i64 (exTm d x.g).x.n, .string (exTm d x.g).x.t, .slice pg (exLen d x.g) cg] 94 (0, 0)) by rw [hW, Lib.alloc_old _ _ _ (by simp)]; exact heap_alloc_new w _)
    obtain ⟨y0, y1, y2, y3⟩ := four (show W.heap[w.heap.size + 1]? = some (.cells #[.nilFunc, .func (.func 60) #[] #[], .func (.func 61) #[] #[], .func (.func 62) #[] #[]] 126 (0, 0)) by rw [hW]; simpa using heap_alloc_new (w.alloc _) _)
    have hs0 := fun (w : World) (a : Addr) => run_store Tryd.prog w a .nilFunc .plain rfl
    have hs1 := fun (w : World) (a : Addr) (f : Fn) => run_store Tryd.prog w a (.func f #[] #[]) .plain rfl
    go_enter Tryd.func41, Tryd.ntmps41
    go_wp2_with fail
    rw [← hW]
    clear hW hs0 hs1
    go_still_tail 6, (by kernel_rfl)
    change wpList _ _ _ _ _ W.drew
    clear x0 x1 x2 x3 x4 x5 x6 x7 x8 x9 x10 x11 x12 x13 x14 x15 y0 y1 y2 y3
    have HWd := Lib.hid (Wr.drew HWW.out)
    have HKd := Lib.hid (HKW.out.trans (Kp.of_below HWW.out.lt ((Below.refl _ W).drew)))
    obtain ⟨Wd, hWd⟩ : ∃ Wd, Wd = W.drew := ⟨_, rfl⟩
    rw [← hWd] at HWd HKd ⊢
    clear hWd
    go_wp2_with fail
    refine (K1.out (by trivial) _ (HE.out.kp HKd.out) HWd.out).mono ?_
    rintro e w1 ⟨rfl, hw1, hk1⟩
    have H1 := Lib.hid hw1; clear hw1
    have HK1 := Lib.hid (HKd.out.trans hk1); clear hk1
    go_wp2_with fail
    go_end0
    exact ⟨rfl, H1.out, HK1.out⟩
  case inr.inl =>
    obtain ⟨W, hW⟩ : ∃ W, W = (w.alloc (.cells #[.int .i8 2, .string x.p, .slice q x.ts.length cap, .int .i8 x.r, .int .i8 (exOp d x.l), .string (exTm d x.l).v, .int .i8 (exTm d x.l).x.k, .int .i64 (exTm d x.l).x.n, .string (exTm d x.l).x.t, .slice pl (exLen d x.l) cl, .int .i8 (exOp d x.g), .string (exTm d x.g).v, .int .i8 (exTm d x.g).x.k, .int .i64 (exTm d x.g).x.n, .string (exTm d x.g).x.t, .slice pg (exLen d x.g) cg] 94)).alloc (.cells #[.nilFunc, .func (.func 60) #[] #[], .func (.func 61) #[] #[], .func (.func 62) #[] #[]] 126) := ⟨_, rfl⟩
    have HKW := Lib.hid (show Kp b w W by rw [hW]; exact (Kp.alloc HW.out _).trans (Kp.alloc (HW.out.alloc _) _))
    have HWW := Lib.hid (show Wr 68 b pre W by rw [hW]; exact (HW.out.alloc _).alloc _)
    have hsW : W.heap.size = w.heap.size + 1 + 1 := by rw [hW]; simp
    obtain ⟨x0, x1, x2, x3, x4, x5, x6, x7, x8, x9, x10, x11, x12, x13, x14, x15⟩ := sixteen (show W.heap[w.heap.size]? = some (.cells #[.int .i8 2, .string x.p, .slice q x.ts.length cap, .int .i8 x.r, .int .i8 (exOp d x.l), .string (exTm d x.l).v, .int .i8 (exTm d x.l).x.k, .int .i64 (exTm d x.l).x.n, .string (exTm d x.l).x.t, .slice pl (exLen d x.l) cl, .int .i8 (exOp d x.g), .string (exTm d x.g).v, .int .i8 (exTm d x.g).x.k, .int .i64 (exTm d x.g).x.n, .string (exTm d x.g).x.t, .slice pg (exLen d x.g) cg] 94 (0, 0)) by rw [hW, Lib.alloc_old _ _ _ (by simp)]; exact heap_alloc_new w _)
    obtain ⟨y0, y1, y2, y3⟩ := four (show W.heap[w.heap.size + 1]? = some (.cells #[.nilFunc, .func (.func 60) #[] #[], .func (.func 61) #[] #[], .func (.func 62) #[] #[]] 126 (0, 0)) by rw [hW]; simpa using heap_alloc_new (w.alloc _) _)
    have hs0 := fun (w : World) (a : Addr) => run_store Tryd.prog w a .nilFunc .plain rfl
    have hs1 := fun (w : World) (a : Addr) (f : Fn) => run_store Tryd.prog w a (.func f #[] #[]) .plain rfl
    go_enter Tryd.func41, Tryd.ntmps41
    go_wp2_with fail
    rw [← hW]
    clear hW hs0 hs1
    go_still_tail 6, (by kernel_rfl)
    change wpList _ _ _ _ _ W.drew
    clear x0 x1 x2 x3 x4 x5 x6 x7 x8 x9 x10 x11 x12 x13 x14 x15 y0 y1 y2 y3
    have HWd := Lib.hid (Wr.drew HWW.out)
    have HKd := Lib.hid (HKW.out.trans (Kp.of_below HWW.out.lt ((Below.refl _ W).drew)))
    obtain ⟨Wd, hWd⟩ : ∃ Wd, Wd = W.drew := ⟨_, rfl⟩
    rw [← hWd] at HWd HKd ⊢
    clear hWd
    go_wp2_with fail
    refine (K2.out (by trivial) _ (HE.out.kp HKd.out) HWd.out).mono ?_
    rintro e w1 ⟨rfl, hw1, hk1⟩
    have H1 := Lib.hid hw1; clear hw1
    have HK1 := Lib.hid (HKd.out.trans hk1); clear hk1
    go_wp2_with fail
    go_end0
    exact ⟨rfl, H1.out, HK1.out⟩
  case inr.inr =>
    obtain ⟨W, hW⟩ : ∃ W, W = (w.alloc (.cells #[.int .i8 3, .string x.p, .slice q x.ts.length cap, .int .i8 x.r, .int .i8 (exOp d x.l), .string (exTm d x.l).v, .int .i8 (exTm d x.l).x.k, .int .i64 (exTm d x.l).x.n, .string (exTm d x.l).x.t, .slice pl (exLen d x.l) cl, .int .i8 (exOp d x.g), .string (exTm d x.g).v, .int .i8 (exTm d x.g).x.k, .int .i64 (exTm d x.g).x.n, .string (exTm d x.g).x.t, .slice pg (exLen d x.g) cg] 94)).alloc (.cells #[.nilFunc, .func (.func 60) #[] #[], .func (.func 61) #[] #[], .func (.func 62) #[] #[]] 126) := ⟨_, rfl⟩
    have HKW := Lib.hid (show Kp b w W by rw [hW]; exact (Kp.alloc HW.out _).trans (Kp.alloc (HW.out.alloc _) _))
    have HWW := Lib.hid (show Wr 68 b pre W by rw [hW]; exact (HW.out.alloc _).alloc _)
    have hsW : W.heap.size = w.heap.size + 1 + 1 := by rw [hW]; simp
    obtain ⟨x0, x1, x2, x3, x4, x5, x6, x7, x8, x9, x10, x11, x12, x13, x14, x15⟩ := sixteen (show W.heap[w.heap.size]? = some (.cells #[.int .i8 3, .string x.p, .slice q x.ts.length cap, .int .i8 x.r, .int .i8 (exOp d x.l), .string (exTm d x.l).v, .int .i8 (exTm d x.l).x.k, .int .i64 (exTm d x.l).x.n, .string (exTm d x.l).x.t, .slice pl (exLen d x.l) cl, .int .i8 (exOp d x.g), .string (exTm d x.g).v, .int .i8 (exTm d x.g).x.k, .int .i64 (exTm d x.g).x.n, .string (exTm d x.g).x.t, .slice pg (exLen d x.g) cg] 94 (0, 0)) by rw [hW, Lib.alloc_old _ _ _ (by simp)]; exact heap_alloc_new w _)
    obtain ⟨y0, y1, y2, y3⟩ := four (show W.heap[w.heap.size + 1]? = some (.cells #[.nilFunc, .func (.func 60) #[] #[], .func (.func 61) #[] #[], .func (.func 62) #[] #[]] 126 (0, 0)) by rw [hW]; simpa using heap_alloc_new (w.alloc _) _)
    have hs0 := fun (w : World) (a : Addr) => run_store Tryd.prog w a .nilFunc .plain rfl
    have hs1 := fun (w : World) (a : Addr) (f : Fn) => run_store Tryd.prog w a (.func f #[] #[]) .plain rfl
    go_enter Tryd.func41, Tryd.ntmps41
    go_wp2_with fail
    rw [← hW]
    clear hW hs0 hs1
    go_still_tail 6, (by kernel_rfl)
    change wpList _ _ _ _ _ W.drew
    clear x0 x1 x2 x3 x4 x5 x6 x7 x8 x9 x10 x11 x12 x13 x14 x15 y0 y1 y2 y3
    have HWd := Lib.hid (Wr.drew HWW.out)
    have HKd := Lib.hid (HKW.out.trans (Kp.of_below HWW.out.lt ((Below.refl _ W).drew)))
    obtain ⟨Wd, hWd⟩ : ∃ Wd, Wd = W.drew := ⟨_, rfl⟩
    rw [← hWd] at HWd HKd ⊢
    clear hWd
    go_wp2_with fail
    refine (K3.out (by trivial) _ (HE.out.kp HKd.out) HWd.out).mono ?_
    rintro e w1 ⟨rfl, hw1, hk1⟩
    have H1 := Lib.hid hw1; clear hw1
    have HK1 := Lib.hid (HKd.out.trans hk1); clear hk1
    go_wp2_with fail
    go_end0
    exact ⟨rfl, H1.out, HK1.out⟩
end Go.Proofs.YtdgbenadoaecoaaDoor
