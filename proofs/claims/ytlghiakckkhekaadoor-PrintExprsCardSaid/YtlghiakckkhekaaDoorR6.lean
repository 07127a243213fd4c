/- The contract of the reference's Expr. Conditions: the expression lies in memory as it is told. -/
import Derived.Test.YtlghiakckkhekaaDoorR3
import Derived.Test.YtlghiakckkhekaaDoorR4
import Derived.Test.YtlghiakckkhekaaDoorR5
namespace Go.Proofs.YtlghiakckkhekaaDoor
open Go.RowKit

theorem ref_step (d : Nat) (ih : RefAt d) : RefAt (d + 1) := by
  intro e n w hn ho he hr
  obtain ⟨op, tm, sl, ks⟩ := e
  cases n with
  | zero => cases ho
  | succ n =>
    obtain ⟨p, cap, h1, hm, hs, hk⟩ := he
    obtain ⟨_, htr, hrk⟩ := hr
    have h1' : sl = .slice p ks.length cap := h1
    clear h1
    subst h1'
    obtain ⟨v, ⟨kd, x, t⟩⟩ := tm
    rcases ex_open ho with ⟨rfl, rfl, hs⟩ | ⟨k, rfl, rfl, hok⟩ | ⟨k, h8, h10, rfl, hok⟩ | ⟨k, m, h2, h7, rfl, hok, hom⟩
    · rw [exprL_term]
      exact eTerm v kd x t p _ cap w htr
    · rw [exprL_neg]
      rcases hs with hs | ⟨a, o, hp, ha, hc⟩
      · simp at hs
      · have hp' : p = some ⟨a, o, none⟩ := hp
        subst hp'
        have hc0 := hc 0 (by simp)
        rw [Nat.zero_mul, Nat.add_zero] at hc0
        exact eNeg d ih k n a o cap v kd x t w (by omega) hok ha hc0 (hk k (by simp)) (hrk k (by simp))
    · rw [exprL_word _ _ k h8]
      rcases hs with hs | ⟨a, o, hp, ha, hc⟩
      · simp at hs
      · have hp' : p = some ⟨a, o, none⟩ := hp
        subst hp'
        have hc0 := hc 0 (by simp)
        rw [Nat.zero_mul, Nat.add_zero] at hc0
        exact eWord d ih k n a o cap op v kd x t w h8 h10 (by omega) hok ha hc0 (hk k (by simp)) (hrk k (by simp))
    · rw [exprL_two _ _ k m h2]
      rcases hs with hs | ⟨a, o, hp, ha, hc⟩
      · simp at hs
      · have hp' : p = some ⟨a, o, none⟩ := hp
        subst hp'
        have hc0 := hc 0 (by simp)
        have hc1 := hc 1 (by simp)
        rw [Nat.zero_mul, Nat.add_zero] at hc0
        rw [Nat.one_mul] at hc1
        exact eTwo d ih k m n a o cap op v kd x t w h2 h7 (by omega) hok hom ha hc0 hc1 (hk k (by simp)) (hk m (by simp)) (hrk k (by simp)) (hrk m (by simp))
theorem ref_all : ∀ d, RefAt d
  | 0 => fun e => nomatch e
  | d + 1 => ref_step d (ref_all d)
set_option maxHeartbeats 1000000 in
theorem rExprT (d : Nat) (e : Ex d) (w : World) (he : ExAt w d e) (hr : ExR d e) :
    Calls Tryd.prog 13 #[.agg #[.int .i8 (exOp d e), .string (exTm d e).v, .int .i8 (exTm d e).x.k, .int .i64 (exTm d e).x.n, .string (exTm d e).x.t, exSl d e]] w (TextPost (exOk 8 d e) (exprL d e) w) := by
  obtain ⟨p, l, cp, hsl⟩ := ex_sl he
  have HE := Lib.hid he; clear he
  have HR := Lib.hid hr; clear hr
  rw [hsl]
  have HSL := Lib.hid hsl; clear hsl
  rcases hx : exOk 8 d e with _ | _
  all_goals have HX := Lib.hid hx
  all_goals rw [← hx]
  all_goals clear hx
  · go_enter Tryd.func13, Tryd.ntmps13
    go_wp2_with fail
    rw [← HSL.out]
    refine (rCheckExpr d e _ (HE.out.up (below_alloc _ _) d e) HR.out).mono ?_
    rintro r w1 ⟨rfl, hb⟩
    have Hb := Lib.hid hb; clear hb
    rw [HX.out, show okCode false 40 = 40 from rfl]
    go_wp2_with fail
    go_ret2
    exact ⟨ret_no HX.out, (below_alloc _ _).trans (Hb.out.mono (by simp))⟩
  · obtain ⟨W, hW⟩ : ∃ W, W = w.alloc (.cells #[.int .i8 (exOp d e), .string (exTm d e).v, .int .i8 (exTm d e).x.k, .int .i64 (exTm d e).x.n, .string (exTm d e).x.t, .slice p l cp] 36) := ⟨_, rfl⟩
    have HBW := Lib.hid (show Below w.heap.size w W by rw [hW]; exact below_alloc _ _)
    have hsW : W.heap.size = w.heap.size + 1 := by rw [hW]; simp
    have hbx : W.heap[w.heap.size]? = some (.cells #[.int .i8 (exOp d e), .string (exTm d e).v, .int .i8 (exTm d e).x.k, .int .i64 (exTm d e).x.n, .string (exTm d e).x.t, .slice p l cp] 36 (0, 0)) := by rw [hW]; exact heap_alloc_new w _
    have HBX := Lib.hid hbx; clear hbx
    go_enter Tryd.func13, Tryd.ntmps13
    go_wp2_with fail
    rw [← hW]
    clear hW
    rw [← HSL.out]
    refine (rCheckExpr d e _ (HE.out.up HBW.out d e) HR.out).mono ?_
    rintro r w1 ⟨rfl, hb⟩
    obtain ⟨x0, x1, x2, x3, x4, x5⟩ := six ((hb.block w.heap.size (by omega)).trans HBX.out)
    have Hb := Lib.hid (HBW.out.trans (hb.mono (by omega)))
    have hsz1 : w.heap.size < w1.heap.size := by have := hb.size; omega
    clear hb
    rw [HX.out, show okCode true 40 = 0 from rfl]
    go_wp2_with fail
    rw [← HSL.out]
    refine (ref_all d e 8 _ (by omega) HX.out (HE.out.up Hb.out d e) HR.out).mono ?_
    rintro r w2 ⟨rfl, hb2⟩
    have Hb2 := Lib.hid hb2; clear hb2
    clear x0 x1 x2 x3 x4 x5
    go_wp2_with fail
    go_ret2
    exact ⟨ret_yes HX.out, Hb.out.trans (Hb2.out.mono (by omega))⟩
end Go.Proofs.YtlghiakckkhekaaDoor
