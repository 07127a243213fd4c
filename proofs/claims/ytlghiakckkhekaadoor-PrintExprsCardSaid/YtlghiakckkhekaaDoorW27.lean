/- The contract of print.Expr. Conditions: the expression lies in memory as it is told. -/
import Derived.Test.YtlghiakckkhekaaDoorW26
namespace Go.Proofs.YtlghiakckkhekaaDoor
open Go.RowKit

theorem exprL_len {d : Nat} {e : Ex d} (h : exOk 8 d e = true) (hr : ExR d e) : (exprL d e).length ≤ 207352 := by
  have := exprL_le 8 d e h hr
  omega
set_option maxHeartbeats 1000000 in
theorem pToldE (d : Nat) (e : Ex d) (w : World) (he : ExAt w d e) (hr : ExR d e) (hT : Tabs w) :
    Calls Tryd.prog 36 #[.agg #[.int .i8 (exOp d e), .string (exTm d e).v, .int .i8 (exTm d e).x.k, .int .i64 (exTm d e).x.n, .string (exTm d e).x.t, exSl d e], .func (.func 37) #[] #[], .func (.func 38) #[] #[]] w (TextPost (exOk 8 d e) (exprL d e) w) := by
  obtain ⟨p, l, cp, hsl⟩ := ex_sl he
  have HE := Lib.hid he; clear he
  have HR := Lib.hid hr; clear hr
  have HT := Lib.hid hT; clear hT
  rw [hsl]
  have HSL := Lib.hid hsl; clear hsl
  rcases hx : exOk 8 d e with _ | _
  all_goals have HX := Lib.hid hx
  all_goals rw [← hx]
  all_goals clear hx
  · go_enter Tryd.func36, Tryd.ntmps36
    go_wp2_with fail
    rw [← HSL.out]
    refine (tCheckExpr d e _ (HE.out.up (below_alloc _ _) d e) HR.out).mono ?_
    rintro r w1 ⟨rfl, hb⟩
    have Hb := Lib.hid hb; clear hb
    rw [HX.out, show okCode false 40 = 40 from rfl]
    go_wp2_with fail
    go_ret2
    exact ⟨ret_no HX.out, (below_alloc _ _).trans (Hb.out.mono (by simp))⟩
  · have HL := Lib.hid (exprL_len HX.out HR.out)
    go_enter Tryd.func36, Tryd.ntmps36
    go_wp2_with fail
    rw [← HSL.out]
    refine (tCheckExpr d e _ (HE.out.up (below_alloc _ _) d e) HR.out).mono ?_
    rintro r w1 ⟨rfl, hb⟩
    obtain ⟨hc, hf⟩ := bcell hb
    have Hb := Lib.hid hb; clear hb
    have hsz1 : w.heap.size < w1.heap.size := by have := Hb.out.size; simp at this; omega
    rw [HX.out, show okCode true 40 = 0 from rfl]
    go_wp2_with fail
    clear hc hf
    refine (writes_all d w e 8 w1.heap.size [] _ HX.out ⟨by omega, ((below_alloc _ _).trans (Hb.out.mono (by simp))).trans ((below_alloc w1 _).mono (by omega))⟩ HT.out HE.out HR.out (wr_fresh _ w1) (by have := HL.out; simp; omega)).mono ?_
    rintro r w2 ⟨rfl, hw2, hk2⟩
    have H2 := Lib.hid hw2; clear hw2
    have HK2 := Lib.hid hk2; clear hk2
    go_wp2_with fail
    refine (bText w1.heap.size _ _ H2.out).mono ?_
    rintro r w3 ⟨rfl, hk3⟩
    have HK3 := Lib.hid hk3; clear hk3
    go_wp2_with fail
    go_ret2
    exact ⟨ret_yes HX.out, (((below_alloc _ _).trans (Hb.out.mono (by simp))).trans ((below_alloc w1 _).mono (by omega))).trans ((HK2.out.trans HK3.out).below.mono (by omega))⟩
theorem pExprT (d : Nat) (e : Ex d) (w : World) (he : ExAt w d e) (hr : ExR d e) (hT : Tabs w) :
    Calls Tryd.prog 14 #[.agg #[.int .i8 (exOp d e), .string (exTm d e).v, .int .i8 (exTm d e).x.k, .int .i64 (exTm d e).x.n, .string (exTm d e).x.t, exSl d e]] w (TextPost (exOk 8 d e) (exprL d e) w) := by
  obtain ⟨p, l, cp, hsl⟩ := ex_sl he
  have HE := Lib.hid he; clear he
  have HR := Lib.hid hr; clear hr
  have HT := Lib.hid hT; clear hT
  rw [hsl]
  have HSL := Lib.hid hsl; clear hsl
  go_enter Tryd.func14, Tryd.ntmps14
  go_wp2_with fail
  rw [← HSL.out]
  refine (pToldE d e _ (HE.out.up (below_alloc _ _) d e) HR.out (HT.out.alloc _)).mono ?_
  rintro r w1 ⟨rfl, hb⟩
  have Hb := Lib.hid hb; clear hb
  go_wp2_with fail
  go_ret2
  exact ⟨rfl, (below_alloc _ _).trans (Hb.out.mono (by simp))⟩
end Go.Proofs.YtlghiakckkhekaaDoor
