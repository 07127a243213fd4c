/- The contracts of the reference's Fast, sign, word and within. Conditions: the operation is one; the expression lies in memory as it is told. -/
import Derived.Test.YtlghiakckkhekaaDoorW26
namespace Go.Proofs.YtlghiakckkhekaaDoor
open Go.RowKit

theorem ops11 {op : Int} (h0 : 0 ≤ op) (h1 : op ≤ 10) : op = 0 ∨ op = 1 ∨ op = 2 ∨ op = 3 ∨ op = 4 ∨ op = 5 ∨ op = 6 ∨ op = 7 ∨ op = 8 ∨ op = 9 ∨ op = 10 := by omega
set_option maxHeartbeats 1000000 in
theorem rFast (op : Int) (v : ByteArray) (k n : Int) (t : ByteArray) (p : Option Addr) (l c : Nat) (w : World) (h0 : 0 ≤ op) (h1 : op ≤ 10) :
    Calls Tryd.prog 73 #[.agg #[.int .i8 op, .string v, .int .i8 k, .int .i64 n, .string t, .slice p l c]] w fun e w' => e = .returned (.int .i64 (holdI op)) ∧ Below w.heap.size w w' := by
  have hop := ops11 h0 h1
  clear h0 h1
  rcases hop with rfl | rfl | rfl | rfl | rfl | rfl | rfl | rfl | rfl | rfl | rfl
  all_goals
    go_enter Tryd.func73, Tryd.ntmps73
    go_wp2_with fail
    go_ret
    exact ⟨rfl, below_alloc _ _⟩
theorem rSignS (op : Int) (w : World) (h0 : 2 ≤ op) (h1 : op ≤ 7) :
    Calls Tryd.prog 74 #[.int .i8 op] w fun e w' => e = .returned (.string (signL.getD op.toNat ⟨#[]⟩)) ∧ w = w' := by
  have hop : op = 2 ∨ op = 3 ∨ op = 4 ∨ op = 5 ∨ op = 6 ∨ op = 7 := by omega
  clear h0 h1
  rcases hop with rfl | rfl | rfl | rfl | rfl | rfl
  all_goals
    go_enter Tryd.func74, Tryd.ntmps74
    go_wp2_with fail
    go_ret
    exact ⟨rfl, rfl⟩
theorem rWordS (op : Int) (w : World) (h0 : 8 ≤ op) (h1 : op ≤ 10) :
    Calls Tryd.prog 71 #[.int .i8 op] w fun e w' => e = .returned (.string (wordL.getD op.toNat ⟨#[]⟩)) ∧ w = w' := by
  have hop : op = 8 ∨ op = 9 ∨ op = 10 := by omega
  clear h0 h1
  rcases hop with rfl | rfl | rfl
  all_goals
    go_enter Tryd.func71, Tryd.ntmps71
    go_wp2_with fail
    go_ret
    exact ⟨rfl, rfl⟩
/-- What the reference's expr is known to do at expressions of a depth up to d. -/
def RefAt (d : Nat) : Prop := ∀ (e : Ex d) (n : Nat) (w : World), n ≤ 8 → exOk n d e = true → ExAt w d e → ExR d e →
  Calls Tryd.prog 35 #[.agg #[.int .i8 (exOp d e), .string (exTm d e).v, .int .i8 (exTm d e).x.k, .int .i64 (exTm d e).x.n, .string (exTm d e).x.t, exSl d e]] w fun r w' =>
    r = .returned (.string ⟨(exprL d e).toArray⟩) ∧ Below w.heap.size w w'
theorem bl_cat (a b : ByteArray) : bl (a ++ b) = bl a ++ bl b := by simp [bl]
theorem exprL_b {n d : Nat} {e : Ex d} (hn : n ≤ 8) (h : exOk n d e = true) (hr : ExR d e) : (exprL d e).length ≤ 207352 := by
  have h1 := exprL_le n d e h hr
  have h2 : 2 ^ n ≤ 2 ^ 8 := Nat.pow_le_pow_right (by omega) hn
  omega
set_option maxHeartbeats 1000000 in
theorem rWithin (d : Nat) (ih : RefAt d) (e : Ex d) (n : Nat) (b : Bool) (w : World) (hn : n ≤ 8) (ho : exOk n d e = true) (he : ExAt w d e) (hr : ExR d e) :
    Calls Tryd.prog 72 #[.agg #[.int .i8 (exOp d e), .string (exTm d e).v, .int .i8 (exTm d e).x.k, .int .i64 (exTm d e).x.n, .string (exTm d e).x.t, exSl d e], .bool b] w fun r w' =>
      r = .returned (.string ⟨(sideL (exprL d e) b).toArray⟩) ∧ Below w.heap.size w w' := by
  obtain ⟨p, l, cp, hsl⟩ := ex_sl he
  have HLE := Lib.hid (exprL_b hn ho hr)
  have HO := Lib.hid ho; clear ho
  have HA := Lib.hid he; clear he
  have HR := Lib.hid hr; clear hr
  have IH := Lib.hid ih; clear ih
  rw [hsl]
  have HSL := Lib.hid hsl; clear hsl
  cases b
  · have HS := Lib.hid (show sideL (exprL d e) false = exprL d e from rfl)
    go_enter Tryd.func72, Tryd.ntmps72
    go_wp2_with fail
    rw [← HSL.out]
    refine (IH.out e n _ hn HO.out (HA.out.up (below_alloc _ _) d e) HR.out).mono ?_
    rintro r w1 ⟨rfl, hb⟩
    have Hb := Lib.hid hb; clear hb
    go_wp2_with fail
    go_ret
    exact ⟨ret_str (by rw [HS.out]), (below_alloc _ _).trans (Hb.out.mono (by simp))⟩
  · have HS := Lib.hid (show sideL (exprL d e) true = 40 :: (exprL d e ++ [41]) from rfl)
    go_enter Tryd.func72, Tryd.ntmps72
    go_wp2_with fail
    rw [← HSL.out]
    refine (IH.out e n _ hn HO.out (HA.out.up (below_alloc _ _) d e) HR.out).mono ?_
    rintro r w1 ⟨rfl, hb⟩
    have Hb := Lib.hid hb; clear hb
    obtain ⟨s, hs⟩ : ∃ s : ByteArray, s = ⟨(exprL d e).toArray⟩ := ⟨_, rfl⟩
    have hsz : s.size ≤ 207352 := by rw [hs]; simpa [ByteArray.size] using HLE.out
    have HSB := Lib.hid (show bl s = exprL d e by rw [hs])
    rw [← hs]
    clear hs
    go_wp2_with fail
    go_ret
    exact ⟨ret_bytes (by rw [HS.out, bl_cat, bl_cat, HSB.out]; rfl), (below_alloc _ _).trans (Hb.out.mono (by simp))⟩
end Go.Proofs.YtlghiakckkhekaaDoor
