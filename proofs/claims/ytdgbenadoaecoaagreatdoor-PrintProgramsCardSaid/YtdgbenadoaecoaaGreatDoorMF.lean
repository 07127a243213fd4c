/- The contracts of the reference's Expr. Conditions: each part says its own. -/
import Derived.Test.YtdgbenadoaecoaaGreatDoorME
import Derived.StillTailTactics
import Derived.Deep.RegionHeld3
import Derived.Deep.Cut
import Derived.Deep.CutRange
import Derived.BigQuiet
/- The contracts of the reference's Fast, sign, word and within. Conditions: the operation is one; the expression lies in memory as it is told. -/
namespace Go.Proofs.YtdgbenadoaecoaaGreatDoor
open Go.RowKit

theorem ops11 {op : Int} (h0 : 0 ≤ op) (h1 : op ≤ 10) : op = 0 ∨ op = 1 ∨ op = 2 ∨ op = 3 ∨ op = 4 ∨ op = 5 ∨ op = 6 ∨ op = 7 ∨ op = 8 ∨ op = 9 ∨ op = 10 := by omega
set_option maxHeartbeats 1000000 in
theorem rFast (op : Int) (v : ByteArray) (k n : Int) (t : ByteArray) (p : Option Addr) (l c : Nat) (w : World) (h0 : 0 ≤ op) (h1 : op ≤ 10) :
    Calls Tryz.prog 105 #[.agg #[.int .i8 op, .string v, .int .i8 k, .int .i64 n, .string t, .slice p l c]] w fun e w' => e = .returned (.int .i64 (holdI op)) ∧ Below w.heap.size w w' := by
  have hop := ops11 h0 h1
  clear h0 h1
  rcases hop with rfl | rfl | rfl | rfl | rfl | rfl | rfl | rfl | rfl | rfl | rfl
  all_goals
    go_enter Tryz.func105, Tryz.ntmps105
    go_wp2_with fail
    go_ret
    exact ⟨rfl, below_alloc _ _⟩
theorem rSignS (op : Int) (w : World) (h0 : 2 ≤ op) (h1 : op ≤ 7) :
    Calls Tryz.prog 106 #[.int .i8 op] w fun e w' => e = .returned (.string (signL.getD op.toNat ⟨#[]⟩)) ∧ w = w' := by
  have hop : op = 2 ∨ op = 3 ∨ op = 4 ∨ op = 5 ∨ op = 6 ∨ op = 7 := by omega
  clear h0 h1
  rcases hop with rfl | rfl | rfl | rfl | rfl | rfl
  all_goals
    go_enter Tryz.func106, Tryz.ntmps106
    go_wp2_with fail
    go_ret
    exact ⟨rfl, rfl⟩
theorem rWordS (op : Int) (w : World) (h0 : 8 ≤ op) (h1 : op ≤ 10) :
    Calls Tryz.prog 103 #[.int .i8 op] w fun e w' => e = .returned (.string (wordL.getD op.toNat ⟨#[]⟩)) ∧ w = w' := by
  have hop : op = 8 ∨ op = 9 ∨ op = 10 := by omega
  clear h0 h1
  rcases hop with rfl | rfl | rfl
  all_goals
    go_enter Tryz.func103, Tryz.ntmps103
    go_wp2_with fail
    go_ret
    exact ⟨rfl, rfl⟩
/-- What the reference's expr is known to do at expressions of a depth up to d. -/
def RefAt (d : Nat) : Prop := ∀ (e : Ex d) (n : Nat) (w : World), n ≤ 8 → exOk n d e = true → ExAt w d e → ExR d e →
  Calls Tryz.prog 71 #[.agg #[.int .i8 (exOp d e), .string (exTm d e).v, .int .i8 (exTm d e).x.k, .int .i64 (exTm d e).x.n, .string (exTm d e).x.t, exSl d e]] w fun r w' =>
    r = .returned (.string ⟨(exprL d e).toArray⟩) ∧ Below w.heap.size w w'
theorem bl_cat (a b : ByteArray) : bl (a ++ b) = bl a ++ bl b := by simp [bl]
theorem exprL_b {n d : Nat} {e : Ex d} (hn : n ≤ 8) (h : exOk n d e = true) (hr : ExR d e) : (exprL d e).length ≤ 207352 := by
  have h1 := exprL_le n d e h hr
  have h2 : 2 ^ n ≤ 2 ^ 8 := Nat.pow_le_pow_right (by omega) hn
  omega
set_option maxHeartbeats 1000000 in
theorem rWithin (d : Nat) (ih : RefAt d) (e : Ex d) (n : Nat) (b : Bool) (w : World) (hn : n ≤ 8) (ho : exOk n d e = true) (he : ExAt w d e) (hr : ExR d e) :
    Calls Tryz.prog 104 #[.agg #[.int .i8 (exOp d e), .string (exTm d e).v, .int .i8 (exTm d e).x.k, .int .i64 (exTm d e).x.n, .string (exTm d e).x.t, exSl d e], .bool b] w fun r w' =>
      r = .returned (.string ⟨(sideL (exprL d e) b).toArray⟩) ∧ Below w.heap.size w w' := by
  obtain ⟨p, l, cp, hsl⟩ := ex_sl he
  have HLE := Lib.hid (exprL_b hn ho hr)
  have HO := Lib.hid ho; clear ho
  have HA := Lib.hid he; clear he
  have HR := Lib.hid hr; clear hr
  have IH := Lib.hid ih; clear ih
  rw [hsl]
  have HSL := Lib.hid hsl; clear hsl
  cases b
  · have HS := Lib.hid (show sideL (exprL d e) false = exprL d e from rfl)
    go_enter Tryz.func104, Tryz.ntmps104
    go_wp2_with fail
    rw [← HSL.out]
    refine (IH.out e n _ hn HO.out (HA.out.up (below_alloc _ _) d e) HR.out).mono ?_
    rintro r w1 ⟨rfl, hb⟩
    have Hb := Lib.hid hb; clear hb
    go_wp2_with fail
    go_ret
    exact ⟨ret_str (by rw [HS.out]), (below_alloc _ _).trans (Hb.out.mono (by simp))⟩
  · have HS := Lib.hid (show sideL (exprL d e) true = 40 :: (exprL d e ++ [41]) from rfl)
    go_enter Tryz.func104, Tryz.ntmps104
    go_wp2_with fail
    rw [← HSL.out]
    refine (IH.out e n _ hn HO.out (HA.out.up (below_alloc _ _) d e) HR.out).mono ?_
    rintro r w1 ⟨rfl, hb⟩
    have Hb := Lib.hid hb; clear hb
    obtain ⟨s, hs⟩ : ∃ s : ByteArray, s = ⟨(exprL d e).toArray⟩ := ⟨_, rfl⟩
    have hsz : s.size ≤ 207352 := by rw [hs]; simpa [ByteArray.size] using HLE.out
    have HSB := Lib.hid (show bl s = exprL d e by rw [hs])
    rw [← hs]
    clear hs
    go_wp2_with fail
    go_ret
    exact ⟨ret_bytes (by rw [HS.out, bl_cat, bl_cat, HSB.out]; rfl), (below_alloc _ _).trans (Hb.out.mono (by simp))⟩
end Go.Proofs.YtdgbenadoaecoaaGreatDoor

/- The contract of the reference's expr, by its cases: a term, a word, a minus. Conditions: the expression lies in memory as it is told. -/
namespace Go.Proofs.YtdgbenadoaecoaaGreatDoor
open Go.RowKit

set_option maxHeartbeats 1000000 in
theorem eTerm (v : ByteArray) (k x : Int) (t : ByteArray) (p : Option Addr) (l c : Nat) (w : World) (hr : TmR v k x t) :
    Calls Tryz.prog 71 #[.agg #[.int .i8 0, .string v, .int .i8 k, .int .i64 x, .string t, .slice p l c]] w fun r w' =>
      r = .returned (.string ⟨(termL ⟨v, ⟨k, x, t⟩⟩).toArray⟩) ∧ Below w.heap.size w w' := by
  have HR := Lib.hid hr; clear hr
  go_enter Tryz.func71, Tryz.ntmps71
  go_wp2_with fail
  refine (rText v k x t _ HR.out).mono ?_
  rintro r w1 ⟨rfl, hb⟩
  have Hb := Lib.hid hb; clear hb
  go_wp2_with fail
  go_ret
  exact ⟨rfl, (below_alloc _ _).trans (Hb.out.mono (by simp))⟩
set_option maxHeartbeats 4000000 in
set_option maxRecDepth 100000 in
theorem eWord (d : Nat) (ih : RefAt d) (e : Ex d) (n a o cap : Nat) (op : Int) (v : ByteArray) (k x : Int) (t : ByteArray) (w : World) (h8 : 8 ≤ op) (h10 : op ≤ 10) (hn : n ≤ 8)
    (ho : exOk n d e = true) (ha : a < w.heap.size) (hc : ExCell w a o (exOp d e) (exTm d e) (exSl d e)) (he : ExAt w d e) (hr : ExR d e) :
    Calls Tryz.prog 71 #[.agg #[.int .i8 op, .string v, .int .i8 k, .int .i64 x, .string t, .slice (some ⟨a, o, none⟩) 1 cap]] w fun r w' =>
      r = .returned (.string ⟨(bl (wordL.getD op.toNat ⟨#[]⟩) ++ sideL (exprL d e) true).toArray⟩) ∧ Below w.heap.size w w' := by
  have HLE := Lib.hid (exprL_b hn ho hr)
  have HO := Lib.hid ho; clear ho
  have HA := Lib.hid he; clear he
  have HR := Lib.hid hr; clear hr
  have IH := Lib.hid ih; clear ih
  have HC := Lib.hid hc; clear hc
  obtain ⟨wd, hwde⟩ : ∃ wd, wd = wordL.getD op.toNat ⟨#[]⟩ := ⟨_, rfl⟩
  have hwl : wd.size ≤ 5 := by
    have := word_len op.toNat (by omega)
    rw [← hwde] at this
    rw [size_bl] at *
    exact this
  have HWD := Lib.hid hwde
  rw [← hwde]
  clear hwde
  have HS := Lib.hid (show sideL (exprL d e) true = 40 :: (exprL d e ++ [41]) from rfl)
  obtain ⟨W, hW⟩ : ∃ W, W = w.alloc (.cells #[.int .i8 op, .string v, .int .i8 k, .int .i64 x, .string t, .slice (some ⟨a, o, none⟩) 1 cap] 60) := ⟨_, rfl⟩
  have HBW := Lib.hid (show Below w.heap.size w W by rw [hW]; exact below_alloc _ _)
  have hsW : W.heap.size = w.heap.size + 1 := by rw [hW]; simp
  have hbx0 : W.heap[w.heap.size]? = some (.cells #[.int .i8 op, .string v, .int .i8 k, .int .i64 x, .string t, .slice (some ⟨a, o, none⟩) 1 cap] 60 (0, 0)) := by rw [hW]; exact heap_alloc_new w _
  obtain ⟨x0, x1, x2, x3, x4, x5⟩ := six hbx0
  clear hbx0
  obtain ⟨c0, c1, c2, c3, c4, c5⟩ := HC.out.up HBW.out ha
  have q0 : (op == 0) = false := beq_eq_false_iff_ne.2 (by omega)
  have hop : op = 8 ∨ op = 9 ∨ op = 10 := by omega
  go_enter Tryz.func71, Tryz.ntmps71
  rcases hop with rfl | rfl | rfl
  all_goals
    go_wp2_with fail
    rw [← hW]
    clear hW
    have hbk : w.heap.size < W.heap.size := by omega
    have haW : a < W.heap.size := by omega
    have hcat : ¬ 9223372036854775807 < wd.size + 1 := by omega
    go_region_held3 (fun w' => w'.cell? ⟨w.heap.size, 0, none⟩ = W.cell? ⟨w.heap.size, 0, none⟩ ∧ w'.cell? ⟨w.heap.size, 5, none⟩ = W.cell? ⟨w.heap.size, 5, none⟩ ∧ w'.cell? ⟨a, o, none⟩ = W.cell? ⟨a, o, none⟩ ∧ w'.cell? ⟨a, o + 1, none⟩ = W.cell? ⟨a, o + 1, none⟩ ∧
        w'.cell? ⟨a, o + 2, none⟩ = W.cell? ⟨a, o + 2, none⟩ ∧ w'.cell? ⟨a, o + 3, none⟩ = W.cell? ⟨a, o + 3, none⟩ ∧ w'.cell? ⟨a, o + 4, none⟩ = W.cell? ⟨a, o + 4, none⟩ ∧ w'.cell? ⟨a, o + 5, none⟩ = W.cell? ⟨a, o + 5, none⟩)
      (first | exact ⟨rfl, rfl, rfl, rfl, rfl, rfl, rfl, rfl⟩ | exact ⟨Hb.out.cell hbk, Hb.out.cell hbk, Hb.out.cell haW, Hb.out.cell haW, Hb.out.cell haW, Hb.out.cell haW, Hb.out.cell haW, Hb.out.cell haW⟩)
      (first
        | (go_at_call 103
           refine (rWordS _ _ h8 h10).mono ?_
           rintro r w2 ⟨rfl, rfl⟩
           rw [← HWD.out])
        | (go_at_call 71
           refine (IH.out e n _ hn HO.out ?_ HR.out).mono ?_
           · exact HA.out.up HBW.out.drew d e
           rintro r w1 ⟨rfl, hb⟩
           have Hb := Lib.hid (show Below W.heap.size W w1 from ⟨hb.os, hb.tape, hb.output, hb.size, hb.block⟩)
           clear hb
           obtain ⟨s, hs⟩ : ∃ s : ByteArray, s = ⟨(exprL d e).toArray⟩ := ⟨_, rfl⟩
           have hsz : s.size ≤ 207352 := by rw [hs]; simpa [ByteArray.size] using HLE.out
           have hcat2 : ¬ 9223372036854775807 < wd.size + 1 + s.size := by omega
           have hcat3 : ¬ 9223372036854775807 < wd.size + 1 + s.size + 1 := by omega
           have HSB := Lib.hid (show bl s = exprL d e by rw [hs])
           rw [← hs]
           clear hs))
    all_goals
      clear x0 x1 x2 x3 x4 x5 c0 c1 c2 c3 c4 c5
      go_wp2_with fail
      go_ret
      exact ⟨ret_bytes (by rw [HS.out, bl_cat, bl_cat, bl_cat, HSB.out]; simp [bl]), HBW.out.trans (Hb.out.mono (by omega))⟩
end Go.Proofs.YtdgbenadoaecoaaGreatDoor

/- The contract of the reference's expr at a minus. Conditions: the expression lies in memory as it is told. -/
namespace Go.Proofs.YtdgbenadoaecoaaGreatDoor
open Go.RowKit

theorem Below.here {w w' : World} {B : Nat} {W : World} (h : Below w.heap.size w w') (hs : w.heap.size = B) (hh : ∀ k, k < B → w.heap[k]? = W.heap[k]?) (h1 : w.os = W.os) (h2 : w.tape = W.tape) (h3 : w.output = W.output) (h4 : W.heap.size ≤ w.heap.size) : Below B W w' :=
  ⟨h.os.trans h1, h.tape.trans h2, h.output.trans h3, Nat.le_trans h4 h.size, fun k hk => (h.block k (by omega)).trans (hh k hk)⟩
set_option maxHeartbeats 8000000 in
set_option maxRecDepth 100000 in
theorem eNeg (d : Nat) (ih : RefAt d) (e : Ex d) (n a o cap : Nat) (v : ByteArray) (k x : Int) (t : ByteArray) (w : World) (hn : n ≤ 8)
    (ho : exOk n d e = true) (ha : a < w.heap.size) (hc : ExCell w a o (exOp d e) (exTm d e) (exSl d e)) (he : ExAt w d e) (hr : ExR d e) :
    Calls Tryz.prog 71 #[.agg #[.int .i8 1, .string v, .int .i8 k, .int .i64 x, .string t, .slice (some ⟨a, o, none⟩) 1 cap]] w fun r w' =>
      r = .returned (.string ⟨(45 :: sideL (exprL d e) (negB (exOp d e) (exTm d e))).toArray⟩) ∧ Below w.heap.size w w' := by
  obtain ⟨r1, r2⟩ := op_range ho
  have HLE := Lib.hid (exprL_b hn ho hr)
  have HO := Lib.hid ho; clear ho
  have HA := Lib.hid he
  have HR := Lib.hid hr; clear hr
  have IH := Lib.hid ih; clear ih
  obtain ⟨p, l, cp, hsl⟩ := ex_sl he
  clear he
  have r3 : exOp d e < 11 := by omega
  obtain ⟨c0, c1, c2, c3, c4, c5⟩ := hc
  rw [hsl] at c5
  have HSL := Lib.hid hsl; clear hsl
  obtain ⟨W, hW⟩ : ∃ W, W = (w.alloc (.cells #[.int .i8 1, .string v, .int .i8 k, .int .i64 x, .string t, .slice (some ⟨a, o, none⟩) 1 cap] 60)).alloc (.cells #[.int .i8 (exOp d e), .string (exTm d e).v, .int .i8 (exTm d e).x.k, .int .i64 (exTm d e).x.n, .string (exTm d e).x.t, .slice p l cp] 60) := ⟨_, rfl⟩
  have HBW := Lib.hid (show Below w.heap.size w W by rw [hW]; exact (below_alloc _ _).trans ((below_alloc _ _).mono (by simp)))
  have hsW : W.heap.size = w.heap.size + 1 + 1 := by rw [hW]; simp
  have hbx0 : W.heap[w.heap.size + 1]? = some (.cells #[.int .i8 (exOp d e), .string (exTm d e).v, .int .i8 (exTm d e).x.k, .int .i64 (exTm d e).x.n, .string (exTm d e).x.t, .slice p l cp] 60 (0, 0)) := by rw [hW]; simpa using heap_alloc_new (w.alloc _) _
  obtain ⟨y0, y1, y2, y3, y4, y5⟩ := six hbx0
  clear hbx0
  have HN0 := Lib.hid (show negB (exOp d e) (exTm d e) = (decide (holdI (exOp d e) < 3) || (exOp d e == 0 && (exTm d e).v.toList.isEmpty && (exTm d e).x.k == 1 && decide (0 ≤ (exTm d e).x.n))) by unfold negB bl; rw [← ByteArray.toList_eq]; rfl)
  have hbk : w.heap.size + 1 < W.heap.size := by omega
  rcases hB : (exOp d e == 0) with _ | _
  case false =>
    rcases hA : decide (holdI (exOp d e) < 3) with _ | _
    case false =>
      have HN := Lib.hid (show negB (exOp d e) (exTm d e) = false by rw [HN0.out, hA, hB]; rfl)
      go_enter Tryz.func71, Tryz.ntmps71
      go_wp2_with fail
      rw [← hW]
      clear hW
      go_region_held3 (fun w' => w'.cell? ⟨w.heap.size + 1, 0, none⟩ = W.cell? ⟨w.heap.size + 1, 0, none⟩ ∧ w'.cell? ⟨w.heap.size + 1, 1, none⟩ = W.cell? ⟨w.heap.size + 1, 1, none⟩ ∧ w'.cell? ⟨w.heap.size + 1, 2, none⟩ = W.cell? ⟨w.heap.size + 1, 2, none⟩ ∧ w'.cell? ⟨w.heap.size + 1, 3, none⟩ = W.cell? ⟨w.heap.size + 1, 3, none⟩ ∧ w'.cell? ⟨w.heap.size + 1, 4, none⟩ = W.cell? ⟨w.heap.size + 1, 4, none⟩ ∧ w'.cell? ⟨w.heap.size + 1, 5, none⟩ = W.cell? ⟨w.heap.size + 1, 5, none⟩)
        (first | exact ⟨rfl, rfl, rfl, rfl, rfl, rfl⟩ | exact ⟨Hb2.out.cell hbk, Hb2.out.cell hbk, Hb2.out.cell hbk, Hb2.out.cell hbk, Hb2.out.cell hbk, Hb2.out.cell hbk⟩ | exact ⟨Hb.out.cell hbk, Hb.out.cell hbk, Hb.out.cell hbk, Hb.out.cell hbk, Hb.out.cell hbk, Hb.out.cell hbk⟩)
        (first
          | (go_at_call 105
             refine (rFast _ _ _ _ _ _ _ _ _ r1 r2).mono ?_
             rintro r w1 ⟨rfl, hb⟩
             have Hb := Lib.hid (show Below W.heap.size W w1 from ⟨hb.os, hb.tape, hb.output, hb.size, hb.block⟩)
             clear hb)
          | (go_at_call 104
             rw [← HSL.out]
             refine (rWithin d IH.out e n _ _ hn HO.out ?_ HR.out).mono ?_
             · exact HA.out.up (HBW.out.trans (Hb.out.mono (by omega))) d e
             rintro r w2 ⟨rfl, hb2⟩
             have Hb2 := Lib.hid (Hb.out.trans (hb2.mono Hb.out.size))
             clear hb2
             obtain ⟨s, hs⟩ : ∃ s : ByteArray, s = ⟨(sideL (exprL d e) false).toArray⟩ := ⟨_, rfl⟩
             have hsz : s.size ≤ 207354 := by
               rw [hs]
               have h1 := sideL_le (exprL d e) false
               have h2 := HLE.out
               simp [ByteArray.size]
               omega
             have hcat : ¬ 9223372036854775807 < 1 + s.size := by omega
             have HSB := Lib.hid (show bl s = sideL (exprL d e) false by rw [hs])
             rw [← hs]
             clear hs))
      clear y0 y1 y2 y3 y4 y5 c0 c1 c2 c3 c4 c5
      go_wp2_with fail
      go_ret
      exact ⟨ret_bytes (by rw [HN.out, bl_cat, HSB.out]; rfl), HBW.out.trans (Hb2.out.mono (by omega))⟩
    case true =>
      have HN := Lib.hid (show negB (exOp d e) (exTm d e) = true by rw [HN0.out, hA]; rfl)
      go_enter Tryz.func71, Tryz.ntmps71
      go_wp2_with fail
      rw [← hW]
      clear hW
      first | go_region_with (first
          | (go_at_call 105
             refine (rFast _ _ _ _ _ _ _ _ _ r1 r2).mono ?_
             rintro r w1 ⟨rfl, hb⟩
             have Hb := Lib.hid (show Below W.heap.size W w1 from ⟨hb.os, hb.tape, hb.output, hb.size, hb.block⟩)
             clear hb
             have z0 := (Hb.out.cell (p := ⟨w.heap.size + 1, 0, none⟩) hbk).trans y0
             have z1 := (Hb.out.cell (p := ⟨w.heap.size + 1, 1, none⟩) hbk).trans y1
             have z2 := (Hb.out.cell (p := ⟨w.heap.size + 1, 2, none⟩) hbk).trans y2
             have z3 := (Hb.out.cell (p := ⟨w.heap.size + 1, 3, none⟩) hbk).trans y3
             have z4 := (Hb.out.cell (p := ⟨w.heap.size + 1, 4, none⟩) hbk).trans y4
             have z5 := (Hb.out.cell (p := ⟨w.heap.size + 1, 5, none⟩) hbk).trans y5)
          | (go_at_call 104
             rw [← HSL.out]
             refine (rWithin d IH.out e n _ _ hn HO.out ?_ HR.out).mono ?_
             · exact HA.out.up (HBW.out.trans (Hb.out.mono (by omega))) d e
             rintro r w2 ⟨rfl, hb2⟩
             have Hb2 := Lib.hid (Hb.out.trans (hb2.mono Hb.out.size))
             clear hb2
             obtain ⟨s, hs⟩ : ∃ s : ByteArray, s = ⟨(sideL (exprL d e) true).toArray⟩ := ⟨_, rfl⟩
             have hsz : s.size ≤ 207354 := by
               rw [hs]
               have h1 := sideL_le (exprL d e) true
               have h2 := HLE.out
               simp [ByteArray.size]
               omega
             have hcat : ¬ 9223372036854775807 < 1 + s.size := by omega
             have HSB := Lib.hid (show bl s = sideL (exprL d e) true by rw [hs])
             rw [← hs]
             clear hs)) | fail
      all_goals
        clear y0 y1 y2 y3 y4 y5 c0 c1 c2 c3 c4 c5
        go_wp2_with fail
        go_ret
        exact ⟨ret_bytes (by rw [HN.out, bl_cat, HSB.out]; rfl), HBW.out.trans (Hb2.out.mono (by omega))⟩
  rcases hC : (exTm d e).v.toList.isEmpty with _ | _
  case false =>
    rcases hA : decide (holdI (exOp d e) < 3) with _ | _
    case false =>
      have HN := Lib.hid (show negB (exOp d e) (exTm d e) = false by rw [HN0.out, hA, hB, hC]; rfl)
      go_enter Tryz.func71, Tryz.ntmps71
      go_wp2_with fail
      rw [← hW]
      clear hW
      go_region_held3 (fun w' => w'.cell? ⟨w.heap.size + 1, 0, none⟩ = W.cell? ⟨w.heap.size + 1, 0, none⟩ ∧ w'.cell? ⟨w.heap.size + 1, 1, none⟩ = W.cell? ⟨w.heap.size + 1, 1, none⟩ ∧ w'.cell? ⟨w.heap.size + 1, 2, none⟩ = W.cell? ⟨w.heap.size + 1, 2, none⟩ ∧ w'.cell? ⟨w.heap.size + 1, 3, none⟩ = W.cell? ⟨w.heap.size + 1, 3, none⟩ ∧ w'.cell? ⟨w.heap.size + 1, 4, none⟩ = W.cell? ⟨w.heap.size + 1, 4, none⟩ ∧ w'.cell? ⟨w.heap.size + 1, 5, none⟩ = W.cell? ⟨w.heap.size + 1, 5, none⟩)
        (first | exact ⟨rfl, rfl, rfl, rfl, rfl, rfl⟩ | exact ⟨Hb2.out.cell hbk, Hb2.out.cell hbk, Hb2.out.cell hbk, Hb2.out.cell hbk, Hb2.out.cell hbk, Hb2.out.cell hbk⟩ | exact ⟨Hb.out.cell hbk, Hb.out.cell hbk, Hb.out.cell hbk, Hb.out.cell hbk, Hb.out.cell hbk, Hb.out.cell hbk⟩)
        (first
          | (go_at_call 105
             refine (rFast _ _ _ _ _ _ _ _ _ r1 r2).mono ?_
             rintro r w1 ⟨rfl, hb⟩
             have Hb := Lib.hid (show Below W.heap.size W w1 from ⟨hb.os, hb.tape, hb.output, hb.size, hb.block⟩)
             clear hb)
          | (go_at_call 104
             rw [← HSL.out]
             refine (rWithin d IH.out e n _ _ hn HO.out ?_ HR.out).mono ?_
             · exact HA.out.up (HBW.out.trans (Hb.out.mono (by omega))) d e
             rintro r w2 ⟨rfl, hb2⟩
             have Hb2 := Lib.hid (Hb.out.trans (hb2.mono Hb.out.size))
             clear hb2
             obtain ⟨s, hs⟩ : ∃ s : ByteArray, s = ⟨(sideL (exprL d e) false).toArray⟩ := ⟨_, rfl⟩
             have hsz : s.size ≤ 207354 := by
               rw [hs]
               have h1 := sideL_le (exprL d e) false
               have h2 := HLE.out
               simp [ByteArray.size]
               omega
             have hcat : ¬ 9223372036854775807 < 1 + s.size := by omega
             have HSB := Lib.hid (show bl s = sideL (exprL d e) false by rw [hs])
             rw [← hs]
             clear hs))
      clear y0 y1 y2 y3 y4 y5 c0 c1 c2 c3 c4 c5
      go_wp2_with fail
      go_ret
      exact ⟨ret_bytes (by rw [HN.out, bl_cat, HSB.out]; rfl), HBW.out.trans (Hb2.out.mono (by omega))⟩
    case true =>
      have HN := Lib.hid (show negB (exOp d e) (exTm d e) = true by rw [HN0.out, hA]; rfl)
      go_enter Tryz.func71, Tryz.ntmps71
      go_wp2_with fail
      rw [← hW]
      clear hW
      first | go_region_with (first
          | (go_at_call 105
             refine (rFast _ _ _ _ _ _ _ _ _ r1 r2).mono ?_
             rintro r w1 ⟨rfl, hb⟩
             have Hb := Lib.hid (show Below W.heap.size W w1 from ⟨hb.os, hb.tape, hb.output, hb.size, hb.block⟩)
             clear hb
             have z0 := (Hb.out.cell (p := ⟨w.heap.size + 1, 0, none⟩) hbk).trans y0
             have z1 := (Hb.out.cell (p := ⟨w.heap.size + 1, 1, none⟩) hbk).trans y1
             have z2 := (Hb.out.cell (p := ⟨w.heap.size + 1, 2, none⟩) hbk).trans y2
             have z3 := (Hb.out.cell (p := ⟨w.heap.size + 1, 3, none⟩) hbk).trans y3
             have z4 := (Hb.out.cell (p := ⟨w.heap.size + 1, 4, none⟩) hbk).trans y4
             have z5 := (Hb.out.cell (p := ⟨w.heap.size + 1, 5, none⟩) hbk).trans y5)
          | (go_at_call 104
             rw [← HSL.out]
             refine (rWithin d IH.out e n _ _ hn HO.out ?_ HR.out).mono ?_
             · exact HA.out.up (HBW.out.trans (Hb.out.mono (by omega))) d e
             rintro r w2 ⟨rfl, hb2⟩
             have Hb2 := Lib.hid (Hb.out.trans (hb2.mono Hb.out.size))
             clear hb2
             obtain ⟨s, hs⟩ : ∃ s : ByteArray, s = ⟨(sideL (exprL d e) true).toArray⟩ := ⟨_, rfl⟩
             have hsz : s.size ≤ 207354 := by
               rw [hs]
               have h1 := sideL_le (exprL d e) true
               have h2 := HLE.out
               simp [ByteArray.size]
               omega
             have hcat : ¬ 9223372036854775807 < 1 + s.size := by omega
             have HSB := Lib.hid (show bl s = sideL (exprL d e) true by rw [hs])
             rw [← hs]
             clear hs)) | fail
      all_goals
        clear y0 y1 y2 y3 y4 y5 c0 c1 c2 c3 c4 c5
        go_wp2_with fail
        go_ret
        exact ⟨ret_bytes (by rw [HN.out, bl_cat, HSB.out]; rfl), HBW.out.trans (Hb2.out.mono (by omega))⟩
  rcases hD : ((exTm d e).x.k == 1) with _ | _
  case false =>
    rcases hA : decide (holdI (exOp d e) < 3) with _ | _
    case false =>
      have HN := Lib.hid (show negB (exOp d e) (exTm d e) = false by rw [HN0.out, hA, hB, hC, hD]; rfl)
      go_enter Tryz.func71, Tryz.ntmps71
      go_wp2_with fail
      rw [← hW]
      clear hW
      go_region_held3 (fun w' => w'.cell? ⟨w.heap.size + 1, 0, none⟩ = W.cell? ⟨w.heap.size + 1, 0, none⟩ ∧ w'.cell? ⟨w.heap.size + 1, 1, none⟩ = W.cell? ⟨w.heap.size + 1, 1, none⟩ ∧ w'.cell? ⟨w.heap.size + 1, 2, none⟩ = W.cell? ⟨w.heap.size + 1, 2, none⟩ ∧ w'.cell? ⟨w.heap.size + 1, 3, none⟩ = W.cell? ⟨w.heap.size + 1, 3, none⟩ ∧ w'.cell? ⟨w.heap.size + 1, 4, none⟩ = W.cell? ⟨w.heap.size + 1, 4, none⟩ ∧ w'.cell? ⟨w.heap.size + 1, 5, none⟩ = W.cell? ⟨w.heap.size + 1, 5, none⟩)
        (first | exact ⟨rfl, rfl, rfl, rfl, rfl, rfl⟩ | exact ⟨Hb2.out.cell hbk, Hb2.out.cell hbk, Hb2.out.cell hbk, Hb2.out.cell hbk, Hb2.out.cell hbk, Hb2.out.cell hbk⟩ | exact ⟨Hb.out.cell hbk, Hb.out.cell hbk, Hb.out.cell hbk, Hb.out.cell hbk, Hb.out.cell hbk, Hb.out.cell hbk⟩)
        (first
          | (go_at_call 105
             refine (rFast _ _ _ _ _ _ _ _ _ r1 r2).mono ?_
             rintro r w1 ⟨rfl, hb⟩
             have Hb := Lib.hid (show Below W.heap.size W w1 from ⟨hb.os, hb.tape, hb.output, hb.size, hb.block⟩)
             clear hb)
          | (go_at_call 104
             rw [← HSL.out]
             refine (rWithin d IH.out e n _ _ hn HO.out ?_ HR.out).mono ?_
             · exact HA.out.up (HBW.out.trans (Hb.out.mono (by omega))) d e
             rintro r w2 ⟨rfl, hb2⟩
             have Hb2 := Lib.hid (Hb.out.trans (hb2.mono Hb.out.size))
             clear hb2
             obtain ⟨s, hs⟩ : ∃ s : ByteArray, s = ⟨(sideL (exprL d e) false).toArray⟩ := ⟨_, rfl⟩
             have hsz : s.size ≤ 207354 := by
               rw [hs]
               have h1 := sideL_le (exprL d e) false
               have h2 := HLE.out
               simp [ByteArray.size]
               omega
             have hcat : ¬ 9223372036854775807 < 1 + s.size := by omega
             have HSB := Lib.hid (show bl s = sideL (exprL d e) false by rw [hs])
             rw [← hs]
             clear hs))
      clear y0 y1 y2 y3 y4 y5 c0 c1 c2 c3 c4 c5
      go_wp2_with fail
      go_ret
      exact ⟨ret_bytes (by rw [HN.out, bl_cat, HSB.out]; rfl), HBW.out.trans (Hb2.out.mono (by omega))⟩
    case true =>
      have HN := Lib.hid (show negB (exOp d e) (exTm d e) = true by rw [HN0.out, hA]; rfl)
      go_enter Tryz.func71, Tryz.ntmps71
      go_wp2_with fail
      rw [← hW]
      clear hW
      first | go_region_with (first
          | (go_at_call 105
             refine (rFast _ _ _ _ _ _ _ _ _ r1 r2).mono ?_
             rintro r w1 ⟨rfl, hb⟩
             have Hb := Lib.hid (show Below W.heap.size W w1 from ⟨hb.os, hb.tape, hb.output, hb.size, hb.block⟩)
             clear hb
             have z0 := (Hb.out.cell (p := ⟨w.heap.size + 1, 0, none⟩) hbk).trans y0
             have z1 := (Hb.out.cell (p := ⟨w.heap.size + 1, 1, none⟩) hbk).trans y1
             have z2 := (Hb.out.cell (p := ⟨w.heap.size + 1, 2, none⟩) hbk).trans y2
             have z3 := (Hb.out.cell (p := ⟨w.heap.size + 1, 3, none⟩) hbk).trans y3
             have z4 := (Hb.out.cell (p := ⟨w.heap.size + 1, 4, none⟩) hbk).trans y4
             have z5 := (Hb.out.cell (p := ⟨w.heap.size + 1, 5, none⟩) hbk).trans y5)
          | (go_at_call 104
             rw [← HSL.out]
             refine (rWithin d IH.out e n _ _ hn HO.out ?_ HR.out).mono ?_
             · exact HA.out.up (HBW.out.trans (Hb.out.mono (by omega))) d e
             rintro r w2 ⟨rfl, hb2⟩
             have Hb2 := Lib.hid (Hb.out.trans (hb2.mono Hb.out.size))
             clear hb2
             obtain ⟨s, hs⟩ : ∃ s : ByteArray, s = ⟨(sideL (exprL d e) true).toArray⟩ := ⟨_, rfl⟩
             have hsz : s.size ≤ 207354 := by
               rw [hs]
               have h1 := sideL_le (exprL d e) true
               have h2 := HLE.out
               simp [ByteArray.size]
               omega
             have hcat : ¬ 9223372036854775807 < 1 + s.size := by omega
             have HSB := Lib.hid (show bl s = sideL (exprL d e) true by rw [hs])
             rw [← hs]
             clear hs)) | fail
      all_goals
        clear y0 y1 y2 y3 y4 y5 c0 c1 c2 c3 c4 c5
        go_wp2_with fail
        go_ret
        exact ⟨ret_bytes (by rw [HN.out, bl_cat, HSB.out]; rfl), HBW.out.trans (Hb2.out.mono (by omega))⟩
  rcases hE : decide (0 ≤ (exTm d e).x.n) with _ | _
  case false =>
    rcases hA : decide (holdI (exOp d e) < 3) with _ | _
    case false =>
      have HN := Lib.hid (show negB (exOp d e) (exTm d e) = false by rw [HN0.out, hA, hB, hC, hD, hE]; rfl)
      go_enter Tryz.func71, Tryz.ntmps71
      go_wp2_with fail
      rw [← hW]
      clear hW
      go_region_held3 (fun w' => w'.cell? ⟨w.heap.size + 1, 0, none⟩ = W.cell? ⟨w.heap.size + 1, 0, none⟩ ∧ w'.cell? ⟨w.heap.size + 1, 1, none⟩ = W.cell? ⟨w.heap.size + 1, 1, none⟩ ∧ w'.cell? ⟨w.heap.size + 1, 2, none⟩ = W.cell? ⟨w.heap.size + 1, 2, none⟩ ∧ w'.cell? ⟨w.heap.size + 1, 3, none⟩ = W.cell? ⟨w.heap.size + 1, 3, none⟩ ∧ w'.cell? ⟨w.heap.size + 1, 4, none⟩ = W.cell? ⟨w.heap.size + 1, 4, none⟩ ∧ w'.cell? ⟨w.heap.size + 1, 5, none⟩ = W.cell? ⟨w.heap.size + 1, 5, none⟩)
        (first | exact ⟨rfl, rfl, rfl, rfl, rfl, rfl⟩ | exact ⟨Hb2.out.cell hbk, Hb2.out.cell hbk, Hb2.out.cell hbk, Hb2.out.cell hbk, Hb2.out.cell hbk, Hb2.out.cell hbk⟩ | exact ⟨Hb.out.cell hbk, Hb.out.cell hbk, Hb.out.cell hbk, Hb.out.cell hbk, Hb.out.cell hbk, Hb.out.cell hbk⟩)
        (first
          | (go_at_call 105
             refine (rFast _ _ _ _ _ _ _ _ _ r1 r2).mono ?_
             rintro r w1 ⟨rfl, hb⟩
             have Hb := Lib.hid (show Below W.heap.size W w1 from ⟨hb.os, hb.tape, hb.output, hb.size, hb.block⟩)
             clear hb)
          | (go_at_call 104
             rw [← HSL.out]
             refine (rWithin d IH.out e n _ _ hn HO.out ?_ HR.out).mono ?_
             · exact HA.out.up (HBW.out.trans (Hb.out.mono (by omega))) d e
             rintro r w2 ⟨rfl, hb2⟩
             have Hb2 := Lib.hid (Hb.out.trans (hb2.mono Hb.out.size))
             clear hb2
             obtain ⟨s, hs⟩ : ∃ s : ByteArray, s = ⟨(sideL (exprL d e) false).toArray⟩ := ⟨_, rfl⟩
             have hsz : s.size ≤ 207354 := by
               rw [hs]
               have h1 := sideL_le (exprL d e) false
               have h2 := HLE.out
               simp [ByteArray.size]
               omega
             have hcat : ¬ 9223372036854775807 < 1 + s.size := by omega
             have HSB := Lib.hid (show bl s = sideL (exprL d e) false by rw [hs])
             rw [← hs]
             clear hs))
      clear y0 y1 y2 y3 y4 y5 c0 c1 c2 c3 c4 c5
      go_wp2_with fail
      go_ret
      exact ⟨ret_bytes (by rw [HN.out, bl_cat, HSB.out]; rfl), HBW.out.trans (Hb2.out.mono (by omega))⟩
    case true =>
      have HN := Lib.hid (show negB (exOp d e) (exTm d e) = true by rw [HN0.out, hA]; rfl)
      go_enter Tryz.func71, Tryz.ntmps71
      go_wp2_with fail
      rw [← hW]
      clear hW
      first | go_region_with (first
          | (go_at_call 105
             refine (rFast _ _ _ _ _ _ _ _ _ r1 r2).mono ?_
             rintro r w1 ⟨rfl, hb⟩
             have Hb := Lib.hid (show Below W.heap.size W w1 from ⟨hb.os, hb.tape, hb.output, hb.size, hb.block⟩)
             clear hb
             have z0 := (Hb.out.cell (p := ⟨w.heap.size + 1, 0, none⟩) hbk).trans y0
             have z1 := (Hb.out.cell (p := ⟨w.heap.size + 1, 1, none⟩) hbk).trans y1
             have z2 := (Hb.out.cell (p := ⟨w.heap.size + 1, 2, none⟩) hbk).trans y2
             have z3 := (Hb.out.cell (p := ⟨w.heap.size + 1, 3, none⟩) hbk).trans y3
             have z4 := (Hb.out.cell (p := ⟨w.heap.size + 1, 4, none⟩) hbk).trans y4
             have z5 := (Hb.out.cell (p := ⟨w.heap.size + 1, 5, none⟩) hbk).trans y5)
          | (go_at_call 104
             rw [← HSL.out]
             refine (rWithin d IH.out e n _ _ hn HO.out ?_ HR.out).mono ?_
             · exact HA.out.up (HBW.out.trans (Hb.out.mono (by omega))) d e
             rintro r w2 ⟨rfl, hb2⟩
             have Hb2 := Lib.hid (Hb.out.trans (hb2.mono Hb.out.size))
             clear hb2
             obtain ⟨s, hs⟩ : ∃ s : ByteArray, s = ⟨(sideL (exprL d e) true).toArray⟩ := ⟨_, rfl⟩
             have hsz : s.size ≤ 207354 := by
               rw [hs]
               have h1 := sideL_le (exprL d e) true
               have h2 := HLE.out
               simp [ByteArray.size]
               omega
             have hcat : ¬ 9223372036854775807 < 1 + s.size := by omega
             have HSB := Lib.hid (show bl s = sideL (exprL d e) true by rw [hs])
             rw [← hs]
             clear hs)) | fail
      all_goals
        clear y0 y1 y2 y3 y4 y5 c0 c1 c2 c3 c4 c5
        go_wp2_with fail
        go_ret
        exact ⟨ret_bytes (by rw [HN.out, bl_cat, HSB.out]; rfl), HBW.out.trans (Hb2.out.mono (by omega))⟩
  case true =>
    rcases hA : decide (holdI (exOp d e) < 3) with _ | _
    case false =>
      have HN := Lib.hid (show negB (exOp d e) (exTm d e) = true by rw [HN0.out, hA, hB, hC, hD, hE]; rfl)
      go_enter Tryz.func71, Tryz.ntmps71
      go_wp2_with fail
      rw [← hW]
      clear hW
      go_region_held3 (fun w' => w'.cell? ⟨w.heap.size + 1, 0, none⟩ = W.cell? ⟨w.heap.size + 1, 0, none⟩ ∧ w'.cell? ⟨w.heap.size + 1, 1, none⟩ = W.cell? ⟨w.heap.size + 1, 1, none⟩ ∧ w'.cell? ⟨w.heap.size + 1, 2, none⟩ = W.cell? ⟨w.heap.size + 1, 2, none⟩ ∧ w'.cell? ⟨w.heap.size + 1, 3, none⟩ = W.cell? ⟨w.heap.size + 1, 3, none⟩ ∧ w'.cell? ⟨w.heap.size + 1, 4, none⟩ = W.cell? ⟨w.heap.size + 1, 4, none⟩ ∧ w'.cell? ⟨w.heap.size + 1, 5, none⟩ = W.cell? ⟨w.heap.size + 1, 5, none⟩)
        (first | exact ⟨rfl, rfl, rfl, rfl, rfl, rfl⟩ | exact ⟨Hb2.out.cell hbk, Hb2.out.cell hbk, Hb2.out.cell hbk, Hb2.out.cell hbk, Hb2.out.cell hbk, Hb2.out.cell hbk⟩ | exact ⟨Hb.out.cell hbk, Hb.out.cell hbk, Hb.out.cell hbk, Hb.out.cell hbk, Hb.out.cell hbk, Hb.out.cell hbk⟩)
        (first
          | (go_at_call 105
             refine (rFast _ _ _ _ _ _ _ _ _ r1 r2).mono ?_
             rintro r w1 ⟨rfl, hb⟩
             have Hb := Lib.hid (show Below W.heap.size W w1 from ⟨hb.os, hb.tape, hb.output, hb.size, hb.block⟩)
             clear hb)
          | (go_at_call 104
             rw [← HSL.out]
             refine (rWithin d IH.out e n _ _ hn HO.out ?_ HR.out).mono ?_
             · exact HA.out.up (HBW.out.trans (Hb.out.mono (by omega))) d e
             rintro r w2 ⟨rfl, hb2⟩
             have Hb2 := Lib.hid (Hb.out.trans (hb2.mono Hb.out.size))
             clear hb2
             obtain ⟨s, hs⟩ : ∃ s : ByteArray, s = ⟨(sideL (exprL d e) true).toArray⟩ := ⟨_, rfl⟩
             have hsz : s.size ≤ 207354 := by
               rw [hs]
               have h1 := sideL_le (exprL d e) true
               have h2 := HLE.out
               simp [ByteArray.size]
               omega
             have hcat : ¬ 9223372036854775807 < 1 + s.size := by omega
             have HSB := Lib.hid (show bl s = sideL (exprL d e) true by rw [hs])
             rw [← hs]
             clear hs))
      clear y0 y1 y2 y3 y4 y5 c0 c1 c2 c3 c4 c5
      go_wp2_with fail
      go_ret
      exact ⟨ret_bytes (by rw [HN.out, bl_cat, HSB.out]; rfl), HBW.out.trans (Hb2.out.mono (by omega))⟩
    case true =>
      have HN := Lib.hid (show negB (exOp d e) (exTm d e) = true by rw [HN0.out, hA]; rfl)
      go_enter Tryz.func71, Tryz.ntmps71
      go_wp2_with fail
      rw [← hW]
      clear hW
      first | go_region_with (first
          | (go_at_call 105
             refine (rFast _ _ _ _ _ _ _ _ _ r1 r2).mono ?_
             rintro r w1 ⟨rfl, hb⟩
             have Hb := Lib.hid (show Below W.heap.size W w1 from ⟨hb.os, hb.tape, hb.output, hb.size, hb.block⟩)
             clear hb
             have z0 := (Hb.out.cell (p := ⟨w.heap.size + 1, 0, none⟩) hbk).trans y0
             have z1 := (Hb.out.cell (p := ⟨w.heap.size + 1, 1, none⟩) hbk).trans y1
             have z2 := (Hb.out.cell (p := ⟨w.heap.size + 1, 2, none⟩) hbk).trans y2
             have z3 := (Hb.out.cell (p := ⟨w.heap.size + 1, 3, none⟩) hbk).trans y3
             have z4 := (Hb.out.cell (p := ⟨w.heap.size + 1, 4, none⟩) hbk).trans y4
             have z5 := (Hb.out.cell (p := ⟨w.heap.size + 1, 5, none⟩) hbk).trans y5)
          | (go_at_call 104
             rw [← HSL.out]
             refine (rWithin d IH.out e n _ _ hn HO.out ?_ HR.out).mono ?_
             · exact HA.out.up (HBW.out.trans (Hb.out.mono (by omega))) d e
             rintro r w2 ⟨rfl, hb2⟩
             have Hb2 := Lib.hid (Hb.out.trans (hb2.mono Hb.out.size))
             clear hb2
             obtain ⟨s, hs⟩ : ∃ s : ByteArray, s = ⟨(sideL (exprL d e) true).toArray⟩ := ⟨_, rfl⟩
             have hsz : s.size ≤ 207354 := by
               rw [hs]
               have h1 := sideL_le (exprL d e) true
               have h2 := HLE.out
               simp [ByteArray.size]
               omega
             have hcat : ¬ 9223372036854775807 < 1 + s.size := by omega
             have HSB := Lib.hid (show bl s = sideL (exprL d e) true by rw [hs])
             rw [← hs]
             clear hs)) | fail
      all_goals
        clear y0 y1 y2 y3 y4 y5 c0 c1 c2 c3 c4 c5
        go_wp2_with fail
        go_ret
        exact ⟨ret_bytes (by rw [HN.out, bl_cat, HSB.out]; rfl), HBW.out.trans (Hb2.out.mono (by omega))⟩
end Go.Proofs.YtdgbenadoaecoaaGreatDoor

/- The contract of the reference's expr at two sides. Conditions: the expression lies in memory as it is told. -/
namespace Go.Proofs.YtdgbenadoaecoaaGreatDoor
open Go.RowKit

/-- Two boxes behind what was there. -/
def TwoBox (W : World) (o1 : Int) (m1 : Tm) (v1 : Value) (o2 : Int) (m2 : Tm) (v2 : Value) (t5 t6 : Value) (wx : World) : Prop :=
  ∃ b5 b6, t5 = .pointer (some ⟨b5, 0, none⟩) ∧ t6 = .pointer (some ⟨b6, 0, none⟩) ∧ Below W.heap.size W wx ∧ b5 < wx.heap.size ∧ b6 < wx.heap.size ∧ ExCell wx b5 0 o1 m1 v1 ∧ ExCell wx b6 0 o2 m2 v2
theorem ex_of_six {w : World} {b : Nat} {o1 : Int} {m1 : Tm} {v1 : Value} {t : TypeId} {fz : Nat × Nat} (h : w.heap[b]? = some (.cells #[.int .i8 o1, .string m1.v, .int .i8 m1.x.k, .int .i64 m1.x.n, .string m1.x.t, v1] t fz)) : ExCell w b 0 o1 m1 v1 := by
  obtain ⟨a0, a1, a2, a3, a4, a5⟩ := six h
  exact ⟨a0, a1, a2, a3, a4, a5⟩
theorem new1 (w : World) (a b : Obj) : ((w.alloc a).alloc b).heap[w.heap.size + 1]? = some b := by
  have h := heap_alloc_new (w.alloc a) b
  rwa [show (w.alloc a).heap.size = w.heap.size + 1 by simp] at h
theorem two_ef (W : World) (o1 : Int) (m1 : Tm) (v1 : Value) (o2 : Int) (m2 : Tm) (v2 : Value) : TwoBox W o1 m1 v1 o2 m2 v2 (.pointer (some ⟨W.heap.size, 0, none⟩)) (.pointer (some ⟨W.heap.size + 1, 0, none⟩))
    ((W.alloc (.cells #[.int .i8 o1, .string m1.v, .int .i8 m1.x.k, .int .i64 m1.x.n, .string m1.x.t, v1] 60)).alloc (.cells #[.int .i8 o2, .string m2.v, .int .i8 m2.x.k, .int .i64 m2.x.n, .string m2.x.t, v2] 60)).drew :=
  ⟨W.heap.size, W.heap.size + 1, rfl, rfl, ((below_alloc _ _).trans ((below_alloc _ _).mono (by simp))).drew, by show _ < ((W.alloc _).alloc _).heap.size; simp; omega, by show _ < ((W.alloc _).alloc _).heap.size; simp,
    ex_of_six (t := 60) (fz := (0, 0)) ((Lib.alloc_old _ _ _ (by simp)).trans (heap_alloc_new W _)), ex_of_six (t := 60) (fz := (0, 0)) (new1 W _ _)⟩
theorem two_fe (W : World) (o1 : Int) (m1 : Tm) (v1 : Value) (o2 : Int) (m2 : Tm) (v2 : Value) : TwoBox W o1 m1 v1 o2 m2 v2 (.pointer (some ⟨W.heap.size + 1, 0, none⟩)) (.pointer (some ⟨W.heap.size, 0, none⟩))
    ((W.alloc (.cells #[.int .i8 o2, .string m2.v, .int .i8 m2.x.k, .int .i64 m2.x.n, .string m2.x.t, v2] 60)).alloc (.cells #[.int .i8 o1, .string m1.v, .int .i8 m1.x.k, .int .i64 m1.x.n, .string m1.x.t, v1] 60)).drew :=
  ⟨W.heap.size + 1, W.heap.size, rfl, rfl, ((below_alloc _ _).trans ((below_alloc _ _).mono (by simp))).drew, by show _ < ((W.alloc _).alloc _).heap.size; simp, by show _ < ((W.alloc _).alloc _).heap.size; simp; omega,
    ex_of_six (t := 60) (fz := (0, 0)) (new1 W _ _), ex_of_six (t := 60) (fz := (0, 0)) ((Lib.alloc_old _ _ _ (by simp)).trans (heap_alloc_new W _))⟩
set_option maxHeartbeats 8000000 in
set_option maxRecDepth 100000 in
theorem eTwo (d : Nat) (ih : RefAt d) (e f : Ex d) (n a o cap : Nat) (op : Int) (v : ByteArray) (k x : Int) (t : ByteArray) (w : World) (h2 : 2 ≤ op) (h7 : op ≤ 7) (hn : n ≤ 8)
    (ho : exOk n d e = true) (ho' : exOk n d f = true) (ha : a < w.heap.size) (hc : ExCell w a o (exOp d e) (exTm d e) (exSl d e)) (hc' : ExCell w a (o + 6) (exOp d f) (exTm d f) (exSl d f))
    (he : ExAt w d e) (he' : ExAt w d f) (hr : ExR d e) (hr' : ExR d f) :
    Calls Tryz.prog 71 #[.agg #[.int .i8 op, .string v, .int .i8 k, .int .i64 x, .string t, .slice (some ⟨a, o, none⟩) 2 cap]] w fun r w' =>
      r = .returned (.string ⟨(sideL (exprL d e) (decide (holdI (exOp d e) < holdI op)) ++ (32 :: (bl (signL.getD op.toNat ⟨#[]⟩) ++ [32])) ++ sideL (exprL d f) (decide (holdI (exOp d f) ≤ holdI op))).toArray⟩) ∧ Below w.heap.size w w' := by
  obtain ⟨r1, r2⟩ := op_range ho
  obtain ⟨s1, s2⟩ := op_range ho'
  have HLE := Lib.hid (exprL_b hn ho hr)
  have HLE' := Lib.hid (exprL_b hn ho' hr')
  have HO := Lib.hid ho; clear ho
  have HO' := Lib.hid ho'; clear ho'
  have HA := Lib.hid he
  have HA' := Lib.hid he'
  have HR := Lib.hid hr; clear hr
  have HR' := Lib.hid hr'; clear hr'
  have IH := Lib.hid ih; clear ih
  obtain ⟨p, l, cp, hsl⟩ := ex_sl he
  obtain ⟨p', l', cp', hsl'⟩ := ex_sl he'
  clear he he'
  obtain ⟨c0, c1, c2, c3, c4, c5⟩ := hc
  obtain ⟨d0, d1, d2, d3, d4, d5⟩ := hc'
  rw [hsl] at c5
  rw [hsl'] at d5
  have HSL := Lib.hid hsl; clear hsl
  have HSL' := Lib.hid hsl'; clear hsl'
  have q0 : (op == 0) = false := beq_eq_false_iff_ne.2 (by omega)
  have q1 : (op == 1) = false := beq_eq_false_iff_ne.2 (by omega)
  have q8 : (op == 8) = false := beq_eq_false_iff_ne.2 (by omega)
  have q9 : (op == 9) = false := beq_eq_false_iff_ne.2 (by omega)
  have q10 : (op == 10) = false := beq_eq_false_iff_ne.2 (by omega)
  obtain ⟨W, hW⟩ : ∃ W, W = w.alloc (.cells #[.int .i8 op, .string v, .int .i8 k, .int .i64 x, .string t, .slice (some ⟨a, o, none⟩) 2 cap] 60) := ⟨_, rfl⟩
  have HBW := Lib.hid (show Below w.heap.size w W by rw [hW]; exact below_alloc _ _)
  have hsW : W.heap.size = w.heap.size + 1 := by rw [hW]; simp
  have hbx0 : W.heap[w.heap.size]? = some (.cells #[.int .i8 op, .string v, .int .i8 k, .int .i64 x, .string t, .slice (some ⟨a, o, none⟩) 2 cap] 60 (0, 0)) := by rw [hW]; exact heap_alloc_new w _
  obtain ⟨x0, x1, x2, x3, x4, x5⟩ := six hbx0
  have HBX0 := Lib.hid hbx0; clear hbx0
  have haW : a < W.heap.size := by omega
  obtain ⟨sg, hsg⟩ : ∃ sg, sg = signL.getD op.toNat ⟨#[]⟩ := ⟨_, rfl⟩
  have hsgl : sg.size ≤ 1 := by
    have := sign_len op.toNat (by omega)
    rw [← hsg] at this
    rw [size_bl] at this
    exact this
  have HSG := Lib.hid hsg
  rw [← hsg]
  clear hsg
  have hane : a ≠ W.heap.size := by omega
  have hane1 : a ≠ W.heap.size + 1 := by omega
  have hxne : w.heap.size ≠ W.heap.size := by omega
  have hxne1 : w.heap.size ≠ W.heap.size + 1 := by omega
  have k0 := (HBW.out.cell (p := ⟨a, o, none⟩) ha).trans c0
  have k1 := (HBW.out.cell (p := ⟨a, o + 1, none⟩) ha).trans c1
  have k2 := (HBW.out.cell (p := ⟨a, o + 2, none⟩) ha).trans c2
  have k3 := (HBW.out.cell (p := ⟨a, o + 3, none⟩) ha).trans c3
  have k4 := (HBW.out.cell (p := ⟨a, o + 4, none⟩) ha).trans c4
  have k5 := (HBW.out.cell (p := ⟨a, o + 5, none⟩) ha).trans c5
  have l0 := (HBW.out.cell (p := ⟨a, o + 6, none⟩) ha).trans d0
  have l1 := (HBW.out.cell (p := ⟨a, o + 6 + 1, none⟩) ha).trans d1
  have l2 := (HBW.out.cell (p := ⟨a, o + 6 + 2, none⟩) ha).trans d2
  have l3 := (HBW.out.cell (p := ⟨a, o + 6 + 3, none⟩) ha).trans d3
  have l4 := (HBW.out.cell (p := ⟨a, o + 6 + 4, none⟩) ha).trans d4
  have l5 := (HBW.out.cell (p := ⟨a, o + 6 + 5, none⟩) ha).trans d5
  clear c0 c1 c2 c3 c4 c5 d0 d1 d2 d3 d4 d5
  go_enter Tryz.func71, Tryz.ntmps71
  go_upto_region 12 with (fail)
  go_cut [5, 6] from 67 to 74 (fun t5 t6 wx => TwoBox W (exOp d e) (exTm d e) (.slice p l cp) (exOp d f) (exTm d f) (.slice p' l' cp') t5 t6 wx)
  case first =>
    rw [← hW]
    clear hW
    go_region_held3 (fun w' => w'.cell? ⟨a, o, none⟩ = W.cell? ⟨a, o, none⟩ ∧ w'.cell? ⟨a, o + 1, none⟩ = W.cell? ⟨a, o + 1, none⟩ ∧ w'.cell? ⟨a, o + 2, none⟩ = W.cell? ⟨a, o + 2, none⟩ ∧ w'.cell? ⟨a, o + 3, none⟩ = W.cell? ⟨a, o + 3, none⟩ ∧ w'.cell? ⟨a, o + 4, none⟩ = W.cell? ⟨a, o + 4, none⟩ ∧ w'.cell? ⟨a, o + 5, none⟩ = W.cell? ⟨a, o + 5, none⟩ ∧ w'.cell? ⟨a, o + 6, none⟩ = W.cell? ⟨a, o + 6, none⟩ ∧ w'.cell? ⟨a, o + 6 + 1, none⟩ = W.cell? ⟨a, o + 6 + 1, none⟩ ∧ w'.cell? ⟨a, o + 6 + 2, none⟩ = W.cell? ⟨a, o + 6 + 2, none⟩ ∧ w'.cell? ⟨a, o + 6 + 3, none⟩ = W.cell? ⟨a, o + 6 + 3, none⟩ ∧ w'.cell? ⟨a, o + 6 + 4, none⟩ = W.cell? ⟨a, o + 6 + 4, none⟩ ∧ w'.cell? ⟨a, o + 6 + 5, none⟩ = W.cell? ⟨a, o + 6 + 5, none⟩ ∧ w'.cell? ⟨w.heap.size, 5, none⟩ = W.cell? ⟨w.heap.size, 5, none⟩)
      (first | exact ⟨rfl, rfl, rfl, rfl, rfl, rfl, rfl, rfl, rfl, rfl, rfl, rfl, rfl⟩ | go_keep)
      (first | fail)
    all_goals
      clear x0 x1 x2 x3 x4 x5 k0 k1 k2 k3 k4 k5 l0 l1 l2 l3 l4 l5
      go_wp2_with fail
      go_meet
      rw [← hsW]
      first
        | exact two_ef W (exOp d e) (exTm d e) (.slice p l cp) (exOp d f) (exTm d f) (.slice p' l' cp')
        | exact two_fe W (exOp d e) (exTm d e) (.slice p l cp) (exOp d f) (exTm d f) (.slice p' l' cp')
  case rest =>
    obtain ⟨b5, b6, rfl, rfl, hBc, h5, h6, y, z⟩ := hcut
    clear k0 k1 k2 k3 k4 k5 l0 l1 l2 l3 l4 l5
    have HBc := Lib.hid (HBW.out.trans (hBc.mono (by omega)))
    have hxs : w.heap.size < wc.heap.size := by have := hBc.size; omega
    have u0 := (hBc.cell (p := ⟨w.heap.size, 0, none⟩) (by show w.heap.size < W.heap.size; omega)).trans x0
    have u1 := (hBc.cell (p := ⟨w.heap.size, 1, none⟩) (by show w.heap.size < W.heap.size; omega)).trans x1
    have u2 := (hBc.cell (p := ⟨w.heap.size, 2, none⟩) (by show w.heap.size < W.heap.size; omega)).trans x2
    have u3 := (hBc.cell (p := ⟨w.heap.size, 3, none⟩) (by show w.heap.size < W.heap.size; omega)).trans x3
    have u4 := (hBc.cell (p := ⟨w.heap.size, 4, none⟩) (by show w.heap.size < W.heap.size; omega)).trans x4
    have u5 := (hBc.cell (p := ⟨w.heap.size, 5, none⟩) (by show w.heap.size < W.heap.size; omega)).trans x5
    clear x0 x1 x2 x3 x4 x5 hBc
    obtain ⟨y0, y1, y2, y3, y4, y5⟩ := y
    obtain ⟨z0, z1, z2, z3, z4, z5⟩ := z
    have Hb := Lib.hid ((Below.refl wc.heap.size wc).drew)
    go_wp2_with fail
    go_region_held3 (fun w' => w'.cell? ⟨b5, 0, none⟩ = wc.cell? ⟨b5, 0, none⟩ ∧ w'.cell? ⟨b5, 1, none⟩ = wc.cell? ⟨b5, 1, none⟩ ∧ w'.cell? ⟨b5, 2, none⟩ = wc.cell? ⟨b5, 2, none⟩ ∧ w'.cell? ⟨b5, 3, none⟩ = wc.cell? ⟨b5, 3, none⟩ ∧ w'.cell? ⟨b5, 4, none⟩ = wc.cell? ⟨b5, 4, none⟩ ∧ w'.cell? ⟨b5, 5, none⟩ = wc.cell? ⟨b5, 5, none⟩ ∧ w'.cell? ⟨b6, 0, none⟩ = wc.cell? ⟨b6, 0, none⟩ ∧ w'.cell? ⟨b6, 1, none⟩ = wc.cell? ⟨b6, 1, none⟩ ∧ w'.cell? ⟨b6, 2, none⟩ = wc.cell? ⟨b6, 2, none⟩ ∧ w'.cell? ⟨b6, 3, none⟩ = wc.cell? ⟨b6, 3, none⟩ ∧ w'.cell? ⟨b6, 4, none⟩ = wc.cell? ⟨b6, 4, none⟩ ∧ w'.cell? ⟨b6, 5, none⟩ = wc.cell? ⟨b6, 5, none⟩ ∧ w'.cell? ⟨w.heap.size, 0, none⟩ = wc.cell? ⟨w.heap.size, 0, none⟩ ∧ w'.cell? ⟨w.heap.size, 1, none⟩ = wc.cell? ⟨w.heap.size, 1, none⟩ ∧ w'.cell? ⟨w.heap.size, 2, none⟩ = wc.cell? ⟨w.heap.size, 2, none⟩ ∧ w'.cell? ⟨w.heap.size, 3, none⟩ = wc.cell? ⟨w.heap.size, 3, none⟩ ∧ w'.cell? ⟨w.heap.size, 4, none⟩ = wc.cell? ⟨w.heap.size, 4, none⟩ ∧ w'.cell? ⟨w.heap.size, 5, none⟩ = wc.cell? ⟨w.heap.size, 5, none⟩)
      (exact ⟨Hb.out.cell h5, Hb.out.cell h5, Hb.out.cell h5, Hb.out.cell h5, Hb.out.cell h5, Hb.out.cell h5, Hb.out.cell h6, Hb.out.cell h6, Hb.out.cell h6, Hb.out.cell h6, Hb.out.cell h6, Hb.out.cell h6, Hb.out.cell hxs, Hb.out.cell hxs, Hb.out.cell hxs, Hb.out.cell hxs, Hb.out.cell hxs, Hb.out.cell hxs⟩)
      (first
        | (go_at_call 105
           refine (rFast _ _ _ _ _ _ _ _ _ ?_ ?_).mono ?_
           · omega
           · omega
           rintro r w1 ⟨rfl, hb⟩
           have Hb := Lib.hid (Hb.out.trans (hb.mono Hb.out.size))
           clear hb)
        | (go_at_call 106
           refine (rSignS _ _ h2 h7).mono ?_
           rintro r w2 ⟨rfl, rfl⟩
           rw [← HSG.out])
        | (go_at_call 104
           rw [← HSL.out]
           refine (rWithin d IH.out e n _ _ hn HO.out ?_ HR.out).mono ?_
           · exact HA.out.up (HBc.out.trans (Hb.out.mono (by omega))) d e
           rintro r w1 ⟨rfl, hb⟩
           have Hb := Lib.hid (Hb.out.trans (hb.mono Hb.out.size))
           clear hb
           obtain ⟨s1, hs1⟩ : ∃ s : ByteArray, s = ⟨(sideL (exprL d e) (decide (holdI (exOp d e) < holdI op))).toArray⟩ := ⟨_, rfl⟩
           have hz1 : s1.size ≤ 207354 := by
             rw [hs1]
             have h1 := sideL_le (exprL d e) (decide (holdI (exOp d e) < holdI op))
             have h2 := HLE.out
             simp [ByteArray.size]
             omega
           have hcat1 : ¬ 9223372036854775807 < s1.size + 1 := by omega
           have hcat2 : ¬ 9223372036854775807 < s1.size + 1 + sg.size := by omega
           have hcat3 : ¬ 9223372036854775807 < s1.size + 1 + sg.size + 1 := by omega
           have HS1 := Lib.hid (show bl s1 = sideL (exprL d e) (decide (holdI (exOp d e) < holdI op)) by rw [hs1])
           rw [← hs1]
           clear hs1)
        | (go_at_call 104
           rw [← HSL'.out]
           refine (rWithin d IH.out f n _ _ hn HO'.out ?_ HR'.out).mono ?_
           · exact HA'.out.up (HBc.out.trans (Hb.out.mono (by omega))) d f
           rintro r w1 ⟨rfl, hb⟩
           have Hb := Lib.hid (Hb.out.trans (hb.mono Hb.out.size))
           clear hb
           obtain ⟨s2, hs2⟩ : ∃ s : ByteArray, s = ⟨(sideL (exprL d f) (decide (holdI (exOp d f) ≤ holdI op))).toArray⟩ := ⟨_, rfl⟩
           have hz2 : s2.size ≤ 207354 := by
             rw [hs2]
             have h1 := sideL_le (exprL d f) (decide (holdI (exOp d f) ≤ holdI op))
             have h2 := HLE'.out
             simp [ByteArray.size]
             omega
           have hcat4 : ¬ 9223372036854775807 < s1.size + 1 + sg.size + 1 + s2.size := by omega
           have HS2 := Lib.hid (show bl s2 = sideL (exprL d f) (decide (holdI (exOp d f) ≤ holdI op)) by rw [hs2])
           rw [← hs2]
           clear hs2))
    all_goals
      clear y0 y1 y2 y3 y4 y5 z0 z1 z2 z3 z4 z5 u0 u1 u2 u3 u4 u5
      go_wp2_with fail
      go_ret
      exact ⟨ret_bytes (by rw [bl_cat, bl_cat, bl_cat, bl_cat, HS1.out, HS2.out]; simp [bl]), HBc.out.trans (Hb.out.mono (by omega))⟩
end Go.Proofs.YtdgbenadoaecoaaGreatDoor

/- The contracts of the reference's check of expressions. Conditions: the expression lies in memory as it is told; a text is no longer than the model lets any be. -/
namespace Go.Proofs.YtdgbenadoaecoaaGreatDoor
open Go.RowKit

theorem tm_ne0 (v : ByteArray) (k n : Int) (t : ByteArray) (w : World) :
    (binOp .neq 56 (.agg #[.string v, .int .i8 k, .int .i64 n, .string t]) (.agg #[.string ⟨#[]⟩, .int .i8 0, .int .i64 0, .string ⟨#[]⟩])).run Tryz.prog w = .ok (.bool (!tmZero ⟨v, ⟨k, n, t⟩⟩)) w := by
  by_cases hv : v.toList = []
  · by_cases hk : k = 0
    · by_cases hn : n = 0
      · subst hk; subst hn
        go_simp
        by_cases ht : t.toList = [] <;> simp [tmZero, vlZero, bl, ← ByteArray.toList_eq, ht, hv]
      · subst hk
        go_simp
        simp [tmZero, vlZero, hn]
    · go_simp
      simp [tmZero, vlZero, hk]
  · go_simp
    simp [tmZero, bl, ← ByteArray.toList_eq, hv]
/-- What the reference's expr is known to say of expressions of a depth up to d. -/
def ChkAt (d : Nat) : Prop := ∀ (e : Ex d) (n : Nat) (x : Int) (w : World), n ≤ 8 → x = n → ExAt w d e → ExR d e →
  Calls Tryz.prog 99 #[.agg #[.int .i8 (exOp d e), .string (exTm d e).v, .int .i8 (exTm d e).x.k, .int .i64 (exTm d e).x.n, .string (exTm d e).x.t, exSl d e], .int .i64 x] w fun r w' =>
    r = .returned (.bool (exOk n d e)) ∧ Below w.heap.size w w'
theorem all_no {α : Type} (p : α → Bool) (l : List α) (k : Nat) (h : k < l.length) (hp : p l[k] = false) : l.all p = false := by
  rw [List.all_eq_false]
  exact ⟨l[k], List.getElem_mem h, by simp [hp]⟩
theorem all_yes {α : Type} (p : α → Bool) (l : List α) (h : ∀ j, (hj : j < l.length) → p l[j] = true) : l.all p = true := by
  rw [List.all_eq_true]
  intro x hx
  obtain ⟨j, hj, rfl⟩ := List.mem_iff_getElem.1 hx
  exact h j hj
set_option maxHeartbeats 2000000 in
theorem cZero (v : ByteArray) (op k y : Int) (t : ByteArray) (p : Option Addr) (l c : Nat) (w : World) :
    Calls Tryz.prog 99 #[.agg #[.int .i8 op, .string v, .int .i8 k, .int .i64 y, .string t, .slice p l c], .int .i64 0] w fun r w' => r = .returned (.bool false) ∧ Below w.heap.size w w' := by
  go_enter Tryz.func99, Tryz.ntmps99
  go_wp2_with fail
  go_ret
  exact ⟨rfl, below_alloc _ _⟩
set_option maxHeartbeats 2000000 in
theorem cLeaf (v : ByteArray) (k y x : Int) (t : ByteArray) (p : Option Addr) (l c : Nat) (w : World) (hx : 1 ≤ x) (hl : l ≤ maxLen) (hv : v.size ≤ maxLen) :
    Calls Tryz.prog 99 #[.agg #[.int .i8 0, .string v, .int .i8 k, .int .i64 y, .string t, .slice p l c], .int .i64 x] w fun r w' =>
      r = .returned (.bool (decide (l = 0) && solidB ⟨v, ⟨k, y, t⟩⟩)) ∧ Below w.heap.size w w' := by
  have qx : (x == 0) = false := beq_eq_false_iff_ne.2 (by omega)
  clear hx
  by_cases h0 : l = 0
  · subst h0
    by_cases h95 : v.toList = [95]
    · have HE := Lib.hid (show (decide (0 = 0) && solidB ⟨v, ⟨k, y, t⟩⟩) = false by simp [solidB, bl, ← ByteArray.toList_eq, h95])
      have q : (v.toList == [95]) = true := by simp [h95]
      clear h95
      go_enter Tryz.func99, Tryz.ntmps99
      go_wp2_with fail
      go_ret
      exact ⟨ret_bool HE.out.symm, below_alloc _ _⟩
    · have HE := Lib.hid (show (decide (0 = 0) && solidB ⟨v, ⟨k, y, t⟩⟩) = tmOk ⟨v, ⟨k, y, t⟩⟩ by simp [solidB, bl, ← ByteArray.toList_eq, h95])
      have q : (v.toList == [95]) = false := by simpa using h95
      clear h95
      obtain ⟨z, hz⟩ : ∃ z, z = tmOk ⟨v, ⟨k, y, t⟩⟩ := ⟨_, rfl⟩
      have HZ := Lib.hid hz; clear hz
      go_enter Tryz.func99, Tryz.ntmps99
      go_wp2_with fail
      refine (rterm v k y t _ hv).mono ?_
      rintro r w1 ⟨rfl, hb⟩
      have Hb := Lib.hid hb; clear hb
      rw [← HZ.out]
      go_wp2_with fail
      go_ret
      exact ⟨ret_bool (by rw [HE.out, ← HZ.out]), (below_alloc _ _).trans (Hb.out.mono (by simp))⟩
  · have HE := Lib.hid (show (decide (l = 0) && solidB ⟨v, ⟨k, y, t⟩⟩) = false by simp [h0])
    have q : ((l : Int) == 0) = false := beq_eq_false_iff_ne.2 (by omega)
    clear h0
    go_enter Tryz.func99, Tryz.ntmps99
    go_wp2_with fail
    go_ret
    exact ⟨ret_bool HE.out.symm, below_alloc _ _⟩
set_option maxHeartbeats 4000000 in
theorem cNot (v : ByteArray) (op k y x : Int) (t : ByteArray) (p : Option Addr) (l c : Nat) (w : World) (hx : 1 ≤ x) (h0 : op ≠ 0) (hn : tmZero ⟨v, ⟨k, y, t⟩⟩ = false ∨ (l : Int) ≠ arityI op) :
    Calls Tryz.prog 99 #[.agg #[.int .i8 op, .string v, .int .i8 k, .int .i64 y, .string t, .slice p l c], .int .i64 x] w fun r w' => r = .returned (.bool false) ∧ Below w.heap.size w w' := by
  have qx : (x == 0) = false := beq_eq_false_iff_ne.2 (by omega)
  have q0 : (op == 0) = false := beq_eq_false_iff_ne.2 h0
  clear hx h0
  have hq : ∀ w, _ := fun w => tm_ne0 v k y t w
  rcases hz : tmZero ⟨v, ⟨k, y, t⟩⟩ with _ | _
  · rw [hz] at hq
    clear hn hz
    go_enter Tryz.func99, Tryz.ntmps99
    go_wp2_with fail
    go_quiet (fail)
    go_wp2_with fail
    go_ret
    exact ⟨rfl, below_drewN ((below_alloc _ _).trans ((below_alloc _ _).mono (by simp))) _⟩
  · rw [hz] at hq
    rw [hz] at hn
    have qa : ((l : Int) == arityI op) = false := beq_eq_false_iff_ne.2 (by simpa using hn)
    clear hn hz
    go_enter Tryz.func99, Tryz.ntmps99
    go_wp2_with fail
    go_quiet ((go_at_call 124; exact Calls.quiet_of_same ((rKids _ _).mono fun e w1 h => ⟨h.1, h.2.symm⟩)))
    go_wp2_with fail
    go_ret
    exact ⟨rfl, below_drewN ((below_alloc _ _).trans ((below_alloc _ _).mono (by simp))) _⟩
set_option maxHeartbeats 4000000 in
theorem cKids (d : Nat) (ih : ChkAt d) (n a o cap : Nat) (ks : List (Ex d)) (v : ByteArray) (op k y x : Int) (t : ByteArray) (w : World) (hn : n + 1 ≤ 8) (hx : x = (n + 1 : Nat)) (h0 : op ≠ 0) (hz : tmZero ⟨v, ⟨k, y, t⟩⟩ = true) (hlen : (ks.length : Int) = arityI op)
    (ha : a < w.heap.size) (hts : ∀ i, (h : i < ks.length) → ExCell w a (o + i * 6) (exOp d ks[i]) (exTm d ks[i]) (exSl d ks[i])) (hk : ∀ e ∈ ks, ExAt w d e) (hr : ∀ e ∈ ks, ExR d e) :
    Calls Tryz.prog 99 #[.agg #[.int .i8 op, .string v, .int .i8 k, .int .i64 y, .string t, .slice (some ⟨a, o, none⟩) ks.length cap], .int .i64 x] w fun r w' => r = .returned (.bool (ks.all (exOk n d))) ∧ Below w.heap.size w w' := by
  have hl2 : ks.length ≤ 2 := by
    have : arityI op ≤ 2 := by
      unfold arityI
      split
      · omega
      · split <;> omega
    omega
  have qx : (x == 0) = false := beq_eq_false_iff_ne.2 (by omega)
  have q0 : (op == 0) = false := beq_eq_false_iff_ne.2 h0
  have qa : ((ks.length : Int) == arityI op) = true := beq_iff_eq.2 hlen
  have HQNE := Lib.hid (show ((ks.length : Int) != arityI op) = false by simp [bne, qa])
  have HLEN := Lib.hid hlen
  clear h0 hlen
  have hq : ∀ w, _ := fun w => tm_ne0 v k y t w
  rw [hz] at hq
  clear hz
  have HX := Lib.hid hx
  have hx1 : 1 ≤ x := by omega
  have hx8 : x ≤ 8 := by omega
  clear hx
  have IH := Lib.hid ih; clear ih
  have HTS := Lib.hid hts; clear hts
  have HA := Lib.hid hk; clear hk
  have HR := Lib.hid hr; clear hr
  obtain ⟨W, hW⟩ : ∃ W, W = (w.alloc (.cells #[.int .i8 op, .string v, .int .i8 k, .int .i64 y, .string t, .slice (some ⟨a, o, none⟩) ks.length cap] 60)).alloc (.cells #[.string ⟨#[]⟩, .int .i8 0, .int .i64 0, .string ⟨#[]⟩] 56) := ⟨_, rfl⟩
  have HBW := Lib.hid (show Below w.heap.size w W by rw [hW]; exact (below_alloc _ _).trans ((below_alloc _ _).mono (by simp)))
  have hsW : W.heap.size = w.heap.size + 1 + 1 := by rw [hW]; simp
  have HBX := Lib.hid (show W.heap[w.heap.size]? = some (.cells #[.int .i8 op, .string v, .int .i8 k, .int .i64 y, .string t, .slice (some ⟨a, o, none⟩) ks.length cap] 60 (0, 0)) by rw [hW, Lib.alloc_old _ _ _ (by simp)]; exact heap_alloc_new w _)
  have haW : a < W.heap.size := by omega
  go_enter Tryz.func99, Tryz.ntmps99
  go_wp2_with fail
  go_quiet ((go_at_call 124; exact Calls.quiet_of_same ((rKids _ _).mono fun e w1 h => ⟨h.1, h.2.symm⟩)))
  go_wp2_with fail
  rw [← hW]
  clear hW
  have HB0 := Lib.hid (below_drewN (Below.refl W.heap.size W) nq)
  obtain ⟨wq, hwq⟩ : ∃ wq, wq = W.drewN nq := ⟨_, rfl⟩
  rw [← hwq] at HB0 ⊢
  clear hwq
  rw [HQNE.out]
  go_loopw [6] (fun i wr => ∃ j : Nat, j ≤ ks.length ∧ i = .int .i64 j ∧ (∀ m, (h : m < ks.length) → m < j → exOk n d ks[m] = true) ∧ Below W.heap.size W wr) (fun i _ => ks.length - (intOf i).toNat)
  case atStart => exact ⟨0, by omega, rfl, fun m _ h => by omega, HB0.out⟩
  case round =>
    obtain ⟨j, hj, rfl, hok, hb⟩ := hrel
    have Hok := Lib.hid hok; clear hok
    have Hb := Lib.hid hb; clear hb
    obtain ⟨x0, x1, x2, x3, x4, x5⟩ := six ((Hb.out.block w.heap.size (by omega)).trans HBX.out)
    by_cases hlt : j < ks.length
    · have hcs := (HTS.out j hlt).up (HBW.out.trans (Hb.out.mono (by omega))) ha
      have HE := Lib.hid (ExAt.up (HBW.out.trans (Hb.out.mono (by omega))) d _ (HA.out ks[j] (List.getElem_mem hlt)))
      have HRk := Lib.hid (HR.out ks[j] (List.getElem_mem hlt))
      obtain ⟨tk, htk⟩ : ∃ tk, tk = ks[j] := ⟨_, rfl⟩
      rw [← htk] at hcs HE HRk
      have HTK := Lib.hid htk; clear htk
      obtain ⟨c0, c1, c2, c3, c4, c5⟩ := hcs
      rcases hv : exOk n d tk with _ | _
      all_goals have HV := Lib.hid hv
      all_goals clear hv
      · go_wp2_with fail
        refine (IH.out tk n (x - 1) _ (by omega) (by have := HX.out; omega) HE.out HRk.out).mono ?_
        rintro e w1 ⟨rfl, hb1⟩
        rw [HV.out]
        have Hb1 := Lib.hid hb1; clear hb1
        go_wp2_with fail
        go_ret
        exact ⟨ret_bool (all_no _ ks j hlt (by rw [← HTK.out]; exact HV.out)).symm, HBW.out.trans ((Hb.out.trans (Hb1.out.mono Hb.out.size)).mono (by omega))⟩
      · go_wp2_with fail
        refine (IH.out tk n (x - 1) _ (by omega) (by have := HX.out; omega) HE.out HRk.out).mono ?_
        rintro e w1 ⟨rfl, hb1⟩
        rw [HV.out]
        have Hb1 := Lib.hid hb1; clear hb1
        go_wp2_with fail
        go_roundw
        case rel => exact ⟨j + 1, by omega, by go_num, fun m hm hmj => by
                      by_cases e : m = j
                      · subst e; rw [← HTK.out]; exact HV.out
                      · exact Hok.out m hm (by omega), Hb.out.trans (Hb1.out.mono Hb.out.size)⟩
        case measure => simp [intOf]; omega
    · go_wp2_with fail
      go_ret
      exact ⟨ret_bool (all_yes _ ks (fun m hm => Hok.out m hm (by omega))).symm, HBW.out.trans (Hb.out.mono (by omega))⟩
theorem chk_step (d : Nat) (ih : ChkAt d) : ChkAt (d + 1) := by
  intro e n x w hn hx he hr
  obtain ⟨op, tm, sl, ks⟩ := e
  obtain ⟨p, cap, h1, hm, hs, hk⟩ := he
  obtain ⟨_, htr, hrk⟩ := hr
  have h1' : sl = .slice p ks.length cap := h1
  clear h1
  subst h1'
  obtain ⟨v, ⟨kd, y, t⟩⟩ := tm
  cases n with
  | zero =>
    subst hx
    exact cZero v op kd y t p _ cap w
  | succ n =>
    by_cases h0 : op = 0
    · subst h0
      refine (cLeaf v kd y x t p ks.length cap w (by omega) hm htr.v0).mono ?_
      rintro r w1 ⟨rfl, hb⟩
      refine ⟨ret_bool ?_, hb⟩
      show (decide (ks.length = 0) && solidB ⟨v, ⟨kd, y, t⟩⟩) = (if (0 : Int) = 0 then ks.isEmpty && solidB ⟨v, ⟨kd, y, t⟩⟩ else _)
      rw [if_pos rfl]
      cases ks <;> simp
    · have hE : exOk (n + 1) (d + 1) (op, ⟨v, ⟨kd, y, t⟩⟩, .slice p ks.length cap, ks) = (tmZero ⟨v, ⟨kd, y, t⟩⟩ && decide ((ks.length : Int) = arityI op) && ks.all (exOk n d)) := by
        show (if op = 0 then _ else _) = _
        rw [if_neg h0]
      by_cases hz : tmZero ⟨v, ⟨kd, y, t⟩⟩ = true ∧ (ks.length : Int) = arityI op
      · rcases hs with hs | ⟨a, o, hp, ha, hc⟩
        · exfalso
          have h3 := hz.2
          have hs' : ks.length = 0 := hs
          rw [hs'] at h3
          have h4 := arity_one h3
          omega
        · have hp' : p = some ⟨a, o, none⟩ := hp
          subst hp'
          refine (cKids d ih n a o cap ks v op kd y x t w hn hx h0 hz.1 hz.2 ha hc hk hrk).mono ?_
          rintro r w1 ⟨rfl, hb⟩
          refine ⟨ret_bool ?_, hb⟩
          rw [hE, hz.1, decide_eq_true hz.2]
          simp
      · refine (cNot v op kd y x t p ks.length cap w (by omega) h0 ?_).mono ?_
        · by_cases h1 : tmZero ⟨v, ⟨kd, y, t⟩⟩ = true
          · exact .inr fun h2 => hz ⟨h1, h2⟩
          · exact .inl (by simpa using h1)
        · rintro r w1 ⟨rfl, hb⟩
          refine ⟨ret_bool ?_, hb⟩
          rw [hE]
          by_cases h1 : tmZero ⟨v, ⟨kd, y, t⟩⟩ = true
          · have h2 : ¬ (ks.length : Int) = arityI op := fun h2 => hz ⟨h1, h2⟩
            simp [h2]
          · simp [h1]
theorem chk_all : ∀ d, ChkAt d
  | 0 => fun e => nomatch e
  | d + 1 => chk_step d (chk_all d)
end Go.Proofs.YtdgbenadoaecoaaGreatDoor

/- The contract of the reference's Expr. Conditions: the expression lies in memory as it is told. -/
namespace Go.Proofs.YtdgbenadoaecoaaGreatDoor
open Go.RowKit

theorem ref_step (d : Nat) (ih : RefAt d) : RefAt (d + 1) := by
  intro e n w hn ho he hr
  obtain ⟨op, tm, sl, ks⟩ := e
  cases n with
  | zero => cases ho
  | succ n =>
    obtain ⟨p, cap, h1, hm, hs, hk⟩ := he
    obtain ⟨_, htr, hrk⟩ := hr
    have h1' : sl = .slice p ks.length cap := h1
    clear h1
    subst h1'
    obtain ⟨v, ⟨kd, x, t⟩⟩ := tm
    rcases ex_open ho with ⟨rfl, rfl, hs⟩ | ⟨k, rfl, rfl, hok⟩ | ⟨k, h8, h10, rfl, hok⟩ | ⟨k, m, h2, h7, rfl, hok, hom⟩
    · rw [exprL_term]
      exact eTerm v kd x t p _ cap w htr
    · rw [exprL_neg]
      rcases hs with hs | ⟨a, o, hp, ha, hc⟩
      · simp at hs
      · have hp' : p = some ⟨a, o, none⟩ := hp
        subst hp'
        have hc0 := hc 0 (by simp)
        rw [Nat.zero_mul, Nat.add_zero] at hc0
        exact eNeg d ih k n a o cap v kd x t w (by omega) hok ha hc0 (hk k (by simp)) (hrk k (by simp))
    · rw [exprL_word _ _ k h8]
      rcases hs with hs | ⟨a, o, hp, ha, hc⟩
      · simp at hs
      · have hp' : p = some ⟨a, o, none⟩ := hp
        subst hp'
        have hc0 := hc 0 (by simp)
        rw [Nat.zero_mul, Nat.add_zero] at hc0
        exact eWord d ih k n a o cap op v kd x t w h8 h10 (by omega) hok ha hc0 (hk k (by simp)) (hrk k (by simp))
    · rw [exprL_two _ _ k m h2]
      rcases hs with hs | ⟨a, o, hp, ha, hc⟩
      · simp at hs
      · have hp' : p = some ⟨a, o, none⟩ := hp
        subst hp'
        have hc0 := hc 0 (by simp)
        have hc1 := hc 1 (by simp)
        rw [Nat.zero_mul, Nat.add_zero] at hc0
        rw [Nat.one_mul] at hc1
        exact eTwo d ih k m n a o cap op v kd x t w h2 h7 (by omega) hok hom ha hc0 hc1 (hk k (by simp)) (hk m (by simp)) (hrk k (by simp)) (hrk m (by simp))
theorem ref_all : ∀ d, RefAt d
  | 0 => fun e => nomatch e
  | d + 1 => ref_step d (ref_all d)
end Go.Proofs.YtdgbenadoaecoaaGreatDoor
