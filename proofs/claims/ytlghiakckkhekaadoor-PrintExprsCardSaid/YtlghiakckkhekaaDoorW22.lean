/- The contract of term.CheckExpr, and how expressions are written. Conditions: the expression lies in memory as it is told; a text is no longer than the model lets any be. -/
import Derived.Test.YtlghiakckkhekaaDoorW21
namespace Go.Proofs.YtlghiakckkhekaaDoor
open Go.RowKit

theorem tCheckExpr (d : Nat) (e : Ex d) (w : World) (he : ExAt w d e) (hr : ExR d e) :
    Calls Tryd.prog 37 #[.agg #[.int .i8 (exOp d e), .string (exTm d e).v, .int .i8 (exTm d e).x.k, .int .i64 (exTm d e).x.n, .string (exTm d e).x.t, exSl d e]] w fun r w' => r = .returned (.int .i64 (okCode (exOk 8 d e) 40)) ∧ Below w.heap.size w w' := by
  have HE := Lib.hid he; clear he
  have HR := Lib.hid hr; clear hr
  go_enter Tryd.func37, Tryd.ntmps37
  go_wp2_with fail
  refine (deep_all d e 8 _ (by omega) (ExAt.up (below_alloc _ _) d e HE.out) HR.out).mono ?_
  rintro r w1 ⟨rfl, hb⟩
  have Hb := Lib.hid hb; clear hb
  go_wp2_with fail
  refine (tCode _ _).mono ?_
  rintro r w2 ⟨rfl, rfl⟩
  go_wp2_with fail
  go_ret
  exact ⟨rfl, (below_alloc _ _).trans (Hb.out.mono (by simp))⟩
theorem six {w : World} {b : Nat} {x0 x1 x2 x3 x4 x5 : Value} {t : TypeId} {fz : Nat × Nat} (h : w.heap[b]? = some (.cells #[x0, x1, x2, x3, x4, x5] t fz)) :
    w.cell? ⟨b, 0, none⟩ = some x0 ∧ w.cell? ⟨b, 1, none⟩ = some x1 ∧ w.cell? ⟨b, 2, none⟩ = some x2 ∧ w.cell? ⟨b, 3, none⟩ = some x3 ∧ w.cell? ⟨b, 4, none⟩ = some x4 ∧ w.cell? ⟨b, 5, none⟩ = some x5 :=
  ⟨by rw [Lib.cell_of_heap h]; rfl, by rw [Lib.cell_of_heap h]; rfl, by rw [Lib.cell_of_heap h]; rfl, by rw [Lib.cell_of_heap h]; rfl, by rw [Lib.cell_of_heap h]; rfl, by rw [Lib.cell_of_heap h]; rfl⟩
/-- A side, in its brackets where it needs them. -/
def sideL (l : List UInt8) (b : Bool) : List UInt8 := if b then 40 :: (l ++ [41]) else l
def holdI (op : Int) : Int := holdL.getD op.toNat 0
/-- Whether a minus must put what it turns in brackets. -/
def negB (op : Int) (t : Tm) : Bool := decide (holdI op < holdI 1) || (op == 0 && (bl t.v).isEmpty && t.x.k == 1 && decide (0 ≤ t.x.n))
/-- An expression, written. -/
def exprL : (d : Nat) → Ex d → List UInt8
  | 0, e => nomatch e
  | d + 1, e => if e.1 = 0 then termL e.2.1 else match e.2.2.2 with
    | [k] => if e.1 = 1 then 45 :: sideL (exprL d k) (negB (exOp d k) (exTm d k)) else bl (wordL.getD e.1.toNat ⟨#[]⟩) ++ sideL (exprL d k) true
    | [a, b] => sideL (exprL d a) (decide (holdI (exOp d a) < holdI e.1)) ++ (32 :: (bl (signL.getD e.1.toNat ⟨#[]⟩) ++ [32])) ++ sideL (exprL d b) (decide (holdI (exOp d b) ≤ holdI e.1))
    | _ => []
/-- What the writer's expr is known to do at expressions of a depth up to d. -/
def WritesAt (d : Nat) : Prop := ∀ (w0 : World) (e : Ex d) (n b : Nat) (pre : List UInt8) (w : World), exOk n d e = true → Env w0 b w → Tabs w0 → ExAt w0 d e → ExR d e → Wr 94 b pre w →
  pre.length + (exprL d e).length ≤ 140737488355328 →
  Calls Tryd.prog 38 #[.pointer (some ⟨b, 0, none⟩), .agg #[.int .i8 (exOp d e), .string (exTm d e).v, .int .i8 (exTm d e).x.k, .int .i64 (exTm d e).x.n, .string (exTm d e).x.t, exSl d e]] w (Wrote b pre (exprL d e) w)
set_option maxHeartbeats 1000000 in
theorem pSide (d : Nat) (ih : WritesAt d) (w0 : World) (e : Ex d) (n b : Nat) (brk : Bool) (pre : List UInt8) (w : World) (ho : exOk n d e = true) (hE : Env w0 b w) (hT : Tabs w0) (he : ExAt w0 d e) (hr : ExR d e) (hw : Wr 94 b pre w)
    (hl : pre.length + (sideL (exprL d e) brk).length ≤ 140737488355328) :
    Calls Tryd.prog 76 #[.pointer (some ⟨b, 0, none⟩), .agg #[.int .i8 (exOp d e), .string (exTm d e).v, .int .i8 (exTm d e).x.k, .int .i64 (exTm d e).x.n, .string (exTm d e).x.t, exSl d e], .bool brk] w (Wrote b pre (sideL (exprL d e) brk) w) := by
  have HO := Lib.hid ho; clear ho
  have HEn := Lib.hid hE; clear hE
  have HT := Lib.hid hT; clear hT
  have HA := Lib.hid he; clear he
  have HR := Lib.hid hr; clear hr
  have IH := Lib.hid ih; clear ih
  have HW := Lib.hid hw
  have hlt := hw.lt; clear hw
  cases brk
  · have HL := Lib.hid (show pre.length + (exprL d e).length ≤ 140737488355328 from hl)
    have HS := Lib.hid (show sideL (exprL d e) false = exprL d e from rfl)
    clear hl
    go_enter Tryd.func76, Tryd.ntmps76
    go_wp2_with fail
    refine (IH.out w0 e n b pre _ HO.out (HEn.out.kp (Kp.alloc HW.out _)) HT.out HA.out HR.out (HW.out.alloc _) HL.out).mono ?_
    rintro r w1 ⟨rfl, hw1, hk1⟩
    have H1 := Lib.hid hw1; clear hw1
    have HK1 := Lib.hid hk1; clear hk1
    go_wp2_with fail
    go_end0
    exact ⟨rfl, wr_eq (by rw [HS.out]) H1.out, (Kp.alloc HW.out _).trans HK1.out⟩
  · have HL := Lib.hid (show pre.length + ((exprL d e).length + 2) ≤ 140737488355328 by simpa [sideL] using hl)
    have HS := Lib.hid (show sideL (exprL d e) true = 40 :: (exprL d e ++ [41]) from rfl)
    clear hl
    go_enter Tryd.func76, Tryd.ntmps76
    go_wp2_with fail
    refine (pPut b (w.heap.size + 1) pre [⟨#[40]⟩] 1 _ ((HW.out.alloc _).alloc _) (by rw [catL_one]; have := HL.out; simp [bl]; omega) (by simp) (by simpa using heap_alloc_new (w.alloc _) _) (by omega)).mono ?_
    rintro r w1 ⟨rfl, hw1, hk1⟩
    have hbx := hk1.cell (k := w.heap.size) (c := #[.int .i8 (exOp d e), .string (exTm d e).v, .int .i8 (exTm d e).x.k, .int .i64 (exTm d e).x.n, .string (exTm d e).x.t, exSl d e]) (t := 36) (fz := (0, 0)) (by rw [Lib.alloc_old _ _ _ (by simp)]; exact heap_alloc_new w _) (by omega) (by decide)
    obtain ⟨x0, x1, x2, x3, x4, x5⟩ := six hbx
    have HBX := Lib.hid hbx; clear hbx
    have H1 := Lib.hid hw1
    have hlt1 := hw1.lt; clear hw1
    have HK1 := Lib.hid (((Kp.alloc HW.out _).trans (Kp.alloc (HW.out.alloc _) _)).trans hk1); clear hk1
    go_wp2_with fail
    refine (IH.out w0 e n b _ _ HO.out (HEn.out.kp HK1.out) HT.out HA.out HR.out H1.out (by rw [catL_one]; have := HL.out; simp [bl]; omega)).mono ?_
    rintro r w2 ⟨rfl, hw2, hk2⟩
    clear x0 x1 x2 x3 x4 x5
    have H2 := Lib.hid hw2
    have hlt2 := hw2.lt; clear hw2
    have HK2 := Lib.hid hk2; clear hk2
    go_wp2_with fail
    refine (pPut b w2.heap.size _ [⟨#[41]⟩] 1 _ (H2.out.alloc _) (by rw [catL_one, catL_one]; have := HL.out; simp [bl]; omega) (by simp) (heap_alloc_new w2 _) (by omega)).mono ?_
    rintro r w3 ⟨rfl, hw3, hk3⟩
    have H3 := Lib.hid hw3; clear hw3
    have HK3 := Lib.hid hk3; clear hk3
    go_wp2_with fail
    go_end0
    exact ⟨rfl, wr_eq (by rw [HS.out, catL_one, catL_one]; simp [bl]) H3.out, ((HK1.out.trans HK2.out).trans (Kp.alloc H2.out _)).trans HK3.out⟩
end Go.Proofs.YtlghiakckkhekaaDoor
