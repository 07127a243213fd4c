/- The contracts of the reference's Expr. Conditions: each part says its own. -/
import Derived.Test.YtdgbenadoaecoaaDoorME
import Derived.StillTailTactics
import Derived.Deep.RegionHeld3
import Derived.Deep.Cut
import Derived.Deep.CutRange
import Derived.BigQuiet
/- The contracts of the reference's Fast, sign, word and within. Conditions: the operation is one; the expression lies in memory as it is told. -/
namespace Go.Proofs.YtdgbenadoaecoaaDoor
open Go.RowKit

theorem ops11 {op : Int} (h0 : 0 ≤ op) (h1 : op ≤ 10) : op = 0 ∨ op = 1 ∨ op = 2 ∨ op = 3 ∨ op = 4 ∨ op = 5 ∨ op = 6 ∨ op = 7 ∨ op = 8 ∨ op = 9 ∨ op = 10 := by omega
theorem bl_cat (a b : ByteArray) : bl (a ++ b) = bl a ++ bl b := by simp [bl]
theorem exprL_b {n d : Nat} {e : Ex d} (hn : n ≤ 8) (h : exOk n d e = true) (hr : ExR d e) : (exprL d e).length ≤ 207352 := by
  have h1 := exprL_le n d e h hr
  have h2 : 2 ^ n ≤ 2 ^ 8 := Nat.pow_le_pow_right (by omega) hn
  omega
end Go.Proofs.YtdgbenadoaecoaaDoor

/- The contract of the reference's expr, by its cases: a term, a word, a minus. Conditions: the expression lies in memory as it is told. -/
namespace Go.Proofs.YtdgbenadoaecoaaDoor
open Go.RowKit

end Go.Proofs.YtdgbenadoaecoaaDoor

/- The contract of the reference's expr at a minus. Conditions: the expression lies in memory as it is told. -/
namespace Go.Proofs.YtdgbenadoaecoaaDoor
open Go.RowKit

theorem Below.here {w w' : World} {B : Nat} {W : World} (h : Below w.heap.size w w') (hs : w.heap.size = B) (hh : ∀ k, k < B → w.heap[k]? = W.heap[k]?) (h1 : w.os = W.os) (h2 : w.tape = W.tape) (h3 : w.output = W.output) (h4 : W.heap.size ≤ w.heap.size) : Below B W w' :=
  ⟨h.os.trans h1, h.tape.trans h2, h.output.trans h3, Nat.le_trans h4 h.size, fun k hk => (h.block k (by omega)).trans (hh k hk)⟩
end Go.Proofs.YtdgbenadoaecoaaDoor

/- The contract of the reference's expr at two sides. Conditions: the expression lies in memory as it is told. -/
namespace Go.Proofs.YtdgbenadoaecoaaDoor
open Go.RowKit

/-- Two boxes behind what was there. -/
def TwoBox (W : World) (o1 : Int) (m1 : Tm) (v1 : Value) (o2 : Int) (m2 : Tm) (v2 : Value) (t5 t6 : Value) (wx : World) : Prop :=
  ∃ b5 b6, t5 = .pointer (some ⟨b5, 0, none⟩) ∧ t6 = .pointer (some ⟨b6, 0, none⟩) ∧ Below W.heap.size W wx ∧ b5 < wx.heap.size ∧ b6 < wx.heap.size ∧ ExCell wx b5 0 o1 m1 v1 ∧ ExCell wx b6 0 o2 m2 v2
theorem ex_of_six {w : World} {b : Nat} {o1 : Int} {m1 : Tm} {v1 : Value} {t : TypeId} {fz : Nat × Nat} (h : w.heap[b]? = some (.cells #[.int .i8 o1, .string m1.v, .int .i8 m1.x.k, .int .i64 m1.x.n, .string m1.x.t, v1] t fz)) : ExCell w b 0 o1 m1 v1 := by
  obtain ⟨a0, a1, a2, a3, a4, a5⟩ := six h
  exact ⟨a0, a1, a2, a3, a4, a5⟩
theorem new1 (w : World) (a b : Obj) : ((w.alloc a).alloc b).heap[w.heap.size + 1]? = some b := by
  have h := heap_alloc_new (w.alloc a) b
  rwa [show (w.alloc a).heap.size = w.heap.size + 1 by simp] at h
theorem two_ef (W : World) (o1 : Int) (m1 : Tm) (v1 : Value) (o2 : Int) (m2 : Tm) (v2 : Value) : TwoBox W o1 m1 v1 o2 m2 v2 (.pointer (some ⟨W.heap.size, 0, none⟩)) (.pointer (some ⟨W.heap.size + 1, 0, none⟩))
    ((W.alloc (.cells #[.int .i8 o1, .string m1.v, .int .i8 m1.x.k, .int .i64 m1.x.n, .string m1.x.t, v1] 83)).alloc (.cells #[.int .i8 o2, .string m2.v, .int .i8 m2.x.k, .int .i64 m2.x.n, .string m2.x.t, v2] 83)).drew :=
  ⟨W.heap.size, W.heap.size + 1, rfl, rfl, ((below_alloc _ _).trans ((below_alloc _ _).mono (by simp))).drew, by show _ < ((W.alloc _).alloc _).heap.size; simp; omega, by show _ < ((W.alloc _).alloc _).heap.size; simp,
    ex_of_six (t := 83) (fz := (0, 0)) ((Lib.alloc_old _ _ _ (by simp)).trans (heap_alloc_new W _)), ex_of_six (t := 83) (fz := (0, 0)) (new1 W _ _)⟩
theorem two_fe (W : World) (o1 : Int) (m1 : Tm) (v1 : Value) (o2 : Int) (m2 : Tm) (v2 : Value) : TwoBox W o1 m1 v1 o2 m2 v2 (.pointer (some ⟨W.heap.size + 1, 0, none⟩)) (.pointer (some ⟨W.heap.size, 0, none⟩))
    ((W.alloc (.cells #[.int .i8 o2, .string m2.v, .int .i8 m2.x.k, .int .i64 m2.x.n, .string m2.x.t, v2] 83)).alloc (.cells #[.int .i8 o1, .string m1.v, .int .i8 m1.x.k, .int .i64 m1.x.n, .string m1.x.t, v1] 83)).drew :=
  ⟨W.heap.size + 1, W.heap.size, rfl, rfl, ((below_alloc _ _).trans ((below_alloc _ _).mono (by simp))).drew, by show _ < ((W.alloc _).alloc _).heap.size; simp, by show _ < ((W.alloc _).alloc _).heap.size; simp; omega,
    ex_of_six (t := 83) (fz := (0, 0)) (new1 W _ _), ex_of_six (t := 83) (fz := (0, 0)) ((Lib.alloc_old _ _ _ (by simp)).trans (heap_alloc_new W _))⟩
end Go.Proofs.YtdgbenadoaecoaaDoor

/- The contracts of the reference's check of expressions. Conditions: the expression lies in memory as it is told; a text is no longer than the model lets any be. -/
namespace Go.Proofs.YtdgbenadoaecoaaDoor
open Go.RowKit

theorem tm_ne0 (v : ByteArray) (k n : Int) (t : ByteArray) (w : World) :
    (binOp .neq 52 (.agg #[.string v, .int .i8 k, .int .i64 n, .string t]) (.agg #[.string ⟨#[]⟩, .int .i8 0, .int .i64 0, .string ⟨#[]⟩])).run Tryd.prog w = .ok (.bool (!tmZero ⟨v, ⟨k, n, t⟩⟩)) w := by
  by_cases hv : v.toList = []
  · by_cases hk : k = 0
    · by_cases hn : n = 0
      · subst hk; subst hn
        go_simp
        by_cases ht : t.toList = [] <;> simp [tmZero, vlZero, bl, ← ByteArray.toList_eq, ht, hv]
      · subst hk
        go_simp
        simp [tmZero, vlZero, hn]
    · go_simp
      simp [tmZero, vlZero, hk]
  · go_simp
    simp [tmZero, bl, ← ByteArray.toList_eq, hv]
theorem all_no {α : Type} (p : α → Bool) (l : List α) (k : Nat) (h : k < l.length) (hp : p l[k] = false) : l.all p = false := by
  rw [List.all_eq_false]
  exact ⟨l[k], List.getElem_mem h, by simp [hp]⟩
theorem all_yes {α : Type} (p : α → Bool) (l : List α) (h : ∀ j, (hj : j < l.length) → p l[j] = true) : l.all p = true := by
  rw [List.all_eq_true]
  intro x hx
  obtain ⟨j, hj, rfl⟩ := List.mem_iff_getElem.1 hx
  exact h j hj
end Go.Proofs.YtdgbenadoaecoaaDoor

/- The contract of the reference's Expr. Conditions: the expression lies in memory as it is told. -/
namespace Go.Proofs.YtdgbenadoaecoaaDoor
open Go.RowKit

end Go.Proofs.YtdgbenadoaecoaaDoor
