/- Literals: the plain data; the contracts of the two tests for the empty expression and of the reference's check of literals. Conditions: the literal lies in memory as it is told. -/
import Derived.Test.YtdgbenadoaecoaaDoorA2
import Derived.Test.YtdgbenadoaecoaaDoorMF
namespace Go.Proofs.YtdgbenadoaecoaaDoor
open Go.RowKit

/-- How many kids an expression has. -/
def exLen : (d : Nat) → Ex d → Nat
  | 0, e => nomatch e
  | _ + 1, e => e.2.2.2.length
theorem ex_sl2 {w : World} : {d : Nat} → {e : Ex d} → ExAt w d e → ∃ p c, exSl d e = .slice p (exLen d e) c
  | 0, e, _ => nomatch e
  | _ + 1, _, ⟨p, cap, h1, _⟩ => ⟨p, cap, h1⟩
/-- Is it the empty expression? -/
def noB (op : Int) (t : Tm) (l : Nat) : Bool := op == 0 && tmZero t && decide (l = 0)
/-- A literal: its kind, its atom, its relation, its two sides. -/
structure Lt (d : Nat) where
  k : Int
  p : ByteArray
  ts : List Tm
  sv : Value
  r : Int
  l : Ex d
  g : Ex d
def ltOk {d : Nat} (x : Lt d) : Bool :=
  if x.k = 1 ∨ x.k = 2 then atOk x.p x.ts && (x.r == 0) && noB (exOp d x.l) (exTm d x.l) (exLen d x.l) && noB (exOp d x.g) (exTm d x.g) (exLen d x.g)
  else if x.k = 3 then (bl x.p).isEmpty && decide (x.ts.length = 0) && decide (1 ≤ x.r) && decide (x.r ≤ 6) && exOk 8 d x.l && exOk 8 d x.g
  else false
/-- How a literal lies in memory. -/
structure LtAt (w : World) {d : Nat} (x : Lt d) : Prop where
  at_ : TmSl w x.sv x.ts
  l_ : ExAt w d x.l
  g_ : ExAt w d x.g
structure LtR {d : Nat} (x : Lt d) : Prop where
  p_ : x.p.size ≤ maxLen
  ts_ : TmsR x.ts
  l_ : ExR d x.l
  g_ : ExR d x.g
theorem LtAt.up {w w' : World} {d : Nat} {x : Lt d} (h : LtAt w x) (hb : Below w.heap.size w w') : LtAt w' x := ⟨h.at_.up hb, ExAt.up hb d _ h.l_, ExAt.up hb d _ h.g_⟩
theorem sixteen {w : World} {b : Nat} {x0 x1 x2 x3 x4 x5 x6 x7 x8 x9 x10 x11 x12 x13 x14 x15 : Value} {t : TypeId} {fz : Nat × Nat} (h : w.heap[b]? = some (.cells #[x0, x1, x2, x3, x4, x5, x6, x7, x8, x9, x10, x11, x12, x13, x14, x15] t fz)) :
    w.cell? ⟨b, 0, none⟩ = some x0 ∧ w.cell? ⟨b, 1, none⟩ = some x1 ∧ w.cell? ⟨b, 2, none⟩ = some x2 ∧ w.cell? ⟨b, 3, none⟩ = some x3 ∧ w.cell? ⟨b, 4, none⟩ = some x4 ∧ w.cell? ⟨b, 5, none⟩ = some x5 ∧ w.cell? ⟨b, 6, none⟩ = some x6 ∧ w.cell? ⟨b, 7, none⟩ = some x7 ∧ w.cell? ⟨b, 8, none⟩ = some x8 ∧ w.cell? ⟨b, 9, none⟩ = some x9 ∧ w.cell? ⟨b, 10, none⟩ = some x10 ∧ w.cell? ⟨b, 11, none⟩ = some x11 ∧ w.cell? ⟨b, 12, none⟩ = some x12 ∧ w.cell? ⟨b, 13, none⟩ = some x13 ∧ w.cell? ⟨b, 14, none⟩ = some x14 ∧ w.cell? ⟨b, 15, none⟩ = some x15 :=
  ⟨by rw [Lib.cell_of_heap h]; rfl, by rw [Lib.cell_of_heap h]; rfl, by rw [Lib.cell_of_heap h]; rfl, by rw [Lib.cell_of_heap h]; rfl, by rw [Lib.cell_of_heap h]; rfl, by rw [Lib.cell_of_heap h]; rfl, by rw [Lib.cell_of_heap h]; rfl, by rw [Lib.cell_of_heap h]; rfl, by rw [Lib.cell_of_heap h]; rfl, by rw [Lib.cell_of_heap h]; rfl, by rw [Lib.cell_of_heap h]; rfl, by rw [Lib.cell_of_heap h]; rfl, by rw [Lib.cell_of_heap h]; rfl, by rw [Lib.cell_of_heap h]; rfl, by rw [Lib.cell_of_heap h]; rfl, by rw [Lib.cell_of_heap h]; rfl⟩
set_option maxHeartbeats 2000000 in
theorem tEmpty (op : Int) (v : ByteArray) (k n : Int) (t : ByteArray) (p : Option Addr) (l c : Nat) (w : World) :
    Calls Tryd.prog 58 #[.agg #[.int .i8 op, .string v, .int .i8 k, .int .i64 n, .string t, .slice p l c]] w fun e w' => e = .returned (.bool (noB op ⟨v, ⟨k, n, t⟩⟩ l)) ∧ Below w.heap.size w w' := by
  obtain ⟨W, hW⟩ : ∃ W, W = w.alloc (.cells #[.int .i8 op, .string v, .int .i8 k, .int .i64 n, .string t, .slice p l c] 83) := ⟨_, rfl⟩
  have HBW := Lib.hid (show Below w.heap.size w W by rw [hW]; exact below_alloc _ _)
  have hsW : W.heap.size = w.heap.size + 1 := by rw [hW]; simp
  have HBX := Lib.hid (show W.heap[w.heap.size]? = some (.cells #[.int .i8 op, .string v, .int .i8 k, .int .i64 n, .string t, .slice p l c] 83 (0, 0)) by rw [hW]; exact heap_alloc_new w _)
  rcases h0 : (op == 0) with _ | _
  · have HE := Lib.hid (show noB op ⟨v, ⟨k, n, t⟩⟩ l = false by simp [noB, h0])
    clear hW
    go_enter Tryd.func58, Tryd.ntmps58
    go_wp2_with fail
    go_ret
    exact ⟨ret_bool HE.out.symm, below_alloc _ _⟩
  · rcases hz : tmZero ⟨v, ⟨k, n, t⟩⟩ with _ | _
    all_goals have HZ := Lib.hid hz
    all_goals clear hz
    · have HE := Lib.hid (show noB op ⟨v, ⟨k, n, t⟩⟩ l = false by simp [noB, HZ.out])
      go_enter Tryd.func58, Tryd.ntmps58
      go_wp2_with fail
      rw [← hW]
      clear hW
      refine (tNone v k n t _).mono ?_
      rintro e w1 ⟨rfl, hb⟩
      have Hb := Lib.hid hb; clear hb
      rw [HZ.out]
      go_wp2_with fail
      go_ret
      exact ⟨ret_bool HE.out.symm, HBW.out.trans (Hb.out.mono (by omega))⟩
    · have HE := Lib.hid (show noB op ⟨v, ⟨k, n, t⟩⟩ l = ((l : Int) == 0) by
        unfold noB
        rw [h0, HZ.out, Bool.eq_iff_iff]
        simp)
      go_enter Tryd.func58, Tryd.ntmps58
      go_wp2_with fail
      rw [← hW]
      clear hW
      refine (tNone v k n t _).mono ?_
      rintro e w1 ⟨rfl, hb⟩
      obtain ⟨x0, x1, x2, x3, x4, x5⟩ := six ((hb.block w.heap.size (by omega)).trans HBX.out)
      have Hb := Lib.hid hb; clear hb
      rw [HZ.out]
      go_wp2_with fail
      go_ret
      exact ⟨ret_bool HE.out.symm, HBW.out.trans (Hb.out.mono (by omega))⟩
end Go.Proofs.YtdgbenadoaecoaaDoor
