/- What the texts on lex share. Conditions: none. -/
import Derived.Test.YtcigdlpljjkplaaDoorW7
namespace Go.Proofs.YtcigdlpljjkplaaDoor
open Go.RowKit

theorem below_alloc (w : World) (o : Obj) : Below w.heap.size w (w.alloc o) := (Below.refl _ _).alloc (Nat.le_refl _) _
theorem Wr.alloc {T b : Nat} {l : List UInt8} {w : World} (h : Wr T b l w) (o : Obj) : Wr T b l (w.alloc o) := h.up (below_alloc w o)
theorem Kp.alloc {T b : Nat} {l : List UInt8} {w : World} (h : Wr T b l w) (o : Obj) : Kp b w (w.alloc o) := Kp.of_below h.lt (below_alloc w o)
theorem Wr.drew {T b : Nat} {l : List UInt8} {w : World} (h : Wr T b l w) : Wr T b l w.drew := h
theorem str_at (s : ByteArray) (l : List UInt8) (h : bl s = l) : s = ⟨l.toArray⟩ := by rw [← h, str_eta]
theorem ret_bytes {a : ByteArray} {l : List UInt8} (h : bl a = l) : Ending.returned (.string a) = .returned (.string ⟨l.toArray⟩) := by
  rw [← h, str_eta]
theorem four {w : World} {b : Nat} {x0 x1 x2 x3 : Value} {t : TypeId} {fz : Nat × Nat} (h : w.heap[b]? = some (.cells #[x0, x1, x2, x3] t fz)) :
    w.cell? ⟨b, 0, none⟩ = some x0 ∧ w.cell? ⟨b, 1, none⟩ = some x1 ∧ w.cell? ⟨b, 2, none⟩ = some x2 ∧ w.cell? ⟨b, 3, none⟩ = some x3 :=
  ⟨by rw [Lib.cell_of_heap h]; rfl, by rw [Lib.cell_of_heap h]; rfl, by rw [Lib.cell_of_heap h]; rfl, by rw [Lib.cell_of_heap h]; rfl⟩
theorem two {w : World} {b : Nat} {x0 x1 : Value} {t : TypeId} {fz : Nat × Nat} (h : w.heap[b]? = some (.cells #[x0, x1] t fz)) :
    w.cell? ⟨b, 0, none⟩ = some x0 ∧ w.cell? ⟨b, 1, none⟩ = some x1 := ⟨by rw [Lib.cell_of_heap h]; rfl, by rw [Lib.cell_of_heap h]; rfl⟩
theorem bl_extract (s : ByteArray) (a b : Nat) : bl (s.extract a b) = ((bl s).drop a).take (b - a) := by
  simp [bl, ByteArray.data_extract, Array.toList_extract, List.extract_eq_take_drop]
end Go.Proofs.YtcigdlpljjkplaaDoor
