/- Blocks written whole, cell by cell. No program in sight. Conditions: none. -/
import Derived.Test.YtdgbenadoaecoaaDoorMC
namespace Go.Proofs.YtdgbenadoaecoaaDoor
open Go.RowKit

/-- Cells written one behind the other into a block. -/
def putL (w : World) (a : Nat) : Nat → List Value → World
  | _, [] => w
  | o, v :: r => putL (w.setCell ⟨a, o, none⟩ v) a (o + 1) r
theorem putL_block {a k : Nat} (h : k ≠ a) : ∀ (vs : List Value) (w : World) (o : Nat), (putL w a o vs).heap[k]? = w.heap[k]?
  | [], _, _ => rfl
  | v :: r, w, o => by rw [putL, putL_block h r, Below.heap_setCell _ _ _ _ h]
theorem putL_size {a : Nat} : ∀ (vs : List Value) (w : World) (o : Nat), (putL w a o vs).heap.size = w.heap.size
  | [], _, _ => rfl
  | v :: r, _, _ => by rw [putL, putL_size r]; simp [World.setCell]
theorem putL_below {B : Nat} {w0 : World} {a : Nat} (ha : B ≤ a) : ∀ (vs : List Value) (w : World) (o : Nat), Below B w0 w → Below B w0 (putL w a o vs)
  | [], _, _, h => h
  | v :: r, _, o, h => putL_below ha r _ _ (h.setCell (p := ⟨a, o, none⟩) ha v)
theorem putL_cells {a : Nat} {t : TypeId} {fz : Nat × Nat} : ∀ (vs : List Value) (w : World) (o : Nat) (cs : Array Value), w.heap[a]? = some (.cells cs t fz) → cs.size = o + vs.length →
    (putL w a o vs).heap[a]? = some (.cells ⟨cs.toList.take o ++ vs⟩ t fz)
  | [], w, o, cs, h, hs => by
    rw [putL, h]
    congr 2
    apply Array.toList_inj.1
    have : cs.toList.length ≤ o := by simp at hs; simp; omega
    rw [List.take_of_length_le this]
    simp
  | v :: r, w, o, cs, h, hs => by
    have h1 : (w.setCell ⟨a, o, none⟩ v).heap[a]? = some (.cells (cs.setIfInBounds o v) t fz) := by simp [World.setCell, Array.getElem?_modify, h]
    rw [putL, putL_cells r _ (o + 1) _ h1 (by simp at hs ⊢; omega)]
    congr 2
    have ho : o < cs.toList.length := by simp at hs; simp; omega
    have h2 : (cs.setIfInBounds o v).toList.take (o + 1) = cs.toList.take o ++ [v] := by
      rw [Array.toList_setIfInBounds, List.take_set, List.take_succ_eq_append_getElem ho]
      rw [List.set_append_right _ _ (by simp; omega)]
      have h3 : o - (cs.toList.take o).length = 0 := by simp; omega
      rw [h3]
      rfl
    rw [h2]
    simp
theorem putL_heap {w : World} {a : Nat} {cs : Array Value} {t : TypeId} {fz : Nat × Nat} (vs : List Value) (h : w.heap[a]? = some (.cells cs t fz)) (hs : cs.size = vs.length) : (putL w a 0 vs).heap[a]? = some (.cells ⟨vs⟩ t fz) := by
  rw [putL_cells vs w 0 cs h (by omega)]
  simp
end Go.Proofs.YtdgbenadoaecoaaDoor
