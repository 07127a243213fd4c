/- Copies of lists of terms and of atoms: the contracts of LeftTerms, TwinAtom, LeftAtom. Conditions: the terms lie in memory as they are told, the list is not too long. -/
import Derived.Test.YtdgbenadoaecoaaDoorB2
namespace Go.Proofs.YtdgbenadoaecoaaDoor
open Go.RowKit

theorem two {w : World} {b : Nat} {x0 x1 : Value} {t : TypeId} {fz : Nat × Nat} (h : w.heap[b]? = some (.cells #[x0, x1] t fz)) :
    w.cell? ⟨b, 0, none⟩ = some x0 ∧ w.cell? ⟨b, 1, none⟩ = some x1 := ⟨by rw [Lib.cell_of_heap h]; rfl, by rw [Lib.cell_of_heap h]; rfl⟩
/-- What a call leaves that copies an atom. -/
def TaPost (p : ByteArray) (ts : List Tm) (w : World) (r : Ending) (w' : World) : Prop :=
  ∃ a, r = .returned (.agg #[.string p, .slice (some ⟨a, 0, none⟩) ts.length (ts.length + 1)]) ∧ w.heap.size ≤ a ∧ TwTm w' a ts ∧ Below w.heap.size w w'
end Go.Proofs.YtdgbenadoaecoaaDoor
