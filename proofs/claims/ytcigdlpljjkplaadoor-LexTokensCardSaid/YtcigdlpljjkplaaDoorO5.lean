/- Rows of tokens that an append leaves. No program in sight. Conditions: none. -/
import Derived.Test.YtcigdlpljjkplaaDoorO3
namespace Go.Proofs.YtcigdlpljjkplaaDoor
open Go.RowKit

theorem TksAt.frame {w w' : World} {p : Option Addr} {l : List Tk} (h : TksAt w p l) (hs : w.heap.size ≤ w'.heap.size) (hb : ∀ a o, p = some ⟨a, o, none⟩ → a < w.heap.size → w'.heap[a]? = w.heap[a]?) : TksAt w' p l := by
  rcases h with h0 | ⟨a, o, hp, ha, hc⟩
  · exact .inl h0
  · refine .inr ⟨a, o, hp, by omega, fun i hi => ?_⟩
    have h1 := hb a o hp ha
    exact ⟨(World.cell?_of_block (w := w) h1).trans (hc i hi).c0, (World.cell?_of_block (w := w) h1).trans (hc i hi).c1, (World.cell?_of_block (w := w) h1).trans (hc i hi).c2, (World.cell?_of_block (w := w) h1).trans (hc i hi).c3⟩
/-- The head of an owned row. -/
theorem own_head {w : World} {B n g cap : Nat} {l m : List Tk} (h : w.ownsRow B 36 4 (.slice (some ⟨g, 0, none⟩) n cap) n ((l ++ m).flatMap Tk.cells)) (hn : (l ++ m).length = n) : TksAt w (some ⟨g, 0, none⟩) l := by
  rcases h.2 with ⟨hv, h0⟩ | ⟨g', cap', cur, hv, _, hg, _, _, _, htk⟩
  · exact .inl (by rw [List.length_append] at hn; omega)
  · obtain ⟨rfl, rfl⟩ : g = g' ∧ cap = cap' := by simpa using hv
    refine .inr ⟨g, 0, rfl, (Array.getElem?_eq_some_iff.1 hg).1, fun i hi => ?_⟩
    have h1 := cells_take hg htk hn i (by rw [List.length_append]; omega)
    rw [List.getElem_append_left hi] at h1
    rw [Nat.zero_add]
    exact h1
end Go.Proofs.YtcigdlpljjkplaaDoor
