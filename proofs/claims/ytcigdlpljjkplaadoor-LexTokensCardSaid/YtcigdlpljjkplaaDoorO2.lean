/- A row of tokens that the call owns: one of them written anew. No program in sight. Conditions: none. -/
import Derived.Test.YtcigdlpljjkplaaDoorO1
namespace Go.Proofs.YtcigdlpljjkplaaDoor
open Go.RowKit

/-- Four cells of a block, written one by one. -/
def putT (w : World) (a o : Nat) (x : Tk) : World :=
  (((w.setCell ⟨a, o, none⟩ (.int .i8 x.k)).setCell ⟨a, o + 1, none⟩ (.string x.t)).setCell ⟨a, o + 2, none⟩ (.int .i64 x.n)).setCell ⟨a, o + 3, none⟩ (.int .i64 x.p)
def setT (cs : Array Value) (o : Nat) (x : Tk) : Array Value :=
  (((cs.setIfInBounds o (.int .i8 x.k)).setIfInBounds (o + 1) (.string x.t)).setIfInBounds (o + 2) (.int .i64 x.n)).setIfInBounds (o + 3) (.int .i64 x.p)
theorem putT_heap {w : World} {a : Nat} {cs : Array Value} {t : TypeId} {fz : Nat × Nat} (h : w.heap[a]? = some (.cells cs t fz)) (o : Nat) (x : Tk) :
    (putT w a o x).heap[a]? = some (.cells (setT cs o x) t fz) := by
  simp [putT, setT, World.setCell, Array.getElem?_modify, h]
theorem putT_block (w : World) {a k : Nat} (h : k ≠ a) (o : Nat) (x : Tk) : (putT w a o x).heap[k]? = w.heap[k]? := by
  unfold putT
  rw [Below.heap_setCell _ _ _ _ h, Below.heap_setCell _ _ _ _ h, Below.heap_setCell _ _ _ _ h, Below.heap_setCell _ _ _ _ h]
theorem putT_below {B : Nat} {w0 w : World} (h : Below B w0 w) {a : Nat} (ha : B ≤ a) (o : Nat) (x : Tk) : Below B w0 (putT w a o x) :=
  (((h.setCell (p := ⟨a, o, none⟩) ha _).setCell (p := ⟨a, o + 1, none⟩) ha _).setCell (p := ⟨a, o + 2, none⟩) ha _).setCell (p := ⟨a, o + 3, none⟩) ha _
theorem putT_size (w : World) (a o : Nat) (x : Tk) : (putT w a o x).heap.size = w.heap.size := by simp [putT, World.setCell]
theorem flat_set : ∀ (l : List Tk) (j : Nat) (x : Tk), j < l.length →
    ((((l.flatMap Tk.cells).set (j * 4) (.int .i8 x.k)).set (j * 4 + 1) (.string x.t)).set (j * 4 + 2) (.int .i64 x.n)).set (j * 4 + 3) (.int .i64 x.p) = (l.set j x).flatMap Tk.cells
  | [], j, x, h => by simp at h
  | y :: r, 0, x, _ => by simp [Tk.cells]
  | y :: r, j + 1, x, h => by
    have ih := flat_set r j x (by simpa using h)
    rw [List.set_cons_succ, List.flatMap_cons, List.flatMap_cons, ← ih, show (j + 1) * 4 = j * 4 + 4 by omega]
    simp [Tk.cells]
theorem own_putT {w : World} {B n g cap : Nat} {l : List Tk} (hl : l.length = n) (h : w.ownsRow B 36 4 (.slice (some ⟨g, 0, none⟩) n cap) n (l.flatMap Tk.cells)) {j : Nat} (hj : j < n) (x : Tk) :
    (putT w g (j * 4) x).ownsRow B 36 4 (.slice (some ⟨g, 0, none⟩) n cap) n ((l.set j x).flatMap Tk.cells) := by
  refine ⟨by rw [tks_len, List.length_set, hl], ?_⟩
  rcases h.2 with ⟨hv, h0⟩ | ⟨g', cap', cur, hv, hB, hg, h1, h2, h3, htk⟩
  · omega
  · obtain ⟨rfl, rfl⟩ : g = g' ∧ cap = cap' := by simpa using hv
    refine .inr ⟨g, cap, setT cur (j * 4) x, rfl, hB, putT_heap hg _ _, h1, h2, by simp [setT, h3], ?_⟩
    rw [← flat_set l j x (by omega), ← htk]
    simp [setT, List.take_set]
/-- What another block's turning leaves. -/
theorem own_frame {w w' : World} {B n m : Nat} {e : TypeId} {v : Value} {xs : List Value} (h : w.ownsRow B e m v n xs) (hb : ∀ k, v.ownBlock = some k → w'.heap[k]? = w.heap[k]?) : w'.ownsRow B e m v n xs := by
  refine ⟨h.1, ?_⟩
  rcases h.2 with h0 | ⟨g, cap, cur, hv, hB, hg, h1⟩
  · exact .inl h0
  · exact .inr ⟨g, cap, cur, hv, hB, by rw [hb g (by rw [hv]; rfl)]; exact hg, h1⟩
end Go.Proofs.YtcigdlpljjkplaaDoor
