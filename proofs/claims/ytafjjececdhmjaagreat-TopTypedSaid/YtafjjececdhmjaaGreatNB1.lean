/- Copies of lists of terms: the contracts of TwinTerms, markTerm, isTerm, SameTerms, LeftTerms. Conditions: the terms lie in memory as they are told, the list is not too long. -/
import Derived.Test.YtafjjececdhmjaaGreatNMG
import Derived.Deep.OwnRows
import Derived.Deep.RegionHeld3
namespace Go.Proofs.YtafjjececdhmjaaGreat
open Go.RowKit

/-- Four cells of a block, written one by one. -/
def put4 (w : World) (a o : Nat) (v0 v1 v2 v3 : Value) : World :=
  (((w.setCell ⟨a, o, none⟩ v0).setCell ⟨a, o + 1, none⟩ v1).setCell ⟨a, o + 2, none⟩ v2).setCell ⟨a, o + 3, none⟩ v3
def set4 (cs : Array Value) (o : Nat) (v0 v1 v2 v3 : Value) : Array Value :=
  (((cs.setIfInBounds o v0).setIfInBounds (o + 1) v1).setIfInBounds (o + 2) v2).setIfInBounds (o + 3) v3
theorem set4_size (cs : Array Value) (o : Nat) (v0 v1 v2 v3 : Value) : (set4 cs o v0 v1 v2 v3).size = cs.size := by simp [set4]
theorem set4_far (cs : Array Value) (o : Nat) (v0 v1 v2 v3 : Value) (i : Nat) (h : i < o ∨ o + 3 < i) : (set4 cs o v0 v1 v2 v3)[i]? = cs[i]? := by
  unfold set4
  rw [Array.getElem?_setIfInBounds_ne (by omega), Array.getElem?_setIfInBounds_ne (by omega), Array.getElem?_setIfInBounds_ne (by omega), Array.getElem?_setIfInBounds_ne (by omega)]
theorem set4_at (cs : Array Value) (o : Nat) (v0 v1 v2 v3 : Value) (h : o + 3 < cs.size) :
    (set4 cs o v0 v1 v2 v3)[o]? = some v0 ∧ (set4 cs o v0 v1 v2 v3)[o + 1]? = some v1 ∧ (set4 cs o v0 v1 v2 v3)[o + 2]? = some v2 ∧ (set4 cs o v0 v1 v2 v3)[o + 3]? = some v3 := by
  have h0 : o < cs.size := by omega
  have h1 : o + 1 < cs.size := by omega
  have h2 : o + 2 < cs.size := by omega
  unfold set4
  simp [h, h0, h1, h2]
theorem put4_heap {w : World} {a : Nat} {cs : Array Value} {t : TypeId} {fz : Nat × Nat} (h : w.heap[a]? = some (.cells cs t fz)) (o : Nat) (v0 v1 v2 v3 : Value) :
    (put4 w a o v0 v1 v2 v3).heap[a]? = some (.cells (set4 cs o v0 v1 v2 v3) t fz) := by
  simp [put4, set4, World.setCell, Array.getElem?_modify, h]
theorem put4_block (w : World) {a k : Nat} (h : k ≠ a) (o : Nat) (v0 v1 v2 v3 : Value) : (put4 w a o v0 v1 v2 v3).heap[k]? = w.heap[k]? := by
  unfold put4
  rw [Below.heap_setCell _ _ _ _ h, Below.heap_setCell _ _ _ _ h, Below.heap_setCell _ _ _ _ h, Below.heap_setCell _ _ _ _ h]
theorem put4_below {B : Nat} {w0 w : World} (h : Below B w0 w) {a : Nat} (ha : B ≤ a) (o : Nat) (v0 v1 v2 v3 : Value) : Below B w0 (put4 w a o v0 v1 v2 v3) :=
  (((h.setCell (p := ⟨a, o, none⟩) ha v0).setCell (p := ⟨a, o + 1, none⟩) ha v1).setCell (p := ⟨a, o + 2, none⟩) ha v2).setCell (p := ⟨a, o + 3, none⟩) ha v3
theorem put4_size (w : World) (a o : Nat) (v0 v1 v2 v3 : Value) : (put4 w a o v0 v1 v2 v3).heap.size = w.heap.size := by simp [put4, World.setCell]
theorem TmCell.of_cells {w : World} {a o : Nat} {m : Tm} {cs : Array Value} {t : TypeId} {fz : Nat × Nat} (h : w.heap[a]? = some (.cells cs t fz)) (c0 : cs[o]? = some (.string m.v)) (c1 : cs[o + 1]? = some (.int .i8 m.x.k))
    (c2 : cs[o + 2]? = some (.int .i64 m.x.n)) (c3 : cs[o + 3]? = some (.string m.x.t)) : TmCell w a o m :=
  ⟨by rw [Lib.cell_of_heap h]; exact c0, by rw [Lib.cell_of_heap h]; exact c1, by rw [Lib.cell_of_heap h]; exact c2, by rw [Lib.cell_of_heap h]; exact c3⟩
theorem put4_keeps {w : World} {a o o' : Nat} {m : Tm} {cs : Array Value} {t : TypeId} {fz : Nat × Nat} (h : w.heap[a]? = some (.cells cs t fz)) (hc : TmCell w a o' m) (ho : o' + 3 < o ∨ o + 3 < o') (v0 v1 v2 v3 : Value) :
    TmCell (put4 w a o v0 v1 v2 v3) a o' m := by
  obtain ⟨c0, c1, c2, c3⟩ := hc
  rw [Lib.cell_of_heap h] at c0 c1 c2 c3
  refine TmCell.of_cells (put4_heap h o v0 v1 v2 v3) ?_ ?_ ?_ ?_
  all_goals rw [set4_far _ _ _ _ _ _ _ (by omega)]
  all_goals assumption
theorem put4_new {w : World} {a o : Nat} {cs : Array Value} {t : TypeId} {fz : Nat × Nat} (h : w.heap[a]? = some (.cells cs t fz)) (ho : o + 3 < cs.size) (m : Tm) :
    TmCell (put4 w a o (.string m.v) (.int .i8 m.x.k) (.int .i64 m.x.n) (.string m.x.t)) a o m := by
  obtain ⟨h0, h1, h2, h3⟩ := set4_at cs o (.string m.v) (.int .i8 m.x.k) (.int .i64 m.x.n) (.string m.x.t) ho
  exact TmCell.of_cells (put4_heap h _ _ _ _ _) h0 h1 h2 h3
theorem TmCell.of_block {w w' : World} {a o : Nat} {t : Tm} (h : TmCell w a o t) (hb : w'.heap[a]? = w.heap[a]?) : TmCell w' a o t :=
  ⟨(World.cell?_of_block (w := w) hb).trans h.c0, (World.cell?_of_block (w := w) hb).trans h.c1, (World.cell?_of_block (w := w) hb).trans h.c2, (World.cell?_of_block (w := w) hb).trans h.c3⟩
theorem four {w : World} {b : Nat} {x0 x1 x2 x3 : Value} {t : TypeId} {fz : Nat × Nat} (h : w.heap[b]? = some (.cells #[x0, x1, x2, x3] t fz)) :
    w.cell? ⟨b, 0, none⟩ = some x0 ∧ w.cell? ⟨b, 1, none⟩ = some x1 ∧ w.cell? ⟨b, 2, none⟩ = some x2 ∧ w.cell? ⟨b, 3, none⟩ = some x3 :=
  ⟨by rw [Lib.cell_of_heap h]; rfl, by rw [Lib.cell_of_heap h]; rfl, by rw [Lib.cell_of_heap h]; rfl, by rw [Lib.cell_of_heap h]; rfl⟩
theorem infoTm : (Tryz.prog.info? 93).map (fun i => (i.zero, i.size, i.bytes)) = some (some (.agg #[.string ⟨#[]⟩, .int .i8 0, .int .i64 0, .string ⟨#[]⟩]), 4, 48) := by kernel_rfl
theorem make_tm (n : Nat) (hn : n ≤ 2932031007317) (w : World) : (Instr.makeSlice 24 (.int .i64 ((n : Int) + 1)) (.int .i64 ((n : Int) + 1))).run Tryz.prog w =
    .ok (.slice (some ⟨w.heap.size, 0, none⟩) (n + 1) (n + 1)) (w.alloc (.cells (madeCells #[.string ⟨#[]⟩, .int .i8 0, .int .i64 0, .string ⟨#[]⟩] ((n + 1) * 4)) 93)) := by
  obtain ⟨i, hi, hzz⟩ := Option.map_eq_some_iff.1 infoTm
  simp only [Prod.mk.injEq] at hzz
  obtain ⟨hz, hs, hb⟩ := hzz
  have h := run_make (P := Tryz.prog) w 24 93 i _ Tryz.underlying24 hi hz .i64 .i64 ((n : Int) + 1) ((n : Int) + 1) (by omega) (Int.le_refl _) (by rw [hb]; omega) (by omega)
  rw [h, hs, show ((n : Int) + 1).toNat = n + 1 by omega]
  rfl
end Go.Proofs.YtafjjececdhmjaaGreat
