/- Copies of lists of values: the contracts of markValue, isValue, TwinValues, SameValues, LeftValues. Conditions: the values lie in memory as they are told, the list is not too long. -/
import Derived.Test.YtdgbenadoaecoaaDoorMG
import Derived.Deep.OwnRows
import Derived.Deep.RegionHeld3
namespace Go.Proofs.YtdgbenadoaecoaaDoor
open Go.RowKit

/-- A value's three cells. -/
structure VlCell (w : World) (a o : Nat) (x : Vl) : Prop where
  c0 : w.cell? ⟨a, o, none⟩ = some (.int .i8 x.k)
  c1 : w.cell? ⟨a, o + 1, none⟩ = some (.int .i64 x.n)
  c2 : w.cell? ⟨a, o + 2, none⟩ = some (.string x.t)
structure VlsAt (w : World) (a o : Nat) (xs : List Vl) : Prop where
  lt : a < w.heap.size
  at_ : ∀ i, (h : i < xs.length) → VlCell w a (o + i * 3) xs[i]
theorem VlCell.up {w w' : World} {B a o : Nat} {x : Vl} (h : VlCell w a o x) (hb : Below B w w') (ha : a < B) : VlCell w' a o x :=
  ⟨(hb.cell (p := ⟨a, o, none⟩) ha).trans h.c0, (hb.cell (p := ⟨a, o + 1, none⟩) ha).trans h.c1, (hb.cell (p := ⟨a, o + 2, none⟩) ha).trans h.c2⟩
theorem VlsAt.up {w w' : World} {B a o : Nat} {xs : List Vl} (h : VlsAt w a o xs) (hb : Below B w w') (ha : a < B) : VlsAt w' a o xs :=
  ⟨Nat.lt_of_lt_of_le h.lt hb.size, fun i hi => (h.at_ i hi).up hb ha⟩
def VlsR (xs : List Vl) : Prop := ∀ x ∈ xs, VlR x.k x.n x.t
/-- A slice value that reads as these values. -/
def VlSl (w : World) (v : Value) (xs : List Vl) : Prop := ∃ p cap, v = .slice p xs.length cap ∧ xs.length ≤ maxLen ∧ (xs.length = 0 ∨ ∃ a o, p = some ⟨a, o, none⟩ ∧ VlsAt w a o xs)
theorem VlSl.upB {w w' : World} {B : Nat} {v : Value} {xs : List Vl} (h : VlSl w v xs) (hb : Below B w w') (hB : w.heap.size ≤ B) : VlSl w' v xs := by
  obtain ⟨p, cap, hv, hm, h⟩ := h
  refine ⟨p, cap, hv, hm, ?_⟩
  rcases h with h | ⟨a, o, hp, h⟩
  · exact .inl h
  · exact .inr ⟨a, o, hp, h.up hb (Nat.lt_of_lt_of_le h.lt hB)⟩
theorem VlSl.up {w w' : World} {v : Value} {xs : List Vl} (h : VlSl w v xs) (hb : Below w.heap.size w w') : VlSl w' v xs := h.upB hb (Nat.le_refl _)
/-- Three cells of a block, written one by one. -/
def put3 (w : World) (a o : Nat) (v0 v1 v2 : Value) : World :=
  ((w.setCell ⟨a, o, none⟩ v0).setCell ⟨a, o + 1, none⟩ v1).setCell ⟨a, o + 2, none⟩ v2
def set3 (cs : Array Value) (o : Nat) (v0 v1 v2 : Value) : Array Value :=
  ((cs.setIfInBounds o v0).setIfInBounds (o + 1) v1).setIfInBounds (o + 2) v2
theorem set3_size (cs : Array Value) (o : Nat) (v0 v1 v2 : Value) : (set3 cs o v0 v1 v2).size = cs.size := by simp [set3]
theorem set3_far (cs : Array Value) (o : Nat) (v0 v1 v2 : Value) (i : Nat) (h : i < o ∨ o + 2 < i) : (set3 cs o v0 v1 v2)[i]? = cs[i]? := by
  unfold set3
  rw [Array.getElem?_setIfInBounds_ne (by omega), Array.getElem?_setIfInBounds_ne (by omega), Array.getElem?_setIfInBounds_ne (by omega)]
theorem set3_at (cs : Array Value) (o : Nat) (v0 v1 v2 : Value) (h : o + 2 < cs.size) :
    (set3 cs o v0 v1 v2)[o]? = some v0 ∧ (set3 cs o v0 v1 v2)[o + 1]? = some v1 ∧ (set3 cs o v0 v1 v2)[o + 2]? = some v2 := by
  have h0 : o < cs.size := by omega
  have h1 : o + 1 < cs.size := by omega
  unfold set3
  simp [h, h0, h1]
theorem put3_heap {w : World} {a : Nat} {cs : Array Value} {t : TypeId} {fz : Nat × Nat} (h : w.heap[a]? = some (.cells cs t fz)) (o : Nat) (v0 v1 v2 : Value) :
    (put3 w a o v0 v1 v2).heap[a]? = some (.cells (set3 cs o v0 v1 v2) t fz) := by
  simp [put3, set3, World.setCell, Array.getElem?_modify, h]
theorem put3_block (w : World) {a k : Nat} (h : k ≠ a) (o : Nat) (v0 v1 v2 : Value) : (put3 w a o v0 v1 v2).heap[k]? = w.heap[k]? := by
  unfold put3
  rw [Below.heap_setCell _ _ _ _ h, Below.heap_setCell _ _ _ _ h, Below.heap_setCell _ _ _ _ h]
theorem put3_below {B : Nat} {w0 w : World} (h : Below B w0 w) {a : Nat} (ha : B ≤ a) (o : Nat) (v0 v1 v2 : Value) : Below B w0 (put3 w a o v0 v1 v2) :=
  ((h.setCell (p := ⟨a, o, none⟩) ha v0).setCell (p := ⟨a, o + 1, none⟩) ha v1).setCell (p := ⟨a, o + 2, none⟩) ha v2
theorem put3_size (w : World) (a o : Nat) (v0 v1 v2 : Value) : (put3 w a o v0 v1 v2).heap.size = w.heap.size := by simp [put3, World.setCell]
theorem VlCell.of_cells {w : World} {a o : Nat} {m : Vl} {cs : Array Value} {t : TypeId} {fz : Nat × Nat} (h : w.heap[a]? = some (.cells cs t fz)) (c0 : cs[o]? = some (.int .i8 m.k))
    (c1 : cs[o + 1]? = some (.int .i64 m.n)) (c2 : cs[o + 2]? = some (.string m.t)) : VlCell w a o m :=
  ⟨by rw [Lib.cell_of_heap h]; exact c0, by rw [Lib.cell_of_heap h]; exact c1, by rw [Lib.cell_of_heap h]; exact c2⟩
theorem put3_keeps {w : World} {a o o' : Nat} {m : Vl} {cs : Array Value} {t : TypeId} {fz : Nat × Nat} (h : w.heap[a]? = some (.cells cs t fz)) (hc : VlCell w a o' m) (ho : o' + 2 < o ∨ o + 2 < o') (v0 v1 v2 : Value) :
    VlCell (put3 w a o v0 v1 v2) a o' m := by
  obtain ⟨c0, c1, c2⟩ := hc
  rw [Lib.cell_of_heap h] at c0 c1 c2
  refine VlCell.of_cells (put3_heap h o v0 v1 v2) ?_ ?_ ?_
  all_goals rw [set3_far _ _ _ _ _ _ (by omega)]
  all_goals assumption
theorem put3_new {w : World} {a o : Nat} {cs : Array Value} {t : TypeId} {fz : Nat × Nat} (h : w.heap[a]? = some (.cells cs t fz)) (ho : o + 2 < cs.size) (m : Vl) :
    VlCell (put3 w a o (.int .i8 m.k) (.int .i64 m.n) (.string m.t)) a o m := by
  obtain ⟨h0, h1, h2⟩ := set3_at cs o (.int .i8 m.k) (.int .i64 m.n) (.string m.t) ho
  exact VlCell.of_cells (put3_heap h _ _ _ _) h0 h1 h2
theorem VlCell.of_block {w w' : World} {a o : Nat} {t : Vl} (h : VlCell w a o t) (hb : w'.heap[a]? = w.heap[a]?) : VlCell w' a o t :=
  ⟨(World.cell?_of_block (w := w) hb).trans h.c0, (World.cell?_of_block (w := w) hb).trans h.c1, (World.cell?_of_block (w := w) hb).trans h.c2⟩
theorem three {w : World} {b : Nat} {x0 x1 x2 : Value} {t : TypeId} {fz : Nat × Nat} (h : w.heap[b]? = some (.cells #[x0, x1, x2] t fz)) :
    w.cell? ⟨b, 0, none⟩ = some x0 ∧ w.cell? ⟨b, 1, none⟩ = some x1 ∧ w.cell? ⟨b, 2, none⟩ = some x2 :=
  ⟨by rw [Lib.cell_of_heap h]; rfl, by rw [Lib.cell_of_heap h]; rfl, by rw [Lib.cell_of_heap h]; rfl⟩
theorem infoVl : (Tryd.prog.info? 50).map (fun i => (i.zero, i.size, i.bytes)) = some (some (.agg #[.int .i8 0, .int .i64 0, .string ⟨#[]⟩]), 3, 32) := by kernel_rfl
theorem make_vl (n : Nat) (hn : n ≤ 4398046511104) (w : World) : (Instr.makeSlice 44 (.int .i64 ((n : Int) + 1)) (.int .i64 ((n : Int) + 1))).run Tryd.prog w =
    .ok (.slice (some ⟨w.heap.size, 0, none⟩) (n + 1) (n + 1)) (w.alloc (.cells (madeCells #[.int .i8 0, .int .i64 0, .string ⟨#[]⟩] ((n + 1) * 3)) 50)) := by
  obtain ⟨i, hi, hzz⟩ := Option.map_eq_some_iff.1 infoVl
  simp only [Prod.mk.injEq] at hzz
  obtain ⟨hz, hs, hb⟩ := hzz
  have h := run_make (P := Tryd.prog) w 44 50 i _ Tryd.underlying44 hi hz .i64 .i64 ((n : Int) + 1) ((n : Int) + 1) (by omega) (Int.le_refl _) (by rw [hb]; omega) (by omega)
  rw [h, hs, show ((n : Int) + 1).toNat = n + 1 by omega]
  rfl
def markVl : Vl := ⟨99, 777777, ⟨#[]⟩⟩
/-- A copy of a list of values in block a, with a mark behind it. -/
structure TwVl (w : World) (a : Nat) (xs : List Vl) : Prop where
  lt : a < w.heap.size
  cells : ∀ i, (h : i < xs.length) → VlCell w a (i * 3) xs[i]
  mark : VlCell w a (xs.length * 3) markVl
theorem TwVl.of_block {w w' : World} {a : Nat} {xs : List Vl} (h : TwVl w a xs) (hl : a < w'.heap.size) (hb : w'.heap[a]? = w.heap[a]?) : TwVl w' a xs :=
  ⟨hl, fun i hi => (h.cells i hi).of_block hb, h.mark.of_block hb⟩
theorem TwVl.low {w w' : World} {a : Nat} {xs : List Vl} (h : TwVl w a xs) (hb : Below w.heap.size w w') : TwVl w' a xs :=
  h.of_block (Nat.lt_of_lt_of_le h.lt hb.size) (hb.block a h.lt)
theorem TwVl.sl {w : World} {a : Nat} {xs : List Vl} (h : TwVl w a xs) (hn : xs.length ≤ 4398046511104) : VlSl w (.slice (some ⟨a, 0, none⟩) xs.length (xs.length + 1)) xs :=
  ⟨some ⟨a, 0, none⟩, xs.length + 1, rfl, by unfold maxLen; omega, .inr ⟨a, 0, rfl, h.lt, fun i hi => by rw [Nat.zero_add]; exact h.cells i hi⟩⟩
/-- At the head of the copying rounds. -/
def TvRel (xs : List Vl) (w : World) (i : Value) (wr : World) : Prop :=
  ∃ (j : Nat) (cs : Array Value), i = .int .i64 j ∧ j ≤ xs.length ∧ wr.heap[w.heap.size]? = some (.cells cs 50 (0, 0)) ∧ cs.size = (xs.length + 1) * 3 ∧ (∀ m, (h : m < xs.length) → m < j → VlCell wr w.heap.size (m * 3) xs[m]) ∧ Below w.heap.size w wr
/-- What a call leaves that copies a list of values. -/
def TvPost (xs : List Vl) (w : World) (r : Ending) (w' : World) : Prop :=
  ∃ a, r = .returned (.slice (some ⟨a, 0, none⟩) xs.length (xs.length + 1)) ∧ w.heap.size ≤ a ∧ TwVl w' a xs ∧ Below w.heap.size w w'
set_option maxHeartbeats 4000000 in
theorem sameValues (xs : List Vl) (a : Nat) (sv : Value) (w : World) (hts : VlSl w sv xs) (hn : xs.length ≤ 4398046511104) (ht : TwVl w a xs) :
    Calls Tryd.prog 54 #[.slice (some ⟨a, 0, none⟩) xs.length (xs.length + 1), sv] w fun r w' => r = .returned (.bool true) ∧ Below w.heap.size w w' := by
  obtain ⟨q, cap, rfl, hm, hs⟩ := hts
  have HS := Lib.hid hs; clear hs
  have HT := Lib.hid ht; clear ht
  have har0 := HT.out.lt
  go_enter Tryd.func54, Tryd.ntmps54
  go_wp2_with fail
  go_loopw [5] (fun i wr => ∃ j : Nat, j ≤ xs.length ∧ i = .int .i64 j ∧ Below w.heap.size w wr) (fun i _ => xs.length - (intOf i).toNat)
  case atStart => exact ⟨0, by omega, rfl, Below.refl _ _⟩
  case round =>
    obtain ⟨j, hj, rfl, hbe⟩ := hrel
    have HBE := Lib.hid hbe; clear hbe
    by_cases hlt : j < xs.length
    · rcases HS.out with h0 | ⟨b, o, hp, hat⟩
      · omega
      subst hp
      have hck := (hat.at_ j hlt).up HBE.out hat.lt
      have hct := (HT.out.cells j hlt).up HBE.out HT.out.lt
      clear hat
      obtain ⟨tk, htk⟩ : ∃ tk, tk = xs[j] := ⟨_, rfl⟩
      rw [← htk] at hck hct
      clear htk
      obtain ⟨k, n, t⟩ := tk
      obtain ⟨c0, c1, c2⟩ := hck
      obtain ⟨d0, d1, d2⟩ := hct
      go_wp2_with fail
      go_quiet (fail)
      go_wp2_with fail
      go_roundw
      case rel => exact ⟨j + 1, by omega, by go_num, below_drewN HBE.out _⟩
      case measure => simp [intOf]; omega
    · go_wp2_with fail
      go_ret
      exact ⟨rfl, HBE.out⟩
end Go.Proofs.YtdgbenadoaecoaaDoor
