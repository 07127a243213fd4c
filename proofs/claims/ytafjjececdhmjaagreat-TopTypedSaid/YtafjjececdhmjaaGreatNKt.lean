/- Copies of lists of values: the contracts of markValue, isValue, TwinValues, SameValues, LeftValues. Copies of facts: the contracts of TwinFact, LeftFact, markFact, isFact, TwinFacts, LeftFacts, BeyondFacts. How lists of facts lie where they read as data. Conditions: the values lie in memory as they are told, the list is not too long. the facts lie in memory as they are told, no list is too long. no slice takes more bytes than the reach of a row. -/
import Derived.Test.YtafjjececdhmjaaGreatNMG
import Derived.Deep.OwnRows
import Derived.Deep.RegionHeld3
import Derived.Test.YtafjjececdhmjaaGreatNRy
namespace Go.Proofs.YtafjjececdhmjaaGreat
open Go.RowKit

/-- A value's three cells. -/
structure VlCell (w : World) (a o : Nat) (x : Vl) : Prop where
  c0 : w.cell? ⟨a, o, none⟩ = some (.int .i8 x.k)
  c1 : w.cell? ⟨a, o + 1, none⟩ = some (.int .i64 x.n)
  c2 : w.cell? ⟨a, o + 2, none⟩ = some (.string x.t)
structure VlsAt (w : World) (a o : Nat) (xs : List Vl) : Prop where
  lt : a < w.heap.size
  at_ : ∀ i, (h : i < xs.length) → VlCell w a (o + i * 3) xs[i]
theorem VlCell.up {w w' : World} {B a o : Nat} {x : Vl} (h : VlCell w a o x) (hb : Below B w w') (ha : a < B) : VlCell w' a o x :=
  ⟨(hb.cell (p := ⟨a, o, none⟩) ha).trans h.c0, (hb.cell (p := ⟨a, o + 1, none⟩) ha).trans h.c1, (hb.cell (p := ⟨a, o + 2, none⟩) ha).trans h.c2⟩
theorem VlsAt.up {w w' : World} {B a o : Nat} {xs : List Vl} (h : VlsAt w a o xs) (hb : Below B w w') (ha : a < B) : VlsAt w' a o xs :=
  ⟨Nat.lt_of_lt_of_le h.lt hb.size, fun i hi => (h.at_ i hi).up hb ha⟩
def VlsR (xs : List Vl) : Prop := ∀ x ∈ xs, VlR x.k x.n x.t
/-- A slice value that reads as these values. -/
def VlSl (w : World) (v : Value) (xs : List Vl) : Prop := ∃ p cap, v = .slice p xs.length cap ∧ xs.length ≤ maxLen ∧ (xs.length = 0 ∨ ∃ a o, p = some ⟨a, o, none⟩ ∧ VlsAt w a o xs)
theorem VlSl.upB {w w' : World} {B : Nat} {v : Value} {xs : List Vl} (h : VlSl w v xs) (hb : Below B w w') (hB : w.heap.size ≤ B) : VlSl w' v xs := by
  obtain ⟨p, cap, hv, hm, h⟩ := h
  refine ⟨p, cap, hv, hm, ?_⟩
  rcases h with h | ⟨a, o, hp, h⟩
  · exact .inl h
  · exact .inr ⟨a, o, hp, h.up hb (Nat.lt_of_lt_of_le h.lt hB)⟩
theorem VlSl.up {w w' : World} {v : Value} {xs : List Vl} (h : VlSl w v xs) (hb : Below w.heap.size w w') : VlSl w' v xs := h.upB hb (Nat.le_refl _)
/-- Three cells of a block, written one by one. -/
def put3 (w : World) (a o : Nat) (v0 v1 v2 : Value) : World :=
  ((w.setCell ⟨a, o, none⟩ v0).setCell ⟨a, o + 1, none⟩ v1).setCell ⟨a, o + 2, none⟩ v2
def set3 (cs : Array Value) (o : Nat) (v0 v1 v2 : Value) : Array Value :=
  ((cs.setIfInBounds o v0).setIfInBounds (o + 1) v1).setIfInBounds (o + 2) v2
theorem set3_size (cs : Array Value) (o : Nat) (v0 v1 v2 : Value) : (set3 cs o v0 v1 v2).size = cs.size := by simp [set3]
theorem set3_far (cs : Array Value) (o : Nat) (v0 v1 v2 : Value) (i : Nat) (h : i < o ∨ o + 2 < i) : (set3 cs o v0 v1 v2)[i]? = cs[i]? := by
  unfold set3
  rw [Array.getElem?_setIfInBounds_ne (by omega), Array.getElem?_setIfInBounds_ne (by omega), Array.getElem?_setIfInBounds_ne (by omega)]
theorem set3_at (cs : Array Value) (o : Nat) (v0 v1 v2 : Value) (h : o + 2 < cs.size) :
    (set3 cs o v0 v1 v2)[o]? = some v0 ∧ (set3 cs o v0 v1 v2)[o + 1]? = some v1 ∧ (set3 cs o v0 v1 v2)[o + 2]? = some v2 := by
  have h0 : o < cs.size := by omega
  have h1 : o + 1 < cs.size := by omega
  unfold set3
  simp [h, h0, h1]
theorem put3_heap {w : World} {a : Nat} {cs : Array Value} {t : TypeId} {fz : Nat × Nat} (h : w.heap[a]? = some (.cells cs t fz)) (o : Nat) (v0 v1 v2 : Value) :
    (put3 w a o v0 v1 v2).heap[a]? = some (.cells (set3 cs o v0 v1 v2) t fz) := by
  simp [put3, set3, World.setCell, Array.getElem?_modify, h]
theorem put3_block (w : World) {a k : Nat} (h : k ≠ a) (o : Nat) (v0 v1 v2 : Value) : (put3 w a o v0 v1 v2).heap[k]? = w.heap[k]? := by
  unfold put3
  rw [Below.heap_setCell _ _ _ _ h, Below.heap_setCell _ _ _ _ h, Below.heap_setCell _ _ _ _ h]
theorem put3_below {B : Nat} {w0 w : World} (h : Below B w0 w) {a : Nat} (ha : B ≤ a) (o : Nat) (v0 v1 v2 : Value) : Below B w0 (put3 w a o v0 v1 v2) :=
  ((h.setCell (p := ⟨a, o, none⟩) ha v0).setCell (p := ⟨a, o + 1, none⟩) ha v1).setCell (p := ⟨a, o + 2, none⟩) ha v2
theorem put3_size (w : World) (a o : Nat) (v0 v1 v2 : Value) : (put3 w a o v0 v1 v2).heap.size = w.heap.size := by simp [put3, World.setCell]
theorem VlCell.of_cells {w : World} {a o : Nat} {m : Vl} {cs : Array Value} {t : TypeId} {fz : Nat × Nat} (h : w.heap[a]? = some (.cells cs t fz)) (c0 : cs[o]? = some (.int .i8 m.k))
    (c1 : cs[o + 1]? = some (.int .i64 m.n)) (c2 : cs[o + 2]? = some (.string m.t)) : VlCell w a o m :=
  ⟨by rw [Lib.cell_of_heap h]; exact c0, by rw [Lib.cell_of_heap h]; exact c1, by rw [Lib.cell_of_heap h]; exact c2⟩
theorem put3_keeps {w : World} {a o o' : Nat} {m : Vl} {cs : Array Value} {t : TypeId} {fz : Nat × Nat} (h : w.heap[a]? = some (.cells cs t fz)) (hc : VlCell w a o' m) (ho : o' + 2 < o ∨ o + 2 < o') (v0 v1 v2 : Value) :
    VlCell (put3 w a o v0 v1 v2) a o' m := by
  obtain ⟨c0, c1, c2⟩ := hc
  rw [Lib.cell_of_heap h] at c0 c1 c2
  refine VlCell.of_cells (put3_heap h o v0 v1 v2) ?_ ?_ ?_
  all_goals rw [set3_far _ _ _ _ _ _ (by omega)]
  all_goals assumption
theorem put3_new {w : World} {a o : Nat} {cs : Array Value} {t : TypeId} {fz : Nat × Nat} (h : w.heap[a]? = some (.cells cs t fz)) (ho : o + 2 < cs.size) (m : Vl) :
    VlCell (put3 w a o (.int .i8 m.k) (.int .i64 m.n) (.string m.t)) a o m := by
  obtain ⟨h0, h1, h2⟩ := set3_at cs o (.int .i8 m.k) (.int .i64 m.n) (.string m.t) ho
  exact VlCell.of_cells (put3_heap h _ _ _ _) h0 h1 h2
theorem VlCell.of_block {w w' : World} {a o : Nat} {t : Vl} (h : VlCell w a o t) (hb : w'.heap[a]? = w.heap[a]?) : VlCell w' a o t :=
  ⟨(World.cell?_of_block (w := w) hb).trans h.c0, (World.cell?_of_block (w := w) hb).trans h.c1, (World.cell?_of_block (w := w) hb).trans h.c2⟩
theorem three {w : World} {b : Nat} {x0 x1 x2 : Value} {t : TypeId} {fz : Nat × Nat} (h : w.heap[b]? = some (.cells #[x0, x1, x2] t fz)) :
    w.cell? ⟨b, 0, none⟩ = some x0 ∧ w.cell? ⟨b, 1, none⟩ = some x1 ∧ w.cell? ⟨b, 2, none⟩ = some x2 :=
  ⟨by rw [Lib.cell_of_heap h]; rfl, by rw [Lib.cell_of_heap h]; rfl, by rw [Lib.cell_of_heap h]; rfl⟩
theorem infoVl : (Tryz.prog.info? 91).map (fun i => (i.zero, i.size, i.bytes)) = some (some (.agg #[.int .i8 0, .int .i64 0, .string ⟨#[]⟩]), 3, 32) := by kernel_rfl
theorem make_vl (n : Nat) (hn : n ≤ 4398046511104) (w : World) : (Instr.makeSlice 102 (.int .i64 ((n : Int) + 1)) (.int .i64 ((n : Int) + 1))).run Tryz.prog w =
    .ok (.slice (some ⟨w.heap.size, 0, none⟩) (n + 1) (n + 1)) (w.alloc (.cells (madeCells #[.int .i8 0, .int .i64 0, .string ⟨#[]⟩] ((n + 1) * 3)) 91)) := by
  obtain ⟨i, hi, hzz⟩ := Option.map_eq_some_iff.1 infoVl
  simp only [Prod.mk.injEq] at hzz
  obtain ⟨hz, hs, hb⟩ := hzz
  have h := run_make (P := Tryz.prog) w 102 91 i _ Tryz.underlying102 hi hz .i64 .i64 ((n : Int) + 1) ((n : Int) + 1) (by omega) (Int.le_refl _) (by rw [hb]; omega) (by omega)
  rw [h, hs, show ((n : Int) + 1).toNat = n + 1 by omega]
  rfl
def markVl : Vl := ⟨99, 777777, ⟨#[]⟩⟩
/-- A copy of a list of values in block a, with a mark behind it. -/
structure TwVl (w : World) (a : Nat) (xs : List Vl) : Prop where
  lt : a < w.heap.size
  cells : ∀ i, (h : i < xs.length) → VlCell w a (i * 3) xs[i]
  mark : VlCell w a (xs.length * 3) markVl
theorem TwVl.of_block {w w' : World} {a : Nat} {xs : List Vl} (h : TwVl w a xs) (hl : a < w'.heap.size) (hb : w'.heap[a]? = w.heap[a]?) : TwVl w' a xs :=
  ⟨hl, fun i hi => (h.cells i hi).of_block hb, h.mark.of_block hb⟩
theorem TwVl.low {w w' : World} {a : Nat} {xs : List Vl} (h : TwVl w a xs) (hb : Below w.heap.size w w') : TwVl w' a xs :=
  h.of_block (Nat.lt_of_lt_of_le h.lt hb.size) (hb.block a h.lt)
theorem TwVl.sl {w : World} {a : Nat} {xs : List Vl} (h : TwVl w a xs) (hn : xs.length ≤ 4398046511104) : VlSl w (.slice (some ⟨a, 0, none⟩) xs.length (xs.length + 1)) xs :=
  ⟨some ⟨a, 0, none⟩, xs.length + 1, rfl, by unfold maxLen; omega, .inr ⟨a, 0, rfl, h.lt, fun i hi => by rw [Nat.zero_add]; exact h.cells i hi⟩⟩
/-- At the head of the copying rounds. -/
def TvRel (xs : List Vl) (w : World) (i : Value) (wr : World) : Prop :=
  ∃ (j : Nat) (cs : Array Value), i = .int .i64 j ∧ j ≤ xs.length ∧ wr.heap[w.heap.size]? = some (.cells cs 91 (0, 0)) ∧ cs.size = (xs.length + 1) * 3 ∧ (∀ m, (h : m < xs.length) → m < j → VlCell wr w.heap.size (m * 3) xs[m]) ∧ Below w.heap.size w wr
/-- What a call leaves that copies a list of values. -/
def TvPost (xs : List Vl) (w : World) (r : Ending) (w' : World) : Prop :=
  ∃ a, r = .returned (.slice (some ⟨a, 0, none⟩) xs.length (xs.length + 1)) ∧ w.heap.size ≤ a ∧ TwVl w' a xs ∧ Below w.heap.size w w'
end Go.Proofs.YtafjjececdhmjaaGreat

namespace Go.Proofs.YtafjjececdhmjaaGreat
open Go.RowKit

theorem two {w : World} {b : Nat} {x0 x1 : Value} {t : TypeId} {fz : Nat × Nat} (h : w.heap[b]? = some (.cells #[x0, x1] t fz)) :
    w.cell? ⟨b, 0, none⟩ = some x0 ∧ w.cell? ⟨b, 1, none⟩ = some x1 := ⟨by rw [Lib.cell_of_heap h]; rfl, by rw [Lib.cell_of_heap h]; rfl⟩
/-- A fact: its name, its values, the slice that holds them. -/
structure Fc where
  p : ByteArray
  xs : List Vl
  sv : Value
structure FcCell (w : World) (a o : Nat) (f : Fc) : Prop where
  c0 : w.cell? ⟨a, o, none⟩ = some (.string f.p)
  c1 : w.cell? ⟨a, o + 1, none⟩ = some f.sv
structure FcR (f : Fc) : Prop where
  p_ : f.p.size ≤ maxLen
  r_ : VlsR f.xs
  n_ : f.xs.length ≤ 4398046511104
/-- Facts in a row of memory. -/
def FcsAt (w : World) (p : Option Addr) (fs : List Fc) : Prop :=
  (fs.length = 0 ∨ ∃ a o, p = some ⟨a, o, none⟩ ∧ a < w.heap.size ∧ ∀ i, (h : i < fs.length) → FcCell w a (o + i * 2) fs[i]) ∧ ∀ f ∈ fs, VlSl w f.sv f.xs
theorem FcCell.up {w w' : World} {B a o : Nat} {f : Fc} (h : FcCell w a o f) (hb : Below B w w') (ha : a < B) : FcCell w' a o f :=
  ⟨(hb.cell (p := ⟨a, o, none⟩) ha).trans h.c0, (hb.cell (p := ⟨a, o + 1, none⟩) ha).trans h.c1⟩
theorem FcsAt.up {w w' : World} {p : Option Addr} {fs : List Fc} (h : FcsAt w p fs) (hb : Below w.heap.size w w') : FcsAt w' p fs := by
  refine ⟨?_, fun f hf => (h.2 f hf).up hb⟩
  rcases h.1 with h0 | ⟨a, o, hp, ha, hc⟩
  · exact .inl h0
  · exact .inr ⟨a, o, hp, Nat.lt_of_lt_of_le ha hb.size, fun i hi => (hc i hi).up hb ha⟩
/-- Two cells of a block, written one by one. -/
def put2 (w : World) (a o : Nat) (v0 v1 : Value) : World := (w.setCell ⟨a, o, none⟩ v0).setCell ⟨a, o + 1, none⟩ v1
def set2 (cs : Array Value) (o : Nat) (v0 v1 : Value) : Array Value := (cs.setIfInBounds o v0).setIfInBounds (o + 1) v1
theorem set2_size (cs : Array Value) (o : Nat) (v0 v1 : Value) : (set2 cs o v0 v1).size = cs.size := by simp [set2]
theorem set2_far (cs : Array Value) (o : Nat) (v0 v1 : Value) (i : Nat) (h : i < o ∨ o + 1 < i) : (set2 cs o v0 v1)[i]? = cs[i]? := by
  unfold set2
  rw [Array.getElem?_setIfInBounds_ne (by omega), Array.getElem?_setIfInBounds_ne (by omega)]
theorem set2_at (cs : Array Value) (o : Nat) (v0 v1 : Value) (h : o + 1 < cs.size) : (set2 cs o v0 v1)[o]? = some v0 ∧ (set2 cs o v0 v1)[o + 1]? = some v1 := by
  have h0 : o < cs.size := by omega
  unfold set2
  simp [h, h0]
theorem put2_heap {w : World} {a : Nat} {cs : Array Value} {t : TypeId} {fz : Nat × Nat} (h : w.heap[a]? = some (.cells cs t fz)) (o : Nat) (v0 v1 : Value) :
    (put2 w a o v0 v1).heap[a]? = some (.cells (set2 cs o v0 v1) t fz) := by
  simp [put2, set2, World.setCell, Array.getElem?_modify, h]
theorem put2_block (w : World) {a k : Nat} (h : k ≠ a) (o : Nat) (v0 v1 : Value) : (put2 w a o v0 v1).heap[k]? = w.heap[k]? := by
  unfold put2
  rw [Below.heap_setCell _ _ _ _ h, Below.heap_setCell _ _ _ _ h]
theorem put2_below {B : Nat} {w0 w : World} (h : Below B w0 w) {a : Nat} (ha : B ≤ a) (o : Nat) (v0 v1 : Value) : Below B w0 (put2 w a o v0 v1) :=
  (h.setCell (p := ⟨a, o, none⟩) ha v0).setCell (p := ⟨a, o + 1, none⟩) ha v1
theorem put2_size (w : World) (a o : Nat) (v0 v1 : Value) : (put2 w a o v0 v1).heap.size = w.heap.size := by simp [put2, World.setCell]
theorem FcCell.of_cells {w : World} {a o : Nat} {m : Fc} {cs : Array Value} {t : TypeId} {fz : Nat × Nat} (h : w.heap[a]? = some (.cells cs t fz)) (c0 : cs[o]? = some (.string m.p)) (c1 : cs[o + 1]? = some m.sv) : FcCell w a o m :=
  ⟨by rw [Lib.cell_of_heap h]; exact c0, by rw [Lib.cell_of_heap h]; exact c1⟩
theorem FcCell.of_block {w w' : World} {a o : Nat} {t : Fc} (h : FcCell w a o t) (hb : w'.heap[a]? = w.heap[a]?) : FcCell w' a o t :=
  ⟨(World.cell?_of_block (w := w) hb).trans h.c0, (World.cell?_of_block (w := w) hb).trans h.c1⟩
theorem put2_keeps {w : World} {a o o' : Nat} {m : Fc} {cs : Array Value} {t : TypeId} {fz : Nat × Nat} (h : w.heap[a]? = some (.cells cs t fz)) (hc : FcCell w a o' m) (ho : o' + 1 < o ∨ o + 1 < o') (v0 v1 : Value) :
    FcCell (put2 w a o v0 v1) a o' m := by
  obtain ⟨c0, c1⟩ := hc
  rw [Lib.cell_of_heap h] at c0 c1
  refine FcCell.of_cells (put2_heap h o v0 v1) ?_ ?_
  all_goals rw [set2_far _ _ _ _ _ (by omega)]
  all_goals assumption
theorem put2_new {w : World} {a o : Nat} {cs : Array Value} {t : TypeId} {fz : Nat × Nat} (h : w.heap[a]? = some (.cells cs t fz)) (ho : o + 1 < cs.size) (m : Fc) : FcCell (put2 w a o (.string m.p) m.sv) a o m := by
  obtain ⟨h0, h1⟩ := set2_at cs o (.string m.p) m.sv ho
  exact FcCell.of_cells (put2_heap h _ _ _) h0 h1
/-- A copy of a fact, its values in a block of their own. -/
def FcTw (w : World) (B : Nat) (f : Fc) : Prop := ∃ a, f.sv = .slice (some ⟨a, 0, none⟩) f.xs.length (f.xs.length + 1) ∧ B ≤ a ∧ TwVl w a f.xs
theorem FcTw.up {w w' : World} {B B' : Nat} (hB : B' ≤ B) (hs : w.heap.size ≤ w'.heap.size) (hb : ∀ k, B ≤ k → k < w.heap.size → w'.heap[k]? = w.heap[k]?) {f : Fc} (h : FcTw w B f) : FcTw w' B' f := by
  obtain ⟨a, hv, ha, ht⟩ := h
  exact ⟨a, hv, by omega, ht.of_block (Nat.lt_of_lt_of_le ht.lt hs) (hb a ha ht.lt)⟩
theorem FcTw.low {w w' : World} {B : Nat} {f : Fc} (h : FcTw w B f) (hb : Below w.heap.size w w') : FcTw w' B f := h.up (Nat.le_refl _) hb.size (fun k _ hk => hb.block k hk)
theorem FcTw.sl {w : World} {B : Nat} {f : Fc} (h : FcTw w B f) (hn : f.xs.length ≤ 4398046511104) : VlSl w f.sv f.xs := by
  obtain ⟨a, hv, ha, ht⟩ := h
  rw [hv]
  exact ht.sl hn
structure FcLike (f g : Fc) : Prop where
  p_ : g.p = f.p
  xs_ : g.xs = f.xs
theorem FcLike.r {f g : Fc} (h : FcLike f g) (hr : FcR f) : FcR g := ⟨by rw [h.p_]; exact hr.p_, by rw [h.xs_]; exact hr.r_, by rw [h.xs_]; exact hr.n_⟩
def TfPost (f : Fc) (w : World) (r : Ending) (w' : World) : Prop :=
  ∃ g, r = .returned (.agg #[.string g.p, g.sv]) ∧ FcLike f g ∧ FcTw w' w.heap.size g ∧ Below w.heap.size w w'
theorem infoFc : (Tryz.prog.info? 104).map (fun i => (i.zero, i.size, i.bytes)) = some (some (.agg #[.string ⟨#[]⟩, .slice none 0 0]), 2, 40) := by kernel_rfl
theorem make_fc (n : Nat) (hn : n ≤ 4398046511104) (w : World) : (Instr.makeSlice 23 (.int .i64 ((n : Int) + 1)) (.int .i64 ((n : Int) + 1))).run Tryz.prog w =
    .ok (.slice (some ⟨w.heap.size, 0, none⟩) (n + 1) (n + 1)) (w.alloc (.cells (madeCells #[.string ⟨#[]⟩, .slice none 0 0] ((n + 1) * 2)) 104)) := by
  obtain ⟨i, hi, hzz⟩ := Option.map_eq_some_iff.1 infoFc
  simp only [Prod.mk.injEq] at hzz
  obtain ⟨hz, hs, hb⟩ := hzz
  have h := run_make (P := Tryz.prog) w 23 104 i _ Tryz.underlying23 hi hz .i64 .i64 ((n : Int) + 1) ((n : Int) + 1) (by omega) (Int.le_refl _) (by rw [hb]; omega) (by omega)
  rw [h, hs, show ((n : Int) + 1).toNat = n + 1 by omega]
  rfl
def markFc : Fc := ⟨markB, [], .slice none 0 0⟩
/-- A copy of a list of facts in block a, with a mark behind it. -/
structure TwFc (w : World) (a : Nat) (fs gs : List Fc) : Prop where
  lt : a < w.heap.size
  len : gs.length = fs.length
  like : ∀ i, (h : i < fs.length) → (h' : i < gs.length) → FcLike fs[i] gs[i]
  cells : ∀ i, (h : i < gs.length) → FcCell w a (i * 2) gs[i]
  mark : FcCell w a (fs.length * 2) markFc
  kids : ∀ g ∈ gs, FcTw w (a + 1) g
  row : ∃ cs : Array Value, w.heap[a]? = some (.cells cs 104 (0, 0)) ∧ cs.size = (fs.length + 1) * 2
theorem TwFc.low {w w' : World} {a : Nat} {fs gs : List Fc} (h : TwFc w a fs gs) (hb : Below w.heap.size w w') : TwFc w' a fs gs :=
  ⟨Nat.lt_of_lt_of_le h.lt hb.size, h.len, h.like, fun i hi => (h.cells i hi).of_block (hb.block a h.lt), h.mark.of_block (hb.block a h.lt), fun g hg => (h.kids g hg).low hb, by obtain ⟨cs, h1, h2⟩ := h.row; exact ⟨cs, (hb.block a h.lt).trans h1, h2⟩⟩
theorem like_mem {fs gs : List Fc} (hl : gs.length = fs.length) (h : ∀ i, (h : i < fs.length) → (h' : i < gs.length) → FcLike fs[i] gs[i]) {P : Fc → Prop} {Q : Fc → Prop} (hf : ∀ f ∈ fs, P f) (hq : ∀ f g, FcLike f g → P f → Q g) : ∀ g ∈ gs, Q g := by
  intro g hg
  obtain ⟨i, hi, rfl⟩ := List.mem_iff_getElem.1 hg
  exact hq _ _ (h i (by omega) hi) (hf _ (List.getElem_mem (by omega)))
theorem TwFc.at {w : World} {a : Nat} {fs gs : List Fc} (h : TwFc w a fs gs) (hr : ∀ f ∈ fs, FcR f) : FcsAt w (some ⟨a, 0, none⟩) gs :=
  ⟨.inr ⟨a, 0, rfl, h.lt, fun i hi => by rw [Nat.zero_add]; exact h.cells i hi⟩, fun g hg => (h.kids g hg).sl (like_mem h.len h.like hr (fun _ _ h1 h2 => (h1.r h2)) g hg).n_⟩
/-- At the head of the copying rounds. -/
def TfRel (fs : List Fc) (w : World) (i : Value) (wr : World) : Prop :=
  ∃ (j : Nat) (gs : List Fc) (cs : Array Value), i = .int .i64 j ∧ j ≤ fs.length ∧ gs.length = j ∧ (∀ m, (h : m < fs.length) → (h' : m < gs.length) → FcLike fs[m] gs[m]) ∧
    wr.heap[w.heap.size]? = some (.cells cs 104 (0, 0)) ∧ cs.size = (fs.length + 1) * 2 ∧ (∀ m, (h : m < gs.length) → FcCell wr w.heap.size (m * 2) gs[m]) ∧ (∀ g ∈ gs, FcTw wr (w.heap.size + 1) g) ∧ Below w.heap.size w wr
theorem tf_next {fs gs : List Fc} {cs : Array Value} {w wr w1 : World} {j : Nat} {g : Fc} (hlt : j < fs.length) (hl : gs.length = j) (hal : ∀ m, (h : m < fs.length) → (h' : m < gs.length) → FcLike fs[m] gs[m])
    (hbk : wr.heap[w.heap.size]? = some (.cells cs 104 (0, 0))) (hcs : cs.size = (fs.length + 1) * 2) (hcell : ∀ m, (h : m < gs.length) → FcCell wr w.heap.size (m * 2) gs[m])
    (htw : ∀ g ∈ gs, FcTw wr (w.heap.size + 1) g) (hbe : Below w.heap.size w wr) (hal1 : FcLike fs[j] g) (htw1 : FcTw w1 wr.heap.size g) (hb1 : Below wr.heap.size wr w1) :
    TfRel fs w (.int .i64 ((j : Int) + 1)) (put2 w1 w.heap.size (j * 2) (.string g.p) g.sv) := by
  have hszr : w.heap.size < wr.heap.size := (Array.getElem?_eq_some_iff.1 hbk).1
  have hbk1 := (hb1.block w.heap.size hszr).trans hbk
  have hblk : ∀ k, w.heap.size + 1 ≤ k → k < w1.heap.size → (put2 w1 w.heap.size (j * 2) (.string g.p) g.sv).heap[k]? = w1.heap[k]? :=
    fun k hk _ => put2_block w1 (by omega) _ _ _
  refine ⟨j + 1, gs ++ [g], _, rfl, by omega, by simp [hl], ?_, put2_heap hbk1 _ _ _, by rw [set2_size]; exact hcs, ?_, ?_, put2_below (hbe.trans (hb1.mono (by omega))) (Nat.le_refl _) _ _ _⟩
  · intro m h h'
    by_cases hm : m < j
    · rw [List.getElem_append_left (by omega)]
      exact hal m h (by omega)
    · obtain rfl : m = j := by simp [hl] at h'; omega
      rw [List.getElem_append_right (by omega)]
      simpa [hl] using hal1
  · intro m h
    by_cases hm : m < j
    · rw [List.getElem_append_left (by omega)]
      exact put2_keeps hbk1 ((hcell m (by omega)).of_block (hb1.block _ hszr)) (by omega) _ _
    · obtain rfl : m = j := by simp [hl] at h; omega
      have e1 : (gs ++ [g])[m] = g := by
        rw [List.getElem_append_right (by omega)]
        simp [hl]
      rw [e1]
      exact put2_new hbk1 (by omega) _
  · intro t ht
    rcases List.mem_append.1 ht with ht | ht
    · have h1 : FcTw w1 (w.heap.size + 1) t := (htw t ht).up (Nat.le_refl _) hb1.size (fun k hk hk' => hb1.block k hk')
      exact h1.up (Nat.le_refl _) (by rw [put2_size]; omega) hblk
    · obtain rfl := List.mem_singleton.1 ht
      exact htw1.up (by omega) (by rw [put2_size]; omega) (fun k hk hk' => hblk k (by omega) hk')
/-- What a call leaves that copies a list of facts. -/
def TfsPost (fs : List Fc) (w : World) (r : Ending) (w' : World) : Prop :=
  ∃ a gs, r = .returned (.slice (some ⟨a, 0, none⟩) fs.length (fs.length + 1)) ∧ w.heap.size ≤ a ∧ TwFc w' a fs gs ∧ Below w.heap.size w w'
def BfRel (fs : List Fc) (w : World) (v i : Value) (wr : World) : Prop := ∃ (j : Nat) (n : Int), i = .int .i64 j ∧ v = .int .i64 n ∧ j ≤ fs.length ∧ (j : Int) ≤ n ∧ n ≤ 1048576 ∧ wr = w
def BfPost (fs : List Fc) (w : World) (r : Ending) (w' : World) : Prop := ∃ b : Bool, r = .returned (.bool b) ∧ (b = false → fs.length ≤ 1048576) ∧ w' = w
set_option maxHeartbeats 2000000 in
theorem beyondFacts (fs : List Fc) (p : Option Addr) (cap : Nat) (w : World) (hs : FcsAt w p fs) (hr : ∀ f ∈ fs, FcR f) (hn : fs.length ≤ 4398046511104) :
    Calls Tryz.prog 15 #[.slice p fs.length cap] w (BfPost fs w) := by
  have HS := Lib.hid hs; clear hs
  have HR := Lib.hid hr; clear hr
  go_enter Tryz.func15, Tryz.ntmps15
  go_wp2_with fail
  go_loopw [3, 4] (fun v i wr => BfRel fs w v i wr) (fun _ i _ => fs.length - (intOf i).toNat)
  case atStart => exact ⟨0, 0, rfl, rfl, by omega, by omega, by omega, rfl⟩
  case round =>
    obtain ⟨j, n, rfl, rfl, hj, hn1, hn2, rfl⟩ := hrel
    by_cases hlt : j < fs.length
    · rcases HS.out.1 with h0 | ⟨b, o, hp, hb, hc⟩
      · omega
      subst hp
      have hck := hc j hlt
      clear hc
      have hxl := (HR.out fs[j] (List.getElem_mem hlt)).n_
      obtain ⟨q, cp, hsv, hm, _⟩ := HS.out.2 fs[j] (List.getElem_mem hlt)
      obtain ⟨x, hx⟩ : ∃ x, x = fs[j] := ⟨_, rfl⟩
      rw [← hx] at hck hxl hsv hm
      clear hx
      obtain ⟨c0, c1⟩ := hck
      rw [hsv] at c1
      clear hsv
      by_cases hbig : 1048576 < n + 1 + (x.xs.length : Int)
      · go_wp2_with fail
        go_ret
        exact ⟨true, rfl, (fun h => nomatch h), rfl⟩
      · go_wp2_with fail
        exact ⟨⟨j + 1, n + 1 + (x.xs.length : Int), by go_num, rfl, by omega, by omega, by omega, rfl⟩, by simp [intOf]; omega⟩
    · go_wp2_with fail
      go_ret
      exact ⟨false, rfl, (fun _ => by omega), rfl⟩
end Go.Proofs.YtafjjececdhmjaaGreat

namespace Go.Proofs.YtafjjececdhmjaaGreat
open Go.RowKit Go.ChangeShapes Go.WideShapes

section
variable {H : Type} {enc : TypeId × Value → H}
theorem cellsF : Tryz.prog.cellsOf 104 = 2 := by kernel_rfl
theorem cellsVs : Tryz.prog.cellsOf 102 = 1 := by kernel_rfl
theorem bytesVl : Tryz.prog.bytesOf 91 = 32 := by kernel_rfl
theorem bytesFc : Tryz.prog.bytesOf 104 = 40 := by kernel_rfl
theorem weights_fc (y0 y1 : DataW H) : (DataW.agg [y0, y1]).weights Tryz.prog 104 = y0.weights Tryz.prog 9 ++ (y1.weights Tryz.prog 102 ++ []) := by
  simp [DataW.weights, Tryz.underlying104, DataW.weightsEach]
def vlCells (x : Vl) : List Value := [.int .i8 x.k, .int .i64 x.n, .string x.t]
variable {w : World} {base : Nat} {sp : Nat → Bool} {held : Bool}
/-- A list of values that reads as data. -/
theorem trod_values {fuel : Nat} {cs : List Value} {x : DataW H × List MemPlace} (h : DataW.trod enc Tryz.prog w base sp held fuel 102 cs = some x) (hw : ∀ n ∈ x.1.weights Tryz.prog 102, n ≤ reachBytes) :
    ∃ (sv : Value) (ts : List Vl), cs = [sv] ∧ VlSl w sv ts ∧ VlsR ts ∧ ts.length ≤ 4398046511104 := by
  obtain ⟨p, ts, cap, rfl, hm, hb, hrow, hR⟩ := open_list (α := Vl) Tryz.underlying102 cellsV (by decide) bytesVl (by decide) vlCells (fun t => VlR t.k t.n t.t) (fun t => by simp [vlCells]) h hw (fun f cs' y _ hy _ => by
    obtain ⟨k, n, t, rfl, _, hr, _⟩ := trod_value hy
    exact ⟨⟨k, n, t⟩, rfl, hr⟩)
  refine ⟨_, ts, rfl, ⟨p, cap, rfl, hm, hrow.imp id fun ⟨a, o, hp, ha, hc⟩ => ?_⟩, hR, by unfold reachBytes at hb; omega⟩
  subst hp
  exact ⟨a, o, rfl, ⟨ha, fun i hi => ⟨hc i hi 0 (by omega), hc i hi 1 (by omega), hc i hi 2 (by omega)⟩⟩⟩
/-- A fact that reads as data. -/
theorem trod_fact {fuel : Nat} {cs : List Value} {x : DataW H × List MemPlace} (h : DataW.trod enc Tryz.prog w base sp held fuel 104 cs = some x) (hw : ∀ n ∈ x.1.weights Tryz.prog 104, n ≤ reachBytes) :
    ∃ f : Fc, cs = [.string f.p, f.sv] ∧ FcR f ∧ VlSl w f.sv f.xs := by
  obtain ⟨ys, m, rfl, rfl, hl, hn, hfs⟩ := DataW.trod_struct Tryz.underlying104 h
  rw [cellsF] at hl
  obtain ⟨y0, y1, rfl⟩ := list2 (show ys.length = 2 from hn)
  have h0 : DataW.trod enc Tryz.prog w base sp held m 9 ((cs.drop 0).take (Tryz.prog.cellsOf 9)) = some y0 := hfs 0 _ rfl
  have h1 : DataW.trod enc Tryz.prog w base sp held m 102 ((cs.drop 1).take (Tryz.prog.cellsOf 102)) = some y1 := hfs 1 _ rfl
  rw [cellsS] at h0
  rw [cellsVs] at h1
  obtain ⟨p, e0, _, s0⟩ := DataW.trod_string Tryz.underlying9 h0
  obtain ⟨sv, ts, e1, ht, hr, hb⟩ := trod_values h1 (fun q hq => hw q (by
    show q ∈ (DataW.agg [y0.1, y1.1]).weights Tryz.prog 104
    rw [weights_fc]; simp [hq]))
  refine ⟨⟨p, ts, sv⟩, ?_, ⟨s0, hr, hb⟩, ht⟩
  have e0' : cs.take 1 = [.string p] := by simpa using e0
  rw [← List.take_append_drop 1 cs, e0', take1 hl e1]
  rfl
set_option maxRecDepth 100000 in
theorem open_facts {r : Reach} {b0 : Nat} {v : Value} {x : DataW H} {ps : List MemPlace} (hval : Value.okWide Tryz.prog w r b0 23 v) (hd : DataW.Trod enc Tryz.prog w base sp held 23 v x ps) (hw : ∀ n ∈ x.weights Tryz.prog 23, n ≤ reachBytes) :
    ∃ (p : Option Addr) (cap : Nat) (fs : List Fc), v = .slice p fs.length cap ∧ FcsAt w p fs ∧ (∀ f ∈ fs, FcR f) ∧ fs.length ≤ 4398046511104 := by
  obtain ⟨a, len, c, rfl⟩ := okWide_slice Tryz.underlying23 hval
  obtain ⟨n, hn⟩ := hd
  obtain ⟨p, fs, cap, hc, hm, hb, hrow, hR⟩ := open_list (α := Fc) Tryz.underlying23 cellsF (by decide) bytesFc (by decide) (fun f => [.string f.p, f.sv]) (fun f => FcR f ∧ VlSl w f.sv f.xs) (fun t => by simp) hn hw (fun f cs' y _ hy hwy => by
    obtain ⟨g, rfl, h1, h2⟩ := trod_fact hy hwy
    exact ⟨g, rfl, h1, h2⟩)
  refine ⟨p, cap, fs, by simpa [Value.cells] using hc, ⟨hrow.imp id fun ⟨a, o, hp, ha, hc⟩ => ⟨a, o, hp, ha, fun i hi => ⟨hc i hi 0 (by omega), hc i hi 1 (by omega)⟩⟩, fun f hf => (hR f hf).2⟩, fun f hf => (hR f hf).1, by unfold reachBytes at hb; omega⟩
end
end Go.Proofs.YtafjjececdhmjaaGreat
