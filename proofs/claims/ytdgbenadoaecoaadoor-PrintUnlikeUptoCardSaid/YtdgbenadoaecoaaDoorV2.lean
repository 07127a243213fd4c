/- Copies of facts: the contracts of TwinFact, LeftFact, markFact, isFact, TwinFacts, LeftFacts, BeyondFacts. Conditions: the facts lie in memory as they are told, no list is too long. -/
import Derived.Test.YtdgbenadoaecoaaDoorV1
namespace Go.Proofs.YtdgbenadoaecoaaDoor
open Go.RowKit

theorem two {w : World} {b : Nat} {x0 x1 : Value} {t : TypeId} {fz : Nat × Nat} (h : w.heap[b]? = some (.cells #[x0, x1] t fz)) :
    w.cell? ⟨b, 0, none⟩ = some x0 ∧ w.cell? ⟨b, 1, none⟩ = some x1 := ⟨by rw [Lib.cell_of_heap h]; rfl, by rw [Lib.cell_of_heap h]; rfl⟩
/-- A fact: its name, its values, the slice that holds them. -/
structure Fc where
  p : ByteArray
  xs : List Vl
  sv : Value
structure FcCell (w : World) (a o : Nat) (f : Fc) : Prop where
  c0 : w.cell? ⟨a, o, none⟩ = some (.string f.p)
  c1 : w.cell? ⟨a, o + 1, none⟩ = some f.sv
structure FcR (f : Fc) : Prop where
  p_ : f.p.size ≤ maxLen
  r_ : VlsR f.xs
  n_ : f.xs.length ≤ 4398046511104
/-- Facts in a row of memory. -/
def FcsAt (w : World) (p : Option Addr) (fs : List Fc) : Prop :=
  (fs.length = 0 ∨ ∃ a o, p = some ⟨a, o, none⟩ ∧ a < w.heap.size ∧ ∀ i, (h : i < fs.length) → FcCell w a (o + i * 2) fs[i]) ∧ ∀ f ∈ fs, VlSl w f.sv f.xs
theorem FcCell.up {w w' : World} {B a o : Nat} {f : Fc} (h : FcCell w a o f) (hb : Below B w w') (ha : a < B) : FcCell w' a o f :=
  ⟨(hb.cell (p := ⟨a, o, none⟩) ha).trans h.c0, (hb.cell (p := ⟨a, o + 1, none⟩) ha).trans h.c1⟩
theorem FcsAt.up {w w' : World} {p : Option Addr} {fs : List Fc} (h : FcsAt w p fs) (hb : Below w.heap.size w w') : FcsAt w' p fs := by
  refine ⟨?_, fun f hf => (h.2 f hf).up hb⟩
  rcases h.1 with h0 | ⟨a, o, hp, ha, hc⟩
  · exact .inl h0
  · exact .inr ⟨a, o, hp, Nat.lt_of_lt_of_le ha hb.size, fun i hi => (hc i hi).up hb ha⟩
/-- Two cells of a block, written one by one. -/
def put2 (w : World) (a o : Nat) (v0 v1 : Value) : World := (w.setCell ⟨a, o, none⟩ v0).setCell ⟨a, o + 1, none⟩ v1
def set2 (cs : Array Value) (o : Nat) (v0 v1 : Value) : Array Value := (cs.setIfInBounds o v0).setIfInBounds (o + 1) v1
theorem set2_size (cs : Array Value) (o : Nat) (v0 v1 : Value) : (set2 cs o v0 v1).size = cs.size := by simp [set2]
theorem set2_far (cs : Array Value) (o : Nat) (v0 v1 : Value) (i : Nat) (h : i < o ∨ o + 1 < i) : (set2 cs o v0 v1)[i]? = cs[i]? := by
  unfold set2
  rw [Array.getElem?_setIfInBounds_ne (by omega), Array.getElem?_setIfInBounds_ne (by omega)]
theorem set2_at (cs : Array Value) (o : Nat) (v0 v1 : Value) (h : o + 1 < cs.size) : (set2 cs o v0 v1)[o]? = some v0 ∧ (set2 cs o v0 v1)[o + 1]? = some v1 := by
  have h0 : o < cs.size := by omega
  unfold set2
  simp [h, h0]
theorem put2_heap {w : World} {a : Nat} {cs : Array Value} {t : TypeId} {fz : Nat × Nat} (h : w.heap[a]? = some (.cells cs t fz)) (o : Nat) (v0 v1 : Value) :
    (put2 w a o v0 v1).heap[a]? = some (.cells (set2 cs o v0 v1) t fz) := by
  simp [put2, set2, World.setCell, Array.getElem?_modify, h]
theorem put2_block (w : World) {a k : Nat} (h : k ≠ a) (o : Nat) (v0 v1 : Value) : (put2 w a o v0 v1).heap[k]? = w.heap[k]? := by
  unfold put2
  rw [Below.heap_setCell _ _ _ _ h, Below.heap_setCell _ _ _ _ h]
theorem put2_below {B : Nat} {w0 w : World} (h : Below B w0 w) {a : Nat} (ha : B ≤ a) (o : Nat) (v0 v1 : Value) : Below B w0 (put2 w a o v0 v1) :=
  (h.setCell (p := ⟨a, o, none⟩) ha v0).setCell (p := ⟨a, o + 1, none⟩) ha v1
theorem put2_size (w : World) (a o : Nat) (v0 v1 : Value) : (put2 w a o v0 v1).heap.size = w.heap.size := by simp [put2, World.setCell]
theorem FcCell.of_cells {w : World} {a o : Nat} {m : Fc} {cs : Array Value} {t : TypeId} {fz : Nat × Nat} (h : w.heap[a]? = some (.cells cs t fz)) (c0 : cs[o]? = some (.string m.p)) (c1 : cs[o + 1]? = some m.sv) : FcCell w a o m :=
  ⟨by rw [Lib.cell_of_heap h]; exact c0, by rw [Lib.cell_of_heap h]; exact c1⟩
theorem FcCell.of_block {w w' : World} {a o : Nat} {t : Fc} (h : FcCell w a o t) (hb : w'.heap[a]? = w.heap[a]?) : FcCell w' a o t :=
  ⟨(World.cell?_of_block (w := w) hb).trans h.c0, (World.cell?_of_block (w := w) hb).trans h.c1⟩
theorem put2_keeps {w : World} {a o o' : Nat} {m : Fc} {cs : Array Value} {t : TypeId} {fz : Nat × Nat} (h : w.heap[a]? = some (.cells cs t fz)) (hc : FcCell w a o' m) (ho : o' + 1 < o ∨ o + 1 < o') (v0 v1 : Value) :
    FcCell (put2 w a o v0 v1) a o' m := by
  obtain ⟨c0, c1⟩ := hc
  rw [Lib.cell_of_heap h] at c0 c1
  refine FcCell.of_cells (put2_heap h o v0 v1) ?_ ?_
  all_goals rw [set2_far _ _ _ _ _ (by omega)]
  all_goals assumption
theorem put2_new {w : World} {a o : Nat} {cs : Array Value} {t : TypeId} {fz : Nat × Nat} (h : w.heap[a]? = some (.cells cs t fz)) (ho : o + 1 < cs.size) (m : Fc) : FcCell (put2 w a o (.string m.p) m.sv) a o m := by
  obtain ⟨h0, h1⟩ := set2_at cs o (.string m.p) m.sv ho
  exact FcCell.of_cells (put2_heap h _ _ _) h0 h1
/-- A copy of a fact, its values in a block of their own. -/
def FcTw (w : World) (B : Nat) (f : Fc) : Prop := ∃ a, f.sv = .slice (some ⟨a, 0, none⟩) f.xs.length (f.xs.length + 1) ∧ B ≤ a ∧ TwVl w a f.xs
theorem FcTw.up {w w' : World} {B B' : Nat} (hB : B' ≤ B) (hs : w.heap.size ≤ w'.heap.size) (hb : ∀ k, B ≤ k → k < w.heap.size → w'.heap[k]? = w.heap[k]?) {f : Fc} (h : FcTw w B f) : FcTw w' B' f := by
  obtain ⟨a, hv, ha, ht⟩ := h
  exact ⟨a, hv, by omega, ht.of_block (Nat.lt_of_lt_of_le ht.lt hs) (hb a ha ht.lt)⟩
theorem FcTw.low {w w' : World} {B : Nat} {f : Fc} (h : FcTw w B f) (hb : Below w.heap.size w w') : FcTw w' B f := h.up (Nat.le_refl _) hb.size (fun k _ hk => hb.block k hk)
theorem FcTw.sl {w : World} {B : Nat} {f : Fc} (h : FcTw w B f) (hn : f.xs.length ≤ 4398046511104) : VlSl w f.sv f.xs := by
  obtain ⟨a, hv, ha, ht⟩ := h
  rw [hv]
  exact ht.sl hn
structure FcLike (f g : Fc) : Prop where
  p_ : g.p = f.p
  xs_ : g.xs = f.xs
theorem FcLike.r {f g : Fc} (h : FcLike f g) (hr : FcR f) : FcR g := ⟨by rw [h.p_]; exact hr.p_, by rw [h.xs_]; exact hr.r_, by rw [h.xs_]; exact hr.n_⟩
def TfPost (f : Fc) (w : World) (r : Ending) (w' : World) : Prop :=
  ∃ g, r = .returned (.agg #[.string g.p, g.sv]) ∧ FcLike f g ∧ FcTw w' w.heap.size g ∧ Below w.heap.size w w'
theorem infoFc : (Tryd.prog.info? 46).map (fun i => (i.zero, i.size, i.bytes)) = some (some (.agg #[.string ⟨#[]⟩, .slice none 0 0]), 2, 40) := by kernel_rfl
theorem make_fc (n : Nat) (hn : n ≤ 4398046511104) (w : World) : (Instr.makeSlice 26 (.int .i64 ((n : Int) + 1)) (.int .i64 ((n : Int) + 1))).run Tryd.prog w =
    .ok (.slice (some ⟨w.heap.size, 0, none⟩) (n + 1) (n + 1)) (w.alloc (.cells (madeCells #[.string ⟨#[]⟩, .slice none 0 0] ((n + 1) * 2)) 46)) := by
  obtain ⟨i, hi, hzz⟩ := Option.map_eq_some_iff.1 infoFc
  simp only [Prod.mk.injEq] at hzz
  obtain ⟨hz, hs, hb⟩ := hzz
  have h := run_make (P := Tryd.prog) w 26 46 i _ Tryd.underlying26 hi hz .i64 .i64 ((n : Int) + 1) ((n : Int) + 1) (by omega) (Int.le_refl _) (by rw [hb]; omega) (by omega)
  rw [h, hs, show ((n : Int) + 1).toNat = n + 1 by omega]
  rfl
def markFc : Fc := ⟨markB, [], .slice none 0 0⟩
/-- A copy of a list of facts in block a, with a mark behind it. -/
structure TwFc (w : World) (a : Nat) (fs gs : List Fc) : Prop where
  lt : a < w.heap.size
  len : gs.length = fs.length
  like : ∀ i, (h : i < fs.length) → (h' : i < gs.length) → FcLike fs[i] gs[i]
  cells : ∀ i, (h : i < gs.length) → FcCell w a (i * 2) gs[i]
  mark : FcCell w a (fs.length * 2) markFc
  kids : ∀ g ∈ gs, FcTw w (a + 1) g
  row : ∃ cs : Array Value, w.heap[a]? = some (.cells cs 46 (0, 0)) ∧ cs.size = (fs.length + 1) * 2
theorem TwFc.low {w w' : World} {a : Nat} {fs gs : List Fc} (h : TwFc w a fs gs) (hb : Below w.heap.size w w') : TwFc w' a fs gs :=
  ⟨Nat.lt_of_lt_of_le h.lt hb.size, h.len, h.like, fun i hi => (h.cells i hi).of_block (hb.block a h.lt), h.mark.of_block (hb.block a h.lt), fun g hg => (h.kids g hg).low hb, by obtain ⟨cs, h1, h2⟩ := h.row; exact ⟨cs, (hb.block a h.lt).trans h1, h2⟩⟩
theorem like_mem {fs gs : List Fc} (hl : gs.length = fs.length) (h : ∀ i, (h : i < fs.length) → (h' : i < gs.length) → FcLike fs[i] gs[i]) {P : Fc → Prop} {Q : Fc → Prop} (hf : ∀ f ∈ fs, P f) (hq : ∀ f g, FcLike f g → P f → Q g) : ∀ g ∈ gs, Q g := by
  intro g hg
  obtain ⟨i, hi, rfl⟩ := List.mem_iff_getElem.1 hg
  exact hq _ _ (h i (by omega) hi) (hf _ (List.getElem_mem (by omega)))
theorem TwFc.at {w : World} {a : Nat} {fs gs : List Fc} (h : TwFc w a fs gs) (hr : ∀ f ∈ fs, FcR f) : FcsAt w (some ⟨a, 0, none⟩) gs :=
  ⟨.inr ⟨a, 0, rfl, h.lt, fun i hi => by rw [Nat.zero_add]; exact h.cells i hi⟩, fun g hg => (h.kids g hg).sl (like_mem h.len h.like hr (fun _ _ h1 h2 => (h1.r h2)) g hg).n_⟩
/-- At the head of the copying rounds. -/
def TfRel (fs : List Fc) (w : World) (i : Value) (wr : World) : Prop :=
  ∃ (j : Nat) (gs : List Fc) (cs : Array Value), i = .int .i64 j ∧ j ≤ fs.length ∧ gs.length = j ∧ (∀ m, (h : m < fs.length) → (h' : m < gs.length) → FcLike fs[m] gs[m]) ∧
    wr.heap[w.heap.size]? = some (.cells cs 46 (0, 0)) ∧ cs.size = (fs.length + 1) * 2 ∧ (∀ m, (h : m < gs.length) → FcCell wr w.heap.size (m * 2) gs[m]) ∧ (∀ g ∈ gs, FcTw wr (w.heap.size + 1) g) ∧ Below w.heap.size w wr
theorem tf_next {fs gs : List Fc} {cs : Array Value} {w wr w1 : World} {j : Nat} {g : Fc} (hlt : j < fs.length) (hl : gs.length = j) (hal : ∀ m, (h : m < fs.length) → (h' : m < gs.length) → FcLike fs[m] gs[m])
    (hbk : wr.heap[w.heap.size]? = some (.cells cs 46 (0, 0))) (hcs : cs.size = (fs.length + 1) * 2) (hcell : ∀ m, (h : m < gs.length) → FcCell wr w.heap.size (m * 2) gs[m])
    (htw : ∀ g ∈ gs, FcTw wr (w.heap.size + 1) g) (hbe : Below w.heap.size w wr) (hal1 : FcLike fs[j] g) (htw1 : FcTw w1 wr.heap.size g) (hb1 : Below wr.heap.size wr w1) :
    TfRel fs w (.int .i64 ((j : Int) + 1)) (put2 w1 w.heap.size (j * 2) (.string g.p) g.sv) := by
  have hszr : w.heap.size < wr.heap.size := (Array.getElem?_eq_some_iff.1 hbk).1
  have hbk1 := (hb1.block w.heap.size hszr).trans hbk
  have hblk : ∀ k, w.heap.size + 1 ≤ k → k < w1.heap.size → (put2 w1 w.heap.size (j * 2) (.string g.p) g.sv).heap[k]? = w1.heap[k]? :=
    fun k hk _ => put2_block w1 (by omega) _ _ _
  refine ⟨j + 1, gs ++ [g], _, rfl, by omega, by simp [hl], ?_, put2_heap hbk1 _ _ _, by rw [set2_size]; exact hcs, ?_, ?_, put2_below (hbe.trans (hb1.mono (by omega))) (Nat.le_refl _) _ _ _⟩
  · intro m h h'
    by_cases hm : m < j
    · rw [List.getElem_append_left (by omega)]
      exact hal m h (by omega)
    · obtain rfl : m = j := by simp [hl] at h'; omega
      rw [List.getElem_append_right (by omega)]
      simpa [hl] using hal1
  · intro m h
    by_cases hm : m < j
    · rw [List.getElem_append_left (by omega)]
      exact put2_keeps hbk1 ((hcell m (by omega)).of_block (hb1.block _ hszr)) (by omega) _ _
    · obtain rfl : m = j := by simp [hl] at h; omega
      have e1 : (gs ++ [g])[m] = g := by
        rw [List.getElem_append_right (by omega)]
        simp [hl]
      rw [e1]
      exact put2_new hbk1 (by omega) _
  · intro t ht
    rcases List.mem_append.1 ht with ht | ht
    · have h1 : FcTw w1 (w.heap.size + 1) t := (htw t ht).up (Nat.le_refl _) hb1.size (fun k hk hk' => hb1.block k hk')
      exact h1.up (Nat.le_refl _) (by rw [put2_size]; omega) hblk
    · obtain rfl := List.mem_singleton.1 ht
      exact htw1.up (by omega) (by rw [put2_size]; omega) (fun k hk hk' => hblk k (by omega) hk')
/-- What a call leaves that copies a list of facts. -/
def TfsPost (fs : List Fc) (w : World) (r : Ending) (w' : World) : Prop :=
  ∃ a gs, r = .returned (.slice (some ⟨a, 0, none⟩) fs.length (fs.length + 1)) ∧ w.heap.size ≤ a ∧ TwFc w' a fs gs ∧ Below w.heap.size w w'
def BfRel (fs : List Fc) (w : World) (v i : Value) (wr : World) : Prop := ∃ (j : Nat) (n : Int), i = .int .i64 j ∧ v = .int .i64 n ∧ j ≤ fs.length ∧ (j : Int) ≤ n ∧ n ≤ 1048576 ∧ wr = w
def BfPost (fs : List Fc) (w : World) (r : Ending) (w' : World) : Prop := ∃ b : Bool, r = .returned (.bool b) ∧ (b = false → fs.length ≤ 1048576) ∧ w' = w
set_option maxHeartbeats 2000000 in
theorem beyondFacts (fs : List Fc) (p : Option Addr) (cap : Nat) (w : World) (hs : FcsAt w p fs) (hr : ∀ f ∈ fs, FcR f) (hn : fs.length ≤ 4398046511104) :
    Calls Tryd.prog 17 #[.slice p fs.length cap] w (BfPost fs w) := by
  have HS := Lib.hid hs; clear hs
  have HR := Lib.hid hr; clear hr
  go_enter Tryd.func17, Tryd.ntmps17
  go_wp2_with fail
  go_loopw [3, 4] (fun v i wr => BfRel fs w v i wr) (fun _ i _ => fs.length - (intOf i).toNat)
  case atStart => exact ⟨0, 0, rfl, rfl, by omega, by omega, by omega, rfl⟩
  case round =>
    obtain ⟨j, n, rfl, rfl, hj, hn1, hn2, rfl⟩ := hrel
    by_cases hlt : j < fs.length
    · rcases HS.out.1 with h0 | ⟨b, o, hp, hb, hc⟩
      · omega
      subst hp
      have hck := hc j hlt
      clear hc
      have hxl := (HR.out fs[j] (List.getElem_mem hlt)).n_
      obtain ⟨q, cp, hsv, hm, _⟩ := HS.out.2 fs[j] (List.getElem_mem hlt)
      obtain ⟨x, hx⟩ : ∃ x, x = fs[j] := ⟨_, rfl⟩
      rw [← hx] at hck hxl hsv hm
      clear hx
      obtain ⟨c0, c1⟩ := hck
      rw [hsv] at c1
      clear hsv
      by_cases hbig : 1048576 < n + 1 + (x.xs.length : Int)
      · go_wp2_with fail
        go_ret
        exact ⟨true, rfl, (fun h => nomatch h), rfl⟩
      · go_wp2_with fail
        exact ⟨⟨j + 1, n + 1 + (x.xs.length : Int), by go_num, rfl, by omega, by omega, by omega, rfl⟩, by simp [intOf]; omega⟩
    · go_wp2_with fail
      go_ret
      exact ⟨false, rfl, (fun _ => by omega), rfl⟩
end Go.Proofs.YtdgbenadoaecoaaDoor
