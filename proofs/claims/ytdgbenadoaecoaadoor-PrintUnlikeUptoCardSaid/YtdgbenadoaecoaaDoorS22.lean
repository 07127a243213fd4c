/- Copies of lists of arguments: marks. Copies of lists of arguments: the contracts of TwinArgs, SameArgs, LeftArgs. Lists of cells put into a block at any place; the contracts of markLiteral and isLiteral. Copies of lists of literals: the contract of TwinLiterals. Copies of lists of literals: the contract of LeftLiterals. Copies of rules: the contracts of TwinRule and LeftRule. Conditions: none beyond the tables. the arguments lie in memory as they are told, the list is not too long. the tables. the literals lie in memory as they are told, no list is too long. the rule lies in memory as it is told, no list is too long. -/
import Derived.Test.YtdgbenadoaecoaaDoorS16
import Derived.Test.YtdgbenadoaecoaaDoorB3
import Derived.Test.YtdgbenadoaecoaaDoorF2
namespace Go.Proofs.YtdgbenadoaecoaaDoor
open Go.RowKit

/-- An argument's cells. -/
structure AgC (w : World) (a o : Nat) (m : Ag) : Prop where
  c0 : w.cell? ⟨a, o, none⟩ = some (.int .i8 m.g)
  c1 : w.cell? ⟨a, o + 1, none⟩ = some (.string m.t.v)
  c2 : w.cell? ⟨a, o + 2, none⟩ = some (.int .i8 m.t.x.k)
  c3 : w.cell? ⟨a, o + 3, none⟩ = some (.int .i64 m.t.x.n)
  c4 : w.cell? ⟨a, o + 4, none⟩ = some (.string m.t.x.t)
theorem AgC.of_block {w w' : World} {a o : Nat} {t : Ag} (h : AgC w a o t) (hb : w'.heap[a]? = w.heap[a]?) : AgC w' a o t :=
  ⟨(World.cell?_of_block (w := w) hb).trans h.c0, (World.cell?_of_block (w := w) hb).trans h.c1, (World.cell?_of_block (w := w) hb).trans h.c2, (World.cell?_of_block (w := w) hb).trans h.c3, (World.cell?_of_block (w := w) hb).trans h.c4⟩
theorem AgC.up {w w' : World} {a o : Nat} {t : Ag} (h : AgC w a o t) (hb : Below w.heap.size w w') (ha : a < w.heap.size) : AgC w' a o t := h.of_block (hb.block a ha)
theorem AgsAt.at_ {w : World} {a o : Nat} {hs : List Ag} (h : ∀ i, (h : i < hs.length) → w.cell? ⟨a, o + i * 5, none⟩ = some (.int .i8 hs[i].g) ∧ TmCell w a (o + i * 5 + 1) hs[i].t) (i : Nat) (hi : i < hs.length) : AgC w a (o + i * 5) hs[i] := by
  obtain ⟨h0, h1, h2, h3, h4⟩ := h i hi
  exact ⟨h0, h1, h2, h3, h4⟩
/-- Five cells of a block, written one by one. -/
def put5 (w : World) (a o : Nat) (v0 v1 v2 v3 v4 : Value) : World :=
  ((((w.setCell ⟨a, o, none⟩ v0).setCell ⟨a, o + 1, none⟩ v1).setCell ⟨a, o + 2, none⟩ v2).setCell ⟨a, o + 3, none⟩ v3).setCell ⟨a, o + 4, none⟩ v4
def set5 (cs : Array Value) (o : Nat) (v0 v1 v2 v3 v4 : Value) : Array Value :=
  ((((cs.setIfInBounds o v0).setIfInBounds (o + 1) v1).setIfInBounds (o + 2) v2).setIfInBounds (o + 3) v3).setIfInBounds (o + 4) v4
theorem set5_size (cs : Array Value) (o : Nat) (v0 v1 v2 v3 v4 : Value) : (set5 cs o v0 v1 v2 v3 v4).size = cs.size := by simp [set5]
theorem set5_far (cs : Array Value) (o : Nat) (v0 v1 v2 v3 v4 : Value) (i : Nat) (h : i < o ∨ o + 4 < i) : (set5 cs o v0 v1 v2 v3 v4)[i]? = cs[i]? := by
  unfold set5
  rw [Array.getElem?_setIfInBounds_ne (by omega), Array.getElem?_setIfInBounds_ne (by omega), Array.getElem?_setIfInBounds_ne (by omega), Array.getElem?_setIfInBounds_ne (by omega), Array.getElem?_setIfInBounds_ne (by omega)]
theorem set5_at (cs : Array Value) (o : Nat) (v0 v1 v2 v3 v4 : Value) (h : o + 4 < cs.size) :
    (set5 cs o v0 v1 v2 v3 v4)[o]? = some v0 ∧ (set5 cs o v0 v1 v2 v3 v4)[o + 1]? = some v1 ∧ (set5 cs o v0 v1 v2 v3 v4)[o + 2]? = some v2 ∧ (set5 cs o v0 v1 v2 v3 v4)[o + 3]? = some v3 ∧ (set5 cs o v0 v1 v2 v3 v4)[o + 4]? = some v4 := by
  have h0 : o < cs.size := by omega
  have h1 : o + 1 < cs.size := by omega
  have h2 : o + 2 < cs.size := by omega
  have h3 : o + 3 < cs.size := by omega
  unfold set5
  simp [h, h0, h1, h2, h3]
theorem put5_heap {w : World} {a : Nat} {cs : Array Value} {t : TypeId} {fz : Nat × Nat} (h : w.heap[a]? = some (.cells cs t fz)) (o : Nat) (v0 v1 v2 v3 v4 : Value) :
    (put5 w a o v0 v1 v2 v3 v4).heap[a]? = some (.cells (set5 cs o v0 v1 v2 v3 v4) t fz) := by
  simp [put5, set5, World.setCell, Array.getElem?_modify, h]
theorem put5_below {B : Nat} {w0 w : World} (h : Below B w0 w) {a : Nat} (ha : B ≤ a) (o : Nat) (v0 v1 v2 v3 v4 : Value) : Below B w0 (put5 w a o v0 v1 v2 v3 v4) :=
  ((((h.setCell (p := ⟨a, o, none⟩) ha v0).setCell (p := ⟨a, o + 1, none⟩) ha v1).setCell (p := ⟨a, o + 2, none⟩) ha v2).setCell (p := ⟨a, o + 3, none⟩) ha v3).setCell (p := ⟨a, o + 4, none⟩) ha v4
theorem put5_size (w : World) (a o : Nat) (v0 v1 v2 v3 v4 : Value) : (put5 w a o v0 v1 v2 v3 v4).heap.size = w.heap.size := by simp [put5, World.setCell]
theorem AgC.of_cells {w : World} {a o : Nat} {m : Ag} {cs : Array Value} {t : TypeId} {fz : Nat × Nat} (h : w.heap[a]? = some (.cells cs t fz)) (c0 : cs[o]? = some (.int .i8 m.g)) (c1 : cs[o + 1]? = some (.string m.t.v)) (c2 : cs[o + 2]? = some (.int .i8 m.t.x.k))
    (c3 : cs[o + 3]? = some (.int .i64 m.t.x.n)) (c4 : cs[o + 4]? = some (.string m.t.x.t)) : AgC w a o m :=
  ⟨by rw [Lib.cell_of_heap h]; exact c0, by rw [Lib.cell_of_heap h]; exact c1, by rw [Lib.cell_of_heap h]; exact c2, by rw [Lib.cell_of_heap h]; exact c3, by rw [Lib.cell_of_heap h]; exact c4⟩
theorem put5_keeps {w : World} {a o o' : Nat} {m : Ag} {cs : Array Value} {t : TypeId} {fz : Nat × Nat} (h : w.heap[a]? = some (.cells cs t fz)) (hc : AgC w a o' m) (ho : o' + 4 < o ∨ o + 4 < o') (v0 v1 v2 v3 v4 : Value) :
    AgC (put5 w a o v0 v1 v2 v3 v4) a o' m := by
  obtain ⟨c0, c1, c2, c3, c4⟩ := hc
  rw [Lib.cell_of_heap h] at c0 c1 c2 c3 c4
  refine AgC.of_cells (put5_heap h o v0 v1 v2 v3 v4) ?_ ?_ ?_ ?_ ?_
  all_goals rw [set5_far _ _ _ _ _ _ _ _ (by omega)]
  all_goals assumption
theorem put5_new {w : World} {a o : Nat} {cs : Array Value} {t : TypeId} {fz : Nat × Nat} (h : w.heap[a]? = some (.cells cs t fz)) (ho : o + 4 < cs.size) (m : Ag) :
    AgC (put5 w a o (.int .i8 m.g) (.string m.t.v) (.int .i8 m.t.x.k) (.int .i64 m.t.x.n) (.string m.t.x.t)) a o m := by
  obtain ⟨h0, h1, h2, h3, h4⟩ := set5_at cs o (.int .i8 m.g) (.string m.t.v) (.int .i8 m.t.x.k) (.int .i64 m.t.x.n) (.string m.t.x.t) ho
  exact AgC.of_cells (put5_heap h _ _ _ _ _ _) h0 h1 h2 h3 h4
theorem five {w : World} {b : Nat} {x0 x1 x2 x3 x4 : Value} {t : TypeId} {fz : Nat × Nat} (h : w.heap[b]? = some (.cells #[x0, x1, x2, x3, x4] t fz)) :
    w.cell? ⟨b, 0, none⟩ = some x0 ∧ w.cell? ⟨b, 1, none⟩ = some x1 ∧ w.cell? ⟨b, 2, none⟩ = some x2 ∧ w.cell? ⟨b, 3, none⟩ = some x3 ∧ w.cell? ⟨b, 4, none⟩ = some x4 :=
  ⟨by rw [Lib.cell_of_heap h]; rfl, by rw [Lib.cell_of_heap h]; rfl, by rw [Lib.cell_of_heap h]; rfl, by rw [Lib.cell_of_heap h]; rfl, by rw [Lib.cell_of_heap h]; rfl⟩
def markAg : Ag := ⟨0, markTm⟩
theorem infoAg : (Tryd.prog.info? 55).map (fun i => (i.zero, i.size, i.bytes)) = some (some (.agg #[.int .i8 0, .string ⟨#[]⟩, .int .i8 0, .int .i64 0, .string ⟨#[]⟩]), 5, 56) := by kernel_rfl
theorem make_ag (n : Nat) (hn : n ≤ 2932031007317) (w : World) : (Instr.makeSlice 22 (.int .i64 ((n : Int) + 1)) (.int .i64 ((n : Int) + 1))).run Tryd.prog w =
    .ok (.slice (some ⟨w.heap.size, 0, none⟩) (n + 1) (n + 1)) (w.alloc (.cells (madeCells #[.int .i8 0, .string ⟨#[]⟩, .int .i8 0, .int .i64 0, .string ⟨#[]⟩] ((n + 1) * 5)) 55)) := by
  obtain ⟨i, hi, hzz⟩ := Option.map_eq_some_iff.1 infoAg
  simp only [Prod.mk.injEq] at hzz
  obtain ⟨hz, hs, hb⟩ := hzz
  have h := run_make (P := Tryd.prog) w 22 55 i _ Tryd.underlying22 hi hz .i64 .i64 ((n : Int) + 1) ((n : Int) + 1) (by omega) (Int.le_refl _) (by rw [hb]; omega) (by omega)
  rw [h, hs, show ((n : Int) + 1).toNat = n + 1 by omega]
  rfl
open Go.RowKit

/-- A copy of a list of arguments in block a, with a mark behind it. -/
structure TwAg (w : World) (a : Nat) (ts : List Ag) : Prop where
  lt : a < w.heap.size
  cells : ∀ i, (h : i < ts.length) → AgC w a (i * 5) ts[i]
  mark : AgC w a (ts.length * 5) markAg
theorem TwAg.low {w w' : World} {a : Nat} {ts : List Ag} (h : TwAg w a ts) (hb : Below w.heap.size w w') : TwAg w' a ts :=
  ⟨Nat.lt_of_lt_of_le h.lt hb.size, fun i hi => (h.cells i hi).of_block (hb.block a h.lt), h.mark.of_block (hb.block a h.lt)⟩
theorem TwAg.of_block {w w' : World} {a : Nat} {ts : List Ag} (h : TwAg w a ts) (hl : a < w'.heap.size) (hb : w'.heap[a]? = w.heap[a]?) : TwAg w' a ts :=
  ⟨hl, fun i hi => (h.cells i hi).of_block hb, h.mark.of_block hb⟩
theorem TwAg.sl {w : World} {a : Nat} {ts : List Ag} (h : TwAg w a ts) : AgsAt w (some ⟨a, 0, none⟩) ts :=
  .inr ⟨a, 0, rfl, h.lt, fun i hi => by
    rw [Nat.zero_add]
    obtain ⟨c0, c1, c2, c3, c4⟩ := h.cells i hi
    exact ⟨c0, c1, c2, c3, c4⟩⟩
/-- At the head of the copying rounds. -/
def TaRel (ts : List Ag) (w : World) (i : Value) (wr : World) : Prop :=
  ∃ (j : Nat) (cs : Array Value), i = .int .i64 j ∧ j ≤ ts.length ∧ wr.heap[w.heap.size]? = some (.cells cs 55 (0, 0)) ∧ cs.size = (ts.length + 1) * 5 ∧ (∀ m, (h : m < ts.length) → m < j → AgC wr w.heap.size (m * 5) ts[m]) ∧ Below w.heap.size w wr
/-- What a call leaves that copies a list of arguments. -/
def TgPost (ts : List Ag) (w : World) (r : Ending) (w' : World) : Prop :=
  ∃ a, r = .returned (.slice (some ⟨a, 0, none⟩) ts.length (ts.length + 1)) ∧ w.heap.size ≤ a ∧ TwAg w' a ts ∧ Below w.heap.size w w'
set_option maxHeartbeats 4000000 in
theorem sameArgs (ts : List Ag) (a : Nat) (q : Option Addr) (cap : Nat) (w : World) (hts : AgsAt w q ts) (hn : ts.length ≤ 2932031007317) (ht : TwAg w a ts) :
    Calls Tryd.prog 30 #[.slice (some ⟨a, 0, none⟩) ts.length (ts.length + 1), .slice q ts.length cap] w fun r w' => r = .returned (.bool true) ∧ Below w.heap.size w w' := by
  have HS := Lib.hid hts; clear hts
  have HT := Lib.hid ht; clear ht
  have har0 := HT.out.lt
  go_enter Tryd.func30, Tryd.ntmps30
  go_wp2_with fail
  go_loopw [5] (fun i wr => ∃ j : Nat, j ≤ ts.length ∧ i = .int .i64 j ∧ Below w.heap.size w wr) (fun i _ => ts.length - (intOf i).toNat)
  case atStart => exact ⟨0, by omega, rfl, Below.refl _ _⟩
  case round =>
    obtain ⟨j, hj, rfl, hbe⟩ := hrel
    have HBE := Lib.hid hbe; clear hbe
    by_cases hlt : j < ts.length
    · rcases HS.out with h0 | ⟨b, o, hp, hbl, hat⟩
      · omega
      subst hp
      have hck := (AgsAt.at_ hat j hlt).up HBE.out hbl
      have hct := (HT.out.cells j hlt).up HBE.out HT.out.lt
      clear hat
      obtain ⟨tk, htk⟩ : ∃ tk, tk = ts[j] := ⟨_, rfl⟩
      rw [← htk] at hck hct
      clear htk
      obtain ⟨g, ⟨v, ⟨k, n, t⟩⟩⟩ := tk
      obtain ⟨c0, c1, c2, c3, c4⟩ := hck
      obtain ⟨d0, d1, d2, d3, d4⟩ := hct
      go_wp2_with fail
      go_quiet (fail)
      go_wp2_with fail
      go_roundw
      case rel => exact ⟨j + 1, by omega, by go_num, below_drewN HBE.out _⟩
      case measure => simp [intOf]; omega
    · go_wp2_with fail
      go_ret
      exact ⟨rfl, HBE.out⟩
open Go.RowKit

def setL : Array Value → Nat → List Value → Array Value
  | cs, _, [] => cs
  | cs, o, v :: r => setL (cs.setIfInBounds o v) (o + 1) r
theorem setL_size : ∀ (vs : List Value) (cs : Array Value) (o : Nat), (setL cs o vs).size = cs.size
  | [], _, _ => rfl
  | _ :: r, cs, o => by rw [setL, setL_size r]; simp
theorem setL_far : ∀ (vs : List Value) (cs : Array Value) (o i : Nat), i < o ∨ o + vs.length ≤ i → (setL cs o vs)[i]? = cs[i]?
  | [], _, _, _, _ => rfl
  | v :: r, cs, o, i, h => by
    rw [List.length_cons] at h
    rw [setL, setL_far r _ _ _ (by omega), Array.getElem?_setIfInBounds_ne (by omega)]
theorem setL_at : ∀ (vs : List Value) (cs : Array Value) (o i : Nat), o + vs.length ≤ cs.size → i < vs.length → (setL cs o vs)[o + i]? = vs[i]?
  | [], _, _, _, _, hi => by simp at hi
  | v :: r, cs, o, 0, h, _ => by
    rw [List.length_cons] at h
    rw [setL, setL_far r _ _ _ (by omega)]
    simp [show o < cs.size by omega]
  | v :: r, cs, o, i + 1, h, hi => by
    rw [List.length_cons] at h hi
    have h1 := setL_at r (cs.setIfInBounds o v) (o + 1) i (by simp; omega) (by omega)
    rw [show o + 1 + i = o + (i + 1) by omega] at h1
    rw [setL, h1, List.getElem?_cons_succ]
theorem putL_any {a : Nat} {t : TypeId} {fz : Nat × Nat} : ∀ (vs : List Value) (w : World) (o : Nat) (cs : Array Value), w.heap[a]? = some (.cells cs t fz) → (putL w a o vs).heap[a]? = some (.cells (setL cs o vs) t fz)
  | [], _, _, _, h => h
  | v :: r, w, o, cs, h => by
    have h1 : (w.setCell ⟨a, o, none⟩ v).heap[a]? = some (.cells (cs.setIfInBounds o v) t fz) := by simp [World.setCell, Array.getElem?_modify, h]
    exact putL_any r _ (o + 1) _ h1
/-- The values of a literal's cells. -/
def ltVs {d : Nat} (x : Lt d) : List Value :=
  [.int .i8 x.k, .string x.p, x.sv, .int .i8 x.r, .int .i8 (exOp d x.l), .string (exTm d x.l).v, .int .i8 (exTm d x.l).x.k, .int .i64 (exTm d x.l).x.n, .string (exTm d x.l).x.t, exSl d x.l,
    .int .i8 (exOp d x.g), .string (exTm d x.g).v, .int .i8 (exTm d x.g).x.k, .int .i64 (exTm d x.g).x.n, .string (exTm d x.g).x.t, exSl d x.g]
def mkVs : List Value := [.int .i8 99, .string markB, .slice none 0 0, .int .i8 0, .int .i8 0, .string ⟨#[]⟩, .int .i8 0, .int .i64 0, .string ⟨#[]⟩, .slice none 0 0, .int .i8 0, .string ⟨#[]⟩, .int .i8 0, .int .i64 0, .string ⟨#[]⟩, .slice none 0 0]
/-- Values in the cells of a block. -/
def VsAt (w : World) (a o : Nat) (vs : List Value) : Prop := ∀ i, i < vs.length → w.cell? ⟨a, o + i, none⟩ = vs[i]?
theorem VsAt.of_block {w w' : World} {a o : Nat} {vs : List Value} (h : VsAt w a o vs) (hb : w'.heap[a]? = w.heap[a]?) : VsAt w' a o vs :=
  fun i hi => (World.cell?_of_block (w := w) hb).trans (h i hi)
theorem VsAt.lt {w : World} {a o d : Nat} {x : Lt d} (h : VsAt w a o (ltVs x)) : LtCell w a o x :=
  ⟨h 0 (by simp [ltVs]), h 1 (by simp [ltVs]), h 2 (by simp [ltVs]), h 3 (by simp [ltVs]), h 4 (by simp [ltVs]), h 5 (by simp [ltVs]), h 6 (by simp [ltVs]), h 7 (by simp [ltVs]), h 8 (by simp [ltVs]), h 9 (by simp [ltVs]), h 10 (by simp [ltVs]), h 11 (by simp [ltVs]), h 12 (by simp [ltVs]), h 13 (by simp [ltVs]), h 14 (by simp [ltVs]), h 15 (by simp [ltVs])⟩
theorem LtCell.vs {w : World} {a o d : Nat} {x : Lt d} (h : LtCell w a o x) : VsAt w a o (ltVs x)
  | 0, _ => h.c0
  | 1, _ => h.c1
  | 2, _ => h.c2
  | 3, _ => h.c3
  | 4, _ => h.c4
  | 5, _ => h.c5
  | 6, _ => h.c6
  | 7, _ => h.c7
  | 8, _ => h.c8
  | 9, _ => h.c9
  | 10, _ => h.c10
  | 11, _ => h.c11
  | 12, _ => h.c12
  | 13, _ => h.c13
  | 14, _ => h.c14
  | 15, _ => h.c15
  | _ + 16, hi => by simp only [ltVs, List.length_cons, List.length_nil] at hi; omega
theorem VsAt.of_cells {w : World} {a o : Nat} {cs : Array Value} {t : TypeId} {fz : Nat × Nat} {vs : List Value} (h : w.heap[a]? = some (.cells cs t fz)) (hc : ∀ i, i < vs.length → cs[o + i]? = vs[i]?) : VsAt w a o vs :=
  fun i hi => by rw [Lib.cell_of_heap h]; exact hc i hi
theorem putL_keepsV {w : World} {a o o' : Nat} {us vs : List Value} {cs : Array Value} {t : TypeId} {fz : Nat × Nat} (h : w.heap[a]? = some (.cells cs t fz)) (hc : VsAt w a o' us) (ho : o' + us.length ≤ o ∨ o + vs.length ≤ o') :
    VsAt (putL w a o vs) a o' us := by
  refine VsAt.of_cells (putL_any vs w o cs h) fun i hi => ?_
  have h1 := hc i hi
  rw [Lib.cell_of_heap h] at h1
  rw [setL_far _ _ _ _ (by omega)]
  exact h1
theorem putL_newV {w : World} {a o : Nat} {vs : List Value} {cs : Array Value} {t : TypeId} {fz : Nat × Nat} (h : w.heap[a]? = some (.cells cs t fz)) (ho : o + vs.length ≤ cs.size) : VsAt (putL w a o vs) a o vs :=
  VsAt.of_cells (putL_any vs w o cs h) fun i hi => setL_at vs cs o i ho hi
open Go.RowKit

theorem infoLt : (Tryd.prog.info? 94).map (fun i => (i.zero, i.size, i.bytes)) = some (some (.agg #[.int .i8 0, .string ⟨#[]⟩, .slice none 0 0, .int .i8 0, .int .i8 0, .string ⟨#[]⟩, .int .i8 0, .int .i64 0, .string ⟨#[]⟩, .slice none 0 0, .int .i8 0, .string ⟨#[]⟩, .int .i8 0, .int .i64 0, .string ⟨#[]⟩, .slice none 0 0]), 16, 216) := by kernel_rfl
theorem make_lt (n : Nat) (hn : n ≤ 1000000000000) (w : World) : (Instr.makeSlice 23 (.int .i64 ((n : Int) + 1)) (.int .i64 ((n : Int) + 1))).run Tryd.prog w =
    .ok (.slice (some ⟨w.heap.size, 0, none⟩) (n + 1) (n + 1)) (w.alloc (.cells (madeCells #[.int .i8 0, .string ⟨#[]⟩, .slice none 0 0, .int .i8 0, .int .i8 0, .string ⟨#[]⟩, .int .i8 0, .int .i64 0, .string ⟨#[]⟩, .slice none 0 0, .int .i8 0, .string ⟨#[]⟩, .int .i8 0, .int .i64 0, .string ⟨#[]⟩, .slice none 0 0] ((n + 1) * 16)) 94)) := by
  obtain ⟨i, hi, hzz⟩ := Option.map_eq_some_iff.1 infoLt
  simp only [Prod.mk.injEq] at hzz
  obtain ⟨hz, hs, hb⟩ := hzz
  have h := run_make (P := Tryd.prog) w 23 94 i _ Tryd.underlying23 hi hz .i64 .i64 ((n : Int) + 1) ((n : Int) + 1) (by omega) (Int.le_refl _) (by rw [hb]; omega) (by omega)
  rw [h, hs, show ((n : Int) + 1).toNat = n + 1 by omega]
  rfl
/-- A copy of a list of literals in block a, with a mark behind it. -/
structure TwLs (w : World) (a : Nat) {d : Nat} (fs gs : List (Lt d)) : Prop where
  lt : a < w.heap.size
  len : gs.length = fs.length
  like : ∀ i, (h : i < fs.length) → (h' : i < gs.length) → LtLike fs[i] gs[i]
  cells : ∀ i, (h : i < gs.length) → VsAt w a (i * 16) (ltVs gs[i])
  mark : VsAt w a (fs.length * 16) mkVs
  kids : ∀ g ∈ gs, LtTw w (a + 1) g
theorem TwLs.up {w w' : World} {a : Nat} {d : Nat} {fs gs : List (Lt d)} (h : TwLs w a fs gs) (hs : w.heap.size ≤ w'.heap.size) (hb : ∀ k, a ≤ k → k < w.heap.size → w'.heap[k]? = w.heap[k]?) : TwLs w' a fs gs :=
  ⟨Nat.lt_of_lt_of_le h.lt hs, h.len, h.like, fun i hi => (h.cells i hi).of_block (hb a (Nat.le_refl _) h.lt), h.mark.of_block (hb a (Nat.le_refl _) h.lt), fun g hg => (h.kids g hg).up (Nat.le_refl _) hs (fun k h1 h2 => hb k (by omega) h2)⟩
theorem TwLs.low {w w' : World} {a : Nat} {d : Nat} {fs gs : List (Lt d)} (h : TwLs w a fs gs) (hb : Below w.heap.size w w') : TwLs w' a fs gs := h.up hb.size (fun k _ hk => hb.block k hk)
theorem like_lt {d : Nat} {fs gs : List (Lt d)} (hl : gs.length = fs.length) (h : ∀ i, (h : i < fs.length) → (h' : i < gs.length) → LtLike fs[i] gs[i]) {P : Lt d → Prop} {Q : Lt d → Prop} (hf : ∀ f ∈ fs, P f) (hq : ∀ f g, LtLike f g → P f → Q g) : ∀ g ∈ gs, Q g := by
  intro g hg
  obtain ⟨i, hi, rfl⟩ := List.mem_iff_getElem.1 hg
  exact hq _ _ (h i (by omega) hi) (hf _ (List.getElem_mem (by omega)))
theorem TwLs.at {w : World} {a : Nat} {d : Nat} {fs gs : List (Lt d)} (h : TwLs w a fs gs) (hr : ∀ f ∈ fs, LtB f) : LtsAt w d (some ⟨a, 0, none⟩) gs :=
  ⟨.inr ⟨a, 0, rfl, h.lt, fun i hi => by rw [Nat.zero_add]; exact (h.cells i hi).lt⟩, fun g hg => (h.kids g hg).at (like_lt h.len h.like hr (fun _ _ h1 h2 => h1.b h2) g hg)⟩
/-- At the head of the copying rounds. -/
def TlRel {d : Nat} (fs : List (Lt d)) (w : World) (i : Value) (wr : World) : Prop :=
  ∃ (j : Nat) (gs : List (Lt d)) (cs : Array Value), i = .int .i64 j ∧ j ≤ fs.length ∧ gs.length = j ∧ (∀ m, (h : m < fs.length) → (h' : m < gs.length) → LtLike fs[m] gs[m]) ∧
    wr.heap[w.heap.size]? = some (.cells cs 94 (0, 0)) ∧ cs.size = (fs.length + 1) * 16 ∧ (∀ m, (h : m < gs.length) → VsAt wr w.heap.size (m * 16) (ltVs gs[m])) ∧ (∀ g ∈ gs, LtTw wr (w.heap.size + 1) g) ∧ Below w.heap.size w wr
theorem ltVs_len {d : Nat} (x : Lt d) : (ltVs x).length = 16 := rfl
theorem tl_next {d : Nat} {fs gs : List (Lt d)} {cs : Array Value} {w wr w1 : World} {j : Nat} {g : Lt d} (hlt : j < fs.length) (hl : gs.length = j) (hal : ∀ m, (h : m < fs.length) → (h' : m < gs.length) → LtLike fs[m] gs[m])
    (hbk : wr.heap[w.heap.size]? = some (.cells cs 94 (0, 0))) (hcs : cs.size = (fs.length + 1) * 16) (hcell : ∀ m, (h : m < gs.length) → VsAt wr w.heap.size (m * 16) (ltVs gs[m]))
    (htw : ∀ g ∈ gs, LtTw wr (w.heap.size + 1) g) (hbe : Below w.heap.size w wr) (hal1 : LtLike fs[j] g) (htw1 : LtTw w1 wr.heap.size g) (hb1 : Below wr.heap.size wr w1) :
    TlRel fs w (.int .i64 ((j : Int) + 1)) (putL w1 w.heap.size (j * 16) (ltVs g)) := by
  have hszr : w.heap.size < wr.heap.size := (Array.getElem?_eq_some_iff.1 hbk).1
  have hbk1 := (hb1.block w.heap.size hszr).trans hbk
  have hblk : ∀ k, w.heap.size + 1 ≤ k → k < w1.heap.size → (putL w1 w.heap.size (j * 16) (ltVs g)).heap[k]? = w1.heap[k]? :=
    fun k hk _ => putL_block (by omega) _ _ _
  refine ⟨j + 1, gs ++ [g], _, rfl, by omega, by simp [hl], ?_, putL_any _ _ _ _ hbk1, by rw [setL_size]; exact hcs, ?_, ?_, putL_below (Nat.le_refl _) _ _ _ (hbe.trans (hb1.mono (by omega)))⟩
  · intro m h h'
    by_cases hm : m < j
    · rw [List.getElem_append_left (by omega)]
      exact hal m h (by omega)
    · obtain rfl : m = j := by simp [hl] at h'; omega
      rw [List.getElem_append_right (by omega)]
      simpa [hl] using hal1
  · intro m h
    by_cases hm : m < j
    · rw [List.getElem_append_left (by omega)]
      exact putL_keepsV hbk1 ((hcell m (by omega)).of_block (hb1.block _ hszr)) (by rw [ltVs_len, ltVs_len]; omega)
    · obtain rfl : m = j := by simp [hl] at h; omega
      have e1 : (gs ++ [g])[m] = g := by
        rw [List.getElem_append_right (by omega)]
        simp [hl]
      rw [e1]
      exact putL_newV hbk1 (by rw [ltVs_len]; omega)
  · intro t ht
    rcases List.mem_append.1 ht with ht | ht
    · have h1 : LtTw w1 (w.heap.size + 1) t := (htw t ht).up (Nat.le_refl _) hb1.size (fun k hk hk' => hb1.block k hk')
      exact h1.up (Nat.le_refl _) (by rw [putL_size]; omega) hblk
    · obtain rfl := List.mem_singleton.1 ht
      exact htw1.up (by omega) (by rw [putL_size]; omega) (fun k hk hk' => hblk k (by omega) hk')
/-- What a call leaves that copies a list of literals. -/
def TlsPost {d : Nat} (fs : List (Lt d)) (w : World) (r : Ending) (w' : World) : Prop :=
  ∃ a gs, r = .returned (.slice (some ⟨a, 0, none⟩) fs.length (fs.length + 1)) ∧ w.heap.size ≤ a ∧ TwLs w' a fs gs ∧ Below w.heap.size w w'
open Go.RowKit

open Go.RowKit

/-- What a call leaves that copies a rule. -/
def TruPost {d : Nat} (p : ByteArray) (hs : List Ag) (bs : List (Lt d)) (w : World) (r : Ending) (w' : World) : Prop :=
  ∃ a b gs, r = .returned (.agg #[.string p, .slice (some ⟨a, 0, none⟩) hs.length (hs.length + 1), .slice (some ⟨b, 0, none⟩) bs.length (bs.length + 1)]) ∧ w.heap.size ≤ a ∧ w.heap.size ≤ b ∧ TwAg w' a hs ∧ TwLs w' b bs gs ∧ Below w.heap.size w w'
end Go.Proofs.YtdgbenadoaecoaaDoor
