/- Copies of lists of arguments: marks. Conditions: none beyond the tables. -/
import Derived.Test.YtdgbenadoaecoaaGreatDoorS16
import Derived.Test.YtdgbenadoaecoaaGreatDoorB3
namespace Go.Proofs.YtdgbenadoaecoaaGreatDoor
open Go.RowKit

/-- An argument's cells. -/
structure AgC (w : World) (a o : Nat) (m : Ag) : Prop where
  c0 : w.cell? ⟨a, o, none⟩ = some (.int .i8 m.g)
  c1 : w.cell? ⟨a, o + 1, none⟩ = some (.string m.t.v)
  c2 : w.cell? ⟨a, o + 2, none⟩ = some (.int .i8 m.t.x.k)
  c3 : w.cell? ⟨a, o + 3, none⟩ = some (.int .i64 m.t.x.n)
  c4 : w.cell? ⟨a, o + 4, none⟩ = some (.string m.t.x.t)
theorem AgC.of_block {w w' : World} {a o : Nat} {t : Ag} (h : AgC w a o t) (hb : w'.heap[a]? = w.heap[a]?) : AgC w' a o t :=
  ⟨(World.cell?_of_block (w := w) hb).trans h.c0, (World.cell?_of_block (w := w) hb).trans h.c1, (World.cell?_of_block (w := w) hb).trans h.c2, (World.cell?_of_block (w := w) hb).trans h.c3, (World.cell?_of_block (w := w) hb).trans h.c4⟩
theorem AgC.up {w w' : World} {a o : Nat} {t : Ag} (h : AgC w a o t) (hb : Below w.heap.size w w') (ha : a < w.heap.size) : AgC w' a o t := h.of_block (hb.block a ha)
theorem AgsAt.at_ {w : World} {a o : Nat} {hs : List Ag} (h : ∀ i, (h : i < hs.length) → w.cell? ⟨a, o + i * 5, none⟩ = some (.int .i8 hs[i].g) ∧ TmCell w a (o + i * 5 + 1) hs[i].t) (i : Nat) (hi : i < hs.length) : AgC w a (o + i * 5) hs[i] := by
  obtain ⟨h0, h1, h2, h3, h4⟩ := h i hi
  exact ⟨h0, h1, h2, h3, h4⟩
/-- Five cells of a block, written one by one. -/
def put5 (w : World) (a o : Nat) (v0 v1 v2 v3 v4 : Value) : World :=
  ((((w.setCell ⟨a, o, none⟩ v0).setCell ⟨a, o + 1, none⟩ v1).setCell ⟨a, o + 2, none⟩ v2).setCell ⟨a, o + 3, none⟩ v3).setCell ⟨a, o + 4, none⟩ v4
def set5 (cs : Array Value) (o : Nat) (v0 v1 v2 v3 v4 : Value) : Array Value :=
  ((((cs.setIfInBounds o v0).setIfInBounds (o + 1) v1).setIfInBounds (o + 2) v2).setIfInBounds (o + 3) v3).setIfInBounds (o + 4) v4
theorem set5_size (cs : Array Value) (o : Nat) (v0 v1 v2 v3 v4 : Value) : (set5 cs o v0 v1 v2 v3 v4).size = cs.size := by simp [set5]
theorem set5_far (cs : Array Value) (o : Nat) (v0 v1 v2 v3 v4 : Value) (i : Nat) (h : i < o ∨ o + 4 < i) : (set5 cs o v0 v1 v2 v3 v4)[i]? = cs[i]? := by
  unfold set5
  rw [Array.getElem?_setIfInBounds_ne (by omega), Array.getElem?_setIfInBounds_ne (by omega), Array.getElem?_setIfInBounds_ne (by omega), Array.getElem?_setIfInBounds_ne (by omega), Array.getElem?_setIfInBounds_ne (by omega)]
theorem set5_at (cs : Array Value) (o : Nat) (v0 v1 v2 v3 v4 : Value) (h : o + 4 < cs.size) :
    (set5 cs o v0 v1 v2 v3 v4)[o]? = some v0 ∧ (set5 cs o v0 v1 v2 v3 v4)[o + 1]? = some v1 ∧ (set5 cs o v0 v1 v2 v3 v4)[o + 2]? = some v2 ∧ (set5 cs o v0 v1 v2 v3 v4)[o + 3]? = some v3 ∧ (set5 cs o v0 v1 v2 v3 v4)[o + 4]? = some v4 := by
  have h0 : o < cs.size := by omega
  have h1 : o + 1 < cs.size := by omega
  have h2 : o + 2 < cs.size := by omega
  have h3 : o + 3 < cs.size := by omega
  unfold set5
  simp [h, h0, h1, h2, h3]
theorem put5_heap {w : World} {a : Nat} {cs : Array Value} {t : TypeId} {fz : Nat × Nat} (h : w.heap[a]? = some (.cells cs t fz)) (o : Nat) (v0 v1 v2 v3 v4 : Value) :
    (put5 w a o v0 v1 v2 v3 v4).heap[a]? = some (.cells (set5 cs o v0 v1 v2 v3 v4) t fz) := by
  simp [put5, set5, World.setCell, Array.getElem?_modify, h]
theorem put5_below {B : Nat} {w0 w : World} (h : Below B w0 w) {a : Nat} (ha : B ≤ a) (o : Nat) (v0 v1 v2 v3 v4 : Value) : Below B w0 (put5 w a o v0 v1 v2 v3 v4) :=
  ((((h.setCell (p := ⟨a, o, none⟩) ha v0).setCell (p := ⟨a, o + 1, none⟩) ha v1).setCell (p := ⟨a, o + 2, none⟩) ha v2).setCell (p := ⟨a, o + 3, none⟩) ha v3).setCell (p := ⟨a, o + 4, none⟩) ha v4
theorem put5_size (w : World) (a o : Nat) (v0 v1 v2 v3 v4 : Value) : (put5 w a o v0 v1 v2 v3 v4).heap.size = w.heap.size := by simp [put5, World.setCell]
theorem AgC.of_cells {w : World} {a o : Nat} {m : Ag} {cs : Array Value} {t : TypeId} {fz : Nat × Nat} (h : w.heap[a]? = some (.cells cs t fz)) (c0 : cs[o]? = some (.int .i8 m.g)) (c1 : cs[o + 1]? = some (.string m.t.v)) (c2 : cs[o + 2]? = some (.int .i8 m.t.x.k))
    (c3 : cs[o + 3]? = some (.int .i64 m.t.x.n)) (c4 : cs[o + 4]? = some (.string m.t.x.t)) : AgC w a o m :=
  ⟨by rw [Lib.cell_of_heap h]; exact c0, by rw [Lib.cell_of_heap h]; exact c1, by rw [Lib.cell_of_heap h]; exact c2, by rw [Lib.cell_of_heap h]; exact c3, by rw [Lib.cell_of_heap h]; exact c4⟩
theorem put5_keeps {w : World} {a o o' : Nat} {m : Ag} {cs : Array Value} {t : TypeId} {fz : Nat × Nat} (h : w.heap[a]? = some (.cells cs t fz)) (hc : AgC w a o' m) (ho : o' + 4 < o ∨ o + 4 < o') (v0 v1 v2 v3 v4 : Value) :
    AgC (put5 w a o v0 v1 v2 v3 v4) a o' m := by
  obtain ⟨c0, c1, c2, c3, c4⟩ := hc
  rw [Lib.cell_of_heap h] at c0 c1 c2 c3 c4
  refine AgC.of_cells (put5_heap h o v0 v1 v2 v3 v4) ?_ ?_ ?_ ?_ ?_
  all_goals rw [set5_far _ _ _ _ _ _ _ _ (by omega)]
  all_goals assumption
theorem put5_new {w : World} {a o : Nat} {cs : Array Value} {t : TypeId} {fz : Nat × Nat} (h : w.heap[a]? = some (.cells cs t fz)) (ho : o + 4 < cs.size) (m : Ag) :
    AgC (put5 w a o (.int .i8 m.g) (.string m.t.v) (.int .i8 m.t.x.k) (.int .i64 m.t.x.n) (.string m.t.x.t)) a o m := by
  obtain ⟨h0, h1, h2, h3, h4⟩ := set5_at cs o (.int .i8 m.g) (.string m.t.v) (.int .i8 m.t.x.k) (.int .i64 m.t.x.n) (.string m.t.x.t) ho
  exact AgC.of_cells (put5_heap h _ _ _ _ _ _) h0 h1 h2 h3 h4
theorem five {w : World} {b : Nat} {x0 x1 x2 x3 x4 : Value} {t : TypeId} {fz : Nat × Nat} (h : w.heap[b]? = some (.cells #[x0, x1, x2, x3, x4] t fz)) :
    w.cell? ⟨b, 0, none⟩ = some x0 ∧ w.cell? ⟨b, 1, none⟩ = some x1 ∧ w.cell? ⟨b, 2, none⟩ = some x2 ∧ w.cell? ⟨b, 3, none⟩ = some x3 ∧ w.cell? ⟨b, 4, none⟩ = some x4 :=
  ⟨by rw [Lib.cell_of_heap h]; rfl, by rw [Lib.cell_of_heap h]; rfl, by rw [Lib.cell_of_heap h]; rfl, by rw [Lib.cell_of_heap h]; rfl, by rw [Lib.cell_of_heap h]; rfl⟩
def markAg : Ag := ⟨0, markTm⟩
theorem infoAg : (Tryz.prog.info? 83).map (fun i => (i.zero, i.size, i.bytes)) = some (some (.agg #[.int .i8 0, .string ⟨#[]⟩, .int .i8 0, .int .i64 0, .string ⟨#[]⟩]), 5, 56) := by kernel_rfl
theorem make_ag (n : Nat) (hn : n ≤ 2932031007317) (w : World) : (Instr.makeSlice 22 (.int .i64 ((n : Int) + 1)) (.int .i64 ((n : Int) + 1))).run Tryz.prog w =
    .ok (.slice (some ⟨w.heap.size, 0, none⟩) (n + 1) (n + 1)) (w.alloc (.cells (madeCells #[.int .i8 0, .string ⟨#[]⟩, .int .i8 0, .int .i64 0, .string ⟨#[]⟩] ((n + 1) * 5)) 83)) := by
  obtain ⟨i, hi, hzz⟩ := Option.map_eq_some_iff.1 infoAg
  simp only [Prod.mk.injEq] at hzz
  obtain ⟨hz, hs, hb⟩ := hzz
  have h := run_make (P := Tryz.prog) w 22 83 i _ Tryz.underlying22 hi hz .i64 .i64 ((n : Int) + 1) ((n : Int) + 1) (by omega) (Int.le_refl _) (by rw [hb]; omega) (by omega)
  rw [h, hs, show ((n : Int) + 1).toNat = n + 1 by omega]
  rfl
theorem mArg (w : World) (hT : Tabs w) : Calls Tryz.prog 33 #[.int .i64 777777] w fun e w' =>
    e = .returned (.agg #[.int .i8 0, .string markB, .int .i8 0, .int .i64 0, .string ⟨#[]⟩]) ∧ Below w.heap.size w w' := by
  have HT := Lib.hid hT; clear hT
  obtain ⟨W, hW⟩ : ∃ W, W = w.alloc (.cells #[.int .i8 0, .string ⟨#[]⟩, .int .i8 0, .int .i64 0, .string ⟨#[]⟩] 83) := ⟨_, rfl⟩
  have HBW := Lib.hid (show Below w.heap.size w W by rw [hW]; exact below_alloc _ _)
  have hsW : W.heap.size = w.heap.size + 1 := by rw [hW]; simp
  have HBX := Lib.hid (show W.heap[w.heap.size]? = some (.cells #[.int .i8 0, .string ⟨#[]⟩, .int .i8 0, .int .i64 0, .string ⟨#[]⟩] 83 (0, 0)) by rw [hW]; exact heap_alloc_new w _)
  obtain ⟨mk, hmk⟩ : ∃ mk, mk = markB := ⟨_, rfl⟩
  have HMK := Lib.hid hmk
  rw [← hmk]
  clear hmk
  go_enter Tryz.func33, Tryz.ntmps33
  go_wp2_with fail
  rw [← hW]
  clear hW
  refine (mWord _ (HT.out.at HBW.out)).mono ?_
  rintro e w1 ⟨rfl, hb⟩
  rw [← HMK.out]
  have hbx := (hb.block w.heap.size (by omega)).trans HBX.out
  obtain ⟨x0, x1, x2, x3, x4⟩ := five hbx
  have f0 : w1.frozen? ⟨w.heap.size, 0, none⟩ = false := Lib.frozen_of_heap hbx 0
  have f1 : w1.frozen? ⟨w.heap.size, 1, none⟩ = false := Lib.frozen_of_heap hbx 1
  have f2 : w1.frozen? ⟨w.heap.size, 2, none⟩ = false := Lib.frozen_of_heap hbx 2
  have f3 : w1.frozen? ⟨w.heap.size, 3, none⟩ = false := Lib.frozen_of_heap hbx 3
  have f4 : w1.frozen? ⟨w.heap.size, 4, none⟩ = false := Lib.frozen_of_heap hbx 4
  have HBX1 := Lib.hid hbx
  have Hb := Lib.hid (HBW.out.trans (hb.mono (by omega))); clear hb hbx
  go_wp2_with fail
  change bodyPost _ _ _ _ _ (put5 w1 w.heap.size 0 (.int .i8 0) (.string mk) (.int .i8 0) (.int .i64 0) (.string ⟨#[]⟩))
  clear x0 x1 x2 x3 x4 f0 f1 f2 f3 f4
  have hb2 := put5_heap HBX1.out 0 (.int .i8 0) (.string mk) (.int .i8 0) (.int .i64 0) (.string ⟨#[]⟩)
  have HBp := Lib.hid (put5_below Hb.out (Nat.le_refl _) 0 (.int .i8 0) (.string mk) (.int .i8 0) (.int .i64 0) (.string ⟨#[]⟩))
  obtain ⟨W2, hW2⟩ : ∃ W2, W2 = put5 w1 w.heap.size 0 (.int .i8 0) (.string mk) (.int .i8 0) (.int .i64 0) (.string ⟨#[]⟩) := ⟨_, rfl⟩
  rw [← hW2] at hb2 HBp ⊢
  clear hW2
  obtain ⟨z0, z1, z2, z3, z4⟩ := five (show W2.heap[w.heap.size]? = some (.cells #[.int .i8 0, .string mk, .int .i8 0, .int .i64 0, .string ⟨#[]⟩] 83 (0, 0)) from hb2)
  refine bodyPost_ret (v := .agg #[.int .i8 0, .string mk, .int .i8 0, .int .i64 0, .string ⟨#[]⟩]) (by simp [results, Tryz.results33, go_sem, z0, z1, z2, z3, z4]) rfl ?_
  exact ⟨rfl, HBp.out⟩
set_option maxHeartbeats 2000000 in
theorem isMarkA (w : World) (hT : Tabs w) : Calls Tryz.prog 51 #[.agg #[.int .i8 0, .string markB, .int .i8 0, .int .i64 0, .string ⟨#[]⟩], .int .i64 777777] w fun e w' =>
    e = .returned (.bool true) ∧ Below w.heap.size w w' := by
  have HT := Lib.hid hT; clear hT
  obtain ⟨mk, hmk⟩ : ∃ mk, mk = markB := ⟨_, rfl⟩
  have HMK := Lib.hid hmk
  rw [← hmk]
  clear hmk
  obtain ⟨W, hW⟩ : ∃ W, W = w.alloc (.cells #[.int .i8 0, .string mk, .int .i8 0, .int .i64 0, .string ⟨#[]⟩] 83) := ⟨_, rfl⟩
  have HBW := Lib.hid (show Below w.heap.size w W by rw [hW]; exact below_alloc _ _)
  have hsW : W.heap.size = w.heap.size + 1 := by rw [hW]; simp
  have hbk : w.heap.size < W.heap.size := by omega
  obtain ⟨x0, x1, x2, x3, x4⟩ := five (show W.heap[w.heap.size]? = some (.cells #[.int .i8 0, .string mk, .int .i8 0, .int .i64 0, .string ⟨#[]⟩] 83 (0, 0)) by rw [hW]; exact heap_alloc_new w _)
  go_enter Tryz.func51, Tryz.ntmps51
  go_wp2_with fail
  rw [← hW]
  clear hW
  go_region_held3 (fun w' => w'.cell? ⟨w.heap.size, 0, none⟩ = W.cell? ⟨w.heap.size, 0, none⟩ ∧ w'.cell? ⟨w.heap.size, 1, none⟩ = W.cell? ⟨w.heap.size, 1, none⟩ ∧ w'.cell? ⟨w.heap.size, 2, none⟩ = W.cell? ⟨w.heap.size, 2, none⟩ ∧ w'.cell? ⟨w.heap.size, 3, none⟩ = W.cell? ⟨w.heap.size, 3, none⟩ ∧ w'.cell? ⟨w.heap.size, 4, none⟩ = W.cell? ⟨w.heap.size, 4, none⟩)
    (first | exact ⟨rfl, rfl, rfl, rfl, rfl⟩ | exact ⟨Hb.out.cell hbk, Hb.out.cell hbk, Hb.out.cell hbk, Hb.out.cell hbk, Hb.out.cell hbk⟩)
    (first
      | (go_at_call 60
         refine (mWord _ ?_).mono ?_
         · exact HT.out.at HBW.out.drew
         rintro r w1 ⟨rfl, hb⟩
         rw [← HMK.out]
         have Hb := Lib.hid (show Below W.heap.size W w1 from ⟨hb.os, hb.tape, hb.output, hb.size, hb.block⟩)
         clear hb))
  all_goals
    clear x0 x1 x2 x3 x4
    go_wp2_with fail
    go_ret
    exact ⟨rfl, HBW.out.trans (Hb.out.mono (by omega))⟩
end Go.Proofs.YtdgbenadoaecoaaGreatDoor
