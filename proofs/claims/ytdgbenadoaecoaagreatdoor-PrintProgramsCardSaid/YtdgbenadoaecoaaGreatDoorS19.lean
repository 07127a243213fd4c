/- Lists of cells put into a block at any place; the contracts of markLiteral and isLiteral. Conditions: the tables. -/
import Derived.Test.YtdgbenadoaecoaaGreatDoorS18
import Derived.Test.YtdgbenadoaecoaaGreatDoorF2
namespace Go.Proofs.YtdgbenadoaecoaaGreatDoor
open Go.RowKit

def setL : Array Value → Nat → List Value → Array Value
  | cs, _, [] => cs
  | cs, o, v :: r => setL (cs.setIfInBounds o v) (o + 1) r
theorem setL_size : ∀ (vs : List Value) (cs : Array Value) (o : Nat), (setL cs o vs).size = cs.size
  | [], _, _ => rfl
  | _ :: r, cs, o => by rw [setL, setL_size r]; simp
theorem setL_far : ∀ (vs : List Value) (cs : Array Value) (o i : Nat), i < o ∨ o + vs.length ≤ i → (setL cs o vs)[i]? = cs[i]?
  | [], _, _, _, _ => rfl
  | v :: r, cs, o, i, h => by
    rw [List.length_cons] at h
    rw [setL, setL_far r _ _ _ (by omega), Array.getElem?_setIfInBounds_ne (by omega)]
theorem setL_at : ∀ (vs : List Value) (cs : Array Value) (o i : Nat), o + vs.length ≤ cs.size → i < vs.length → (setL cs o vs)[o + i]? = vs[i]?
  | [], _, _, _, _, hi => by simp at hi
  | v :: r, cs, o, 0, h, _ => by
    rw [List.length_cons] at h
    rw [setL, setL_far r _ _ _ (by omega)]
    simp [show o < cs.size by omega]
  | v :: r, cs, o, i + 1, h, hi => by
    rw [List.length_cons] at h hi
    have h1 := setL_at r (cs.setIfInBounds o v) (o + 1) i (by simp; omega) (by omega)
    rw [show o + 1 + i = o + (i + 1) by omega] at h1
    rw [setL, h1, List.getElem?_cons_succ]
theorem putL_any {a : Nat} {t : TypeId} {fz : Nat × Nat} : ∀ (vs : List Value) (w : World) (o : Nat) (cs : Array Value), w.heap[a]? = some (.cells cs t fz) → (putL w a o vs).heap[a]? = some (.cells (setL cs o vs) t fz)
  | [], _, _, _, h => h
  | v :: r, w, o, cs, h => by
    have h1 : (w.setCell ⟨a, o, none⟩ v).heap[a]? = some (.cells (cs.setIfInBounds o v) t fz) := by simp [World.setCell, Array.getElem?_modify, h]
    exact putL_any r _ (o + 1) _ h1
/-- The values of a literal's cells. -/
def ltVs {d : Nat} (x : Lt d) : List Value :=
  [.int .i8 x.k, .string x.p, x.sv, .int .i8 x.r, .int .i8 (exOp d x.l), .string (exTm d x.l).v, .int .i8 (exTm d x.l).x.k, .int .i64 (exTm d x.l).x.n, .string (exTm d x.l).x.t, exSl d x.l,
    .int .i8 (exOp d x.g), .string (exTm d x.g).v, .int .i8 (exTm d x.g).x.k, .int .i64 (exTm d x.g).x.n, .string (exTm d x.g).x.t, exSl d x.g]
def mkVs : List Value := [.int .i8 99, .string markB, .slice none 0 0, .int .i8 0, .int .i8 0, .string ⟨#[]⟩, .int .i8 0, .int .i64 0, .string ⟨#[]⟩, .slice none 0 0, .int .i8 0, .string ⟨#[]⟩, .int .i8 0, .int .i64 0, .string ⟨#[]⟩, .slice none 0 0]
/-- Values in the cells of a block. -/
def VsAt (w : World) (a o : Nat) (vs : List Value) : Prop := ∀ i, i < vs.length → w.cell? ⟨a, o + i, none⟩ = vs[i]?
theorem VsAt.of_block {w w' : World} {a o : Nat} {vs : List Value} (h : VsAt w a o vs) (hb : w'.heap[a]? = w.heap[a]?) : VsAt w' a o vs :=
  fun i hi => (World.cell?_of_block (w := w) hb).trans (h i hi)
theorem VsAt.lt {w : World} {a o d : Nat} {x : Lt d} (h : VsAt w a o (ltVs x)) : LtCell w a o x :=
  ⟨h 0 (by simp [ltVs]), h 1 (by simp [ltVs]), h 2 (by simp [ltVs]), h 3 (by simp [ltVs]), h 4 (by simp [ltVs]), h 5 (by simp [ltVs]), h 6 (by simp [ltVs]), h 7 (by simp [ltVs]), h 8 (by simp [ltVs]), h 9 (by simp [ltVs]), h 10 (by simp [ltVs]), h 11 (by simp [ltVs]), h 12 (by simp [ltVs]), h 13 (by simp [ltVs]), h 14 (by simp [ltVs]), h 15 (by simp [ltVs])⟩
theorem LtCell.vs {w : World} {a o d : Nat} {x : Lt d} (h : LtCell w a o x) : VsAt w a o (ltVs x)
  | 0, _ => h.c0
  | 1, _ => h.c1
  | 2, _ => h.c2
  | 3, _ => h.c3
  | 4, _ => h.c4
  | 5, _ => h.c5
  | 6, _ => h.c6
  | 7, _ => h.c7
  | 8, _ => h.c8
  | 9, _ => h.c9
  | 10, _ => h.c10
  | 11, _ => h.c11
  | 12, _ => h.c12
  | 13, _ => h.c13
  | 14, _ => h.c14
  | 15, _ => h.c15
  | _ + 16, hi => by simp only [ltVs, List.length_cons, List.length_nil] at hi; omega
theorem VsAt.of_cells {w : World} {a o : Nat} {cs : Array Value} {t : TypeId} {fz : Nat × Nat} {vs : List Value} (h : w.heap[a]? = some (.cells cs t fz)) (hc : ∀ i, i < vs.length → cs[o + i]? = vs[i]?) : VsAt w a o vs :=
  fun i hi => by rw [Lib.cell_of_heap h]; exact hc i hi
theorem putL_keepsV {w : World} {a o o' : Nat} {us vs : List Value} {cs : Array Value} {t : TypeId} {fz : Nat × Nat} (h : w.heap[a]? = some (.cells cs t fz)) (hc : VsAt w a o' us) (ho : o' + us.length ≤ o ∨ o + vs.length ≤ o') :
    VsAt (putL w a o vs) a o' us := by
  refine VsAt.of_cells (putL_any vs w o cs h) fun i hi => ?_
  have h1 := hc i hi
  rw [Lib.cell_of_heap h] at h1
  rw [setL_far _ _ _ _ (by omega)]
  exact h1
theorem putL_newV {w : World} {a o : Nat} {vs : List Value} {cs : Array Value} {t : TypeId} {fz : Nat × Nat} (h : w.heap[a]? = some (.cells cs t fz)) (ho : o + vs.length ≤ cs.size) : VsAt (putL w a o vs) a o vs :=
  VsAt.of_cells (putL_any vs w o cs h) fun i hi => setL_at vs cs o i ho hi
set_option maxHeartbeats 2000000 in
theorem mLit (w : World) (hT : Tabs w) : Calls Tryz.prog 35 #[.int .i64 777777] w fun e w' =>
    e = .returned (.agg ⟨mkVs⟩) ∧ Below w.heap.size w w' := by
  have HT := Lib.hid hT; clear hT
  obtain ⟨W, hW⟩ : ∃ W, W = w.alloc (.cells #[.int .i8 0, .string ⟨#[]⟩, .slice none 0 0, .int .i8 0, .int .i8 0, .string ⟨#[]⟩, .int .i8 0, .int .i64 0, .string ⟨#[]⟩, .slice none 0 0, .int .i8 0, .string ⟨#[]⟩, .int .i8 0, .int .i64 0, .string ⟨#[]⟩, .slice none 0 0] 80) := ⟨_, rfl⟩
  have HBW := Lib.hid (show Below w.heap.size w W by rw [hW]; exact below_alloc _ _)
  have hsW : W.heap.size = w.heap.size + 1 := by rw [hW]; simp
  have HBX := Lib.hid (show W.heap[w.heap.size]? = some (.cells #[.int .i8 0, .string ⟨#[]⟩, .slice none 0 0, .int .i8 0, .int .i8 0, .string ⟨#[]⟩, .int .i8 0, .int .i64 0, .string ⟨#[]⟩, .slice none 0 0, .int .i8 0, .string ⟨#[]⟩, .int .i8 0, .int .i64 0, .string ⟨#[]⟩, .slice none 0 0] 80 (0, 0)) by rw [hW]; exact heap_alloc_new w _)
  unfold mkVs
  obtain ⟨mk, hmk⟩ : ∃ mk, mk = markB := ⟨_, rfl⟩
  have HMK := Lib.hid hmk
  rw [← hmk]
  clear hmk
  go_enter Tryz.func35, Tryz.ntmps35
  go_wp2_with fail
  rw [← hW]
  clear hW
  refine (mWord _ (HT.out.at HBW.out)).mono ?_
  rintro e w1 ⟨rfl, hb⟩
  rw [← HMK.out]
  have hbx := (hb.block w.heap.size (by omega)).trans HBX.out
  obtain ⟨x0, x1, x2, x3, x4, x5, x6, x7, x8, x9, x10, x11, x12, x13, x14, x15⟩ := sixteen hbx
  have f0 : w1.frozen? ⟨w.heap.size, 0, none⟩ = false := Lib.frozen_of_heap hbx 0
  have f1 : w1.frozen? ⟨w.heap.size, 1, none⟩ = false := Lib.frozen_of_heap hbx 1
  have f2 : w1.frozen? ⟨w.heap.size, 2, none⟩ = false := Lib.frozen_of_heap hbx 2
  have f3 : w1.frozen? ⟨w.heap.size, 3, none⟩ = false := Lib.frozen_of_heap hbx 3
  have f4 : w1.frozen? ⟨w.heap.size, 4, none⟩ = false := Lib.frozen_of_heap hbx 4
  have f5 : w1.frozen? ⟨w.heap.size, 5, none⟩ = false := Lib.frozen_of_heap hbx 5
  have f6 : w1.frozen? ⟨w.heap.size, 6, none⟩ = false := Lib.frozen_of_heap hbx 6
  have f7 : w1.frozen? ⟨w.heap.size, 7, none⟩ = false := Lib.frozen_of_heap hbx 7
  have f8 : w1.frozen? ⟨w.heap.size, 8, none⟩ = false := Lib.frozen_of_heap hbx 8
  have f9 : w1.frozen? ⟨w.heap.size, 9, none⟩ = false := Lib.frozen_of_heap hbx 9
  have f10 : w1.frozen? ⟨w.heap.size, 10, none⟩ = false := Lib.frozen_of_heap hbx 10
  have f11 : w1.frozen? ⟨w.heap.size, 11, none⟩ = false := Lib.frozen_of_heap hbx 11
  have f12 : w1.frozen? ⟨w.heap.size, 12, none⟩ = false := Lib.frozen_of_heap hbx 12
  have f13 : w1.frozen? ⟨w.heap.size, 13, none⟩ = false := Lib.frozen_of_heap hbx 13
  have f14 : w1.frozen? ⟨w.heap.size, 14, none⟩ = false := Lib.frozen_of_heap hbx 14
  have f15 : w1.frozen? ⟨w.heap.size, 15, none⟩ = false := Lib.frozen_of_heap hbx 15
  have HBX1 := Lib.hid hbx
  have Hb := Lib.hid (HBW.out.trans (hb.mono (by omega))); clear hb hbx
  go_wp2_with fail
  change bodyPost _ _ _ _ _ (putL w1 w.heap.size 0 [.int .i8 99, .string mk, .slice none 0 0, .int .i8 0, .int .i8 0, .string ⟨#[]⟩, .int .i8 0, .int .i64 0, .string ⟨#[]⟩, .slice none 0 0, .int .i8 0, .string ⟨#[]⟩, .int .i8 0, .int .i64 0, .string ⟨#[]⟩, .slice none 0 0])
  clear x0 x1 x2 x3 x4 x5 x6 x7 x8 x9 x10 x11 x12 x13 x14 x15 f0 f1 f2 f3 f4 f5 f6 f7 f8 f9 f10 f11 f12 f13 f14 f15
  obtain ⟨W2, hW2⟩ : ∃ W2, W2 = putL w1 w.heap.size 0 [.int .i8 99, .string mk, .slice none 0 0, .int .i8 0, .int .i8 0, .string ⟨#[]⟩, .int .i8 0, .int .i64 0, .string ⟨#[]⟩, .slice none 0 0, .int .i8 0, .string ⟨#[]⟩, .int .i8 0, .int .i64 0, .string ⟨#[]⟩, .slice none 0 0] := ⟨_, rfl⟩
  have hb2 : W2.heap[w.heap.size]? = some (.cells #[.int .i8 99, .string mk, .slice none 0 0, .int .i8 0, .int .i8 0, .string ⟨#[]⟩, .int .i8 0, .int .i64 0, .string ⟨#[]⟩, .slice none 0 0, .int .i8 0, .string ⟨#[]⟩, .int .i8 0, .int .i64 0, .string ⟨#[]⟩, .slice none 0 0] 80 (0, 0)) := by
    rw [hW2]
    exact putL_heap [.int .i8 99, .string mk, .slice none 0 0, .int .i8 0, .int .i8 0, .string ⟨#[]⟩, .int .i8 0, .int .i64 0, .string ⟨#[]⟩, .slice none 0 0, .int .i8 0, .string ⟨#[]⟩, .int .i8 0, .int .i64 0, .string ⟨#[]⟩, .slice none 0 0] HBX1.out rfl
  have HBp := Lib.hid (show Below w.heap.size w W2 by rw [hW2]; exact putL_below (Nat.le_refl _) _ _ _ Hb.out)
  rw [← hW2]
  clear hW2
  obtain ⟨z0, z1, z2, z3, z4, z5, z6, z7, z8, z9, z10, z11, z12, z13, z14, z15⟩ := sixteen hb2
  clear hb2
  refine bodyPost_ret (v := .agg #[.int .i8 99, .string mk, .slice none 0 0, .int .i8 0, .int .i8 0, .string ⟨#[]⟩, .int .i8 0, .int .i64 0, .string ⟨#[]⟩, .slice none 0 0, .int .i8 0, .string ⟨#[]⟩, .int .i8 0, .int .i64 0, .string ⟨#[]⟩, .slice none 0 0]) (by simp [results, Tryz.results35, go_sem, z0, z1, z2, z3, z4, z5, z6, z7, z8, z9, z10, z11, z12, z13, z14, z15]) rfl ?_
  exact ⟨rfl, HBp.out⟩
set_option maxHeartbeats 2000000 in
theorem isMarkL (w : World) (hT : Tabs w) : Calls Tryz.prog 53 #[.agg ⟨mkVs⟩, .int .i64 777777] w fun e w' =>
    e = .returned (.bool true) ∧ Below w.heap.size w w' := by
  have HT := Lib.hid hT; clear hT
  unfold mkVs
  obtain ⟨mk, hmk⟩ : ∃ mk, mk = markB := ⟨_, rfl⟩
  have HMK := Lib.hid hmk
  rw [← hmk]
  clear hmk
  obtain ⟨W, hW⟩ : ∃ W, W = w.alloc (.cells #[.int .i8 99, .string mk, .slice none 0 0, .int .i8 0, .int .i8 0, .string ⟨#[]⟩, .int .i8 0, .int .i64 0, .string ⟨#[]⟩, .slice none 0 0, .int .i8 0, .string ⟨#[]⟩, .int .i8 0, .int .i64 0, .string ⟨#[]⟩, .slice none 0 0] 80) := ⟨_, rfl⟩
  have HBW := Lib.hid (show Below w.heap.size w W by rw [hW]; exact below_alloc _ _)
  have hsW : W.heap.size = w.heap.size + 1 := by rw [hW]; simp
  have hbk : w.heap.size < W.heap.size := by omega
  obtain ⟨x0, x1, x2, _⟩ := sixteen (show W.heap[w.heap.size]? = some (.cells #[.int .i8 99, .string mk, .slice none 0 0, .int .i8 0, .int .i8 0, .string ⟨#[]⟩, .int .i8 0, .int .i64 0, .string ⟨#[]⟩, .slice none 0 0, .int .i8 0, .string ⟨#[]⟩, .int .i8 0, .int .i64 0, .string ⟨#[]⟩, .slice none 0 0] 80 (0, 0)) by rw [hW]; exact heap_alloc_new w _)
  go_enter Tryz.func53, Tryz.ntmps53
  go_wp2_with fail
  rw [← hW]
  clear hW
  go_region_held3 (fun w' => w'.cell? ⟨w.heap.size, 0, none⟩ = W.cell? ⟨w.heap.size, 0, none⟩ ∧ w'.cell? ⟨w.heap.size, 1, none⟩ = W.cell? ⟨w.heap.size, 1, none⟩ ∧ w'.cell? ⟨w.heap.size, 2, none⟩ = W.cell? ⟨w.heap.size, 2, none⟩)
    (first | exact ⟨rfl, rfl, rfl⟩ | exact ⟨Hb.out.cell hbk, Hb.out.cell hbk, Hb.out.cell hbk⟩)
    (first
      | (go_at_call 60
         refine (mWord _ ?_).mono ?_
         · exact HT.out.at HBW.out.drew
         rintro r w1 ⟨rfl, hb⟩
         rw [← HMK.out]
         have Hb := Lib.hid (show Below W.heap.size W w1 from ⟨hb.os, hb.tape, hb.output, hb.size, hb.block⟩)
         clear hb))
  all_goals
    clear x0 x1 x2
    go_wp2_with fail
    go_ret
    exact ⟨rfl, HBW.out.trans (Hb.out.mono (by omega))⟩
end Go.Proofs.YtdgbenadoaecoaaGreatDoor
