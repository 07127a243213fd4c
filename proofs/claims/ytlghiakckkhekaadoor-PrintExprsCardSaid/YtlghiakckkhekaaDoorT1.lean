/- The marks behind the copies: the contracts of word, markExpr, isExpr. Conditions: the tables lie as they are laid. -/
import Derived.Test.YtlghiakckkhekaaDoorW27
import Derived.Deep.RegionHeld3
namespace Go.Proofs.YtlghiakckkhekaaDoor
open Go.RowKit

/-- Six cells of a block, written one by one. -/
def put6 (w : World) (a o : Nat) (v0 v1 v2 v3 v4 v5 : Value) : World :=
  (((((w.setCell ⟨a, o, none⟩ v0).setCell ⟨a, o + 1, none⟩ v1).setCell ⟨a, o + 2, none⟩ v2).setCell ⟨a, o + 3, none⟩ v3).setCell ⟨a, o + 4, none⟩ v4).setCell ⟨a, o + 5, none⟩ v5
def set6 (cs : Array Value) (o : Nat) (v0 v1 v2 v3 v4 v5 : Value) : Array Value :=
  (((((cs.setIfInBounds o v0).setIfInBounds (o + 1) v1).setIfInBounds (o + 2) v2).setIfInBounds (o + 3) v3).setIfInBounds (o + 4) v4).setIfInBounds (o + 5) v5
theorem set6_size (cs : Array Value) (o : Nat) (v0 v1 v2 v3 v4 v5 : Value) : (set6 cs o v0 v1 v2 v3 v4 v5).size = cs.size := by simp [set6]
theorem set6_far (cs : Array Value) (o : Nat) (v0 v1 v2 v3 v4 v5 : Value) (i : Nat) (h : i < o ∨ o + 5 < i) : (set6 cs o v0 v1 v2 v3 v4 v5)[i]? = cs[i]? := by
  unfold set6
  rw [Array.getElem?_setIfInBounds_ne (by omega), Array.getElem?_setIfInBounds_ne (by omega), Array.getElem?_setIfInBounds_ne (by omega), Array.getElem?_setIfInBounds_ne (by omega), Array.getElem?_setIfInBounds_ne (by omega), Array.getElem?_setIfInBounds_ne (by omega)]
theorem set6_at (cs : Array Value) (o : Nat) (v0 v1 v2 v3 v4 v5 : Value) (h : o + 5 < cs.size) :
    (set6 cs o v0 v1 v2 v3 v4 v5)[o]? = some v0 ∧ (set6 cs o v0 v1 v2 v3 v4 v5)[o + 1]? = some v1 ∧ (set6 cs o v0 v1 v2 v3 v4 v5)[o + 2]? = some v2 ∧ (set6 cs o v0 v1 v2 v3 v4 v5)[o + 3]? = some v3 ∧
      (set6 cs o v0 v1 v2 v3 v4 v5)[o + 4]? = some v4 ∧ (set6 cs o v0 v1 v2 v3 v4 v5)[o + 5]? = some v5 := by
  have h0 : o < cs.size := by omega
  have h1 : o + 1 < cs.size := by omega
  have h2 : o + 2 < cs.size := by omega
  have h3 : o + 3 < cs.size := by omega
  have h4 : o + 4 < cs.size := by omega
  unfold set6
  simp [Array.getElem?_setIfInBounds, h, h0, h1, h2, h3, h4]
theorem put6_heap {w : World} {a : Nat} {cs : Array Value} {t : TypeId} {fz : Nat × Nat} (h : w.heap[a]? = some (.cells cs t fz)) (o : Nat) (v0 v1 v2 v3 v4 v5 : Value) :
    (put6 w a o v0 v1 v2 v3 v4 v5).heap[a]? = some (.cells (set6 cs o v0 v1 v2 v3 v4 v5) t fz) := by
  simp [put6, set6, World.setCell, Array.getElem?_modify, h]
theorem put6_block (w : World) {a k : Nat} (h : k ≠ a) (o : Nat) (v0 v1 v2 v3 v4 v5 : Value) : (put6 w a o v0 v1 v2 v3 v4 v5).heap[k]? = w.heap[k]? := by
  unfold put6
  rw [Below.heap_setCell _ _ _ _ h, Below.heap_setCell _ _ _ _ h, Below.heap_setCell _ _ _ _ h, Below.heap_setCell _ _ _ _ h, Below.heap_setCell _ _ _ _ h, Below.heap_setCell _ _ _ _ h]
theorem put6_below {B : Nat} {w0 w : World} (h : Below B w0 w) {a : Nat} (ha : B ≤ a) (o : Nat) (v0 v1 v2 v3 v4 v5 : Value) : Below B w0 (put6 w a o v0 v1 v2 v3 v4 v5) :=
  (((((h.setCell (p := ⟨a, o, none⟩) ha v0).setCell (p := ⟨a, o + 1, none⟩) ha v1).setCell (p := ⟨a, o + 2, none⟩) ha v2).setCell (p := ⟨a, o + 3, none⟩) ha v3).setCell (p := ⟨a, o + 4, none⟩) ha v4).setCell (p := ⟨a, o + 5, none⟩) ha v5
theorem put6_size (w : World) (a o : Nat) (v0 v1 v2 v3 v4 v5 : Value) : (put6 w a o v0 v1 v2 v3 v4 v5).heap.size = w.heap.size := by simp [put6, World.setCell]
/-- The mark's text: #777777. -/
def markB : ByteArray := ⟨#[35, 55, 55, 55, 55, 55, 55]⟩
def markTm : Tm := ⟨markB, ⟨0, 0, ⟨#[]⟩⟩⟩
theorem mark_digits : Lib.itoa 777777 = [55, 55, 55, 55, 55, 55] := by kernel_rfl
theorem mWord (w : World) (hT : Tabs w) : Calls Tryd.prog 79 #[.int .i64 777777] w fun e w' => e = .returned (.string markB) ∧ Below w.heap.size w w' := by
  have HT := Lib.hid hT; clear hT
  go_enter Tryd.func79, Tryd.ntmps79
  go_wp2_with fail
  refine (Tryd.strconv_Itoa 777777 (by decide) (by decide) _ HT.out.pow).mono ?_
  rintro e w1 ⟨rfl, k, os, hw⟩
  have Hb := Lib.hid (show Below w.heap.size w w1 by rw [hw]; exact Lib.below_grow _ _ (Nat.le_refl _) _ _); clear hw
  rw [mark_digits]
  go_wp2_with fail
  go_ret
  exact ⟨ret_bytes rfl, Hb.out⟩
theorem mExpr (w : World) (hT : Tabs w) : Calls Tryd.prog 69 #[.int .i64 777777] w fun e w' =>
    e = .returned (.agg #[.int .i8 99, .string markB, .int .i8 0, .int .i64 0, .string ⟨#[]⟩, .slice none 0 0]) ∧ Below w.heap.size w w' := by
  have HT := Lib.hid hT; clear hT
  obtain ⟨W, hW⟩ : ∃ W, W = w.alloc (.cells #[.int .i8 0, .string ⟨#[]⟩, .int .i8 0, .int .i64 0, .string ⟨#[]⟩, .slice none 0 0] 36) := ⟨_, rfl⟩
  have HBW := Lib.hid (show Below w.heap.size w W by rw [hW]; exact below_alloc _ _)
  have hsW : W.heap.size = w.heap.size + 1 := by rw [hW]; simp
  have HBX := Lib.hid (show W.heap[w.heap.size]? = some (.cells #[.int .i8 0, .string ⟨#[]⟩, .int .i8 0, .int .i64 0, .string ⟨#[]⟩, .slice none 0 0] 36 (0, 0)) by rw [hW]; exact heap_alloc_new w _)
  obtain ⟨mk, hmk⟩ : ∃ mk, mk = markB := ⟨_, rfl⟩
  have HMK := Lib.hid hmk
  rw [← hmk]
  clear hmk
  go_enter Tryd.func69, Tryd.ntmps69
  go_wp2_with fail
  rw [← hW]
  clear hW
  refine (mWord _ (HT.out.at HBW.out)).mono ?_
  rintro e w1 ⟨rfl, hb⟩
  rw [← HMK.out]
  have hbx := (hb.block w.heap.size (by omega)).trans HBX.out
  obtain ⟨x0, x1, x2, x3, x4, x5⟩ := six hbx
  have f0 : w1.frozen? ⟨w.heap.size, 0, none⟩ = false := Lib.frozen_of_heap hbx 0
  have f1 : w1.frozen? ⟨w.heap.size, 1, none⟩ = false := Lib.frozen_of_heap hbx 1
  have f2 : w1.frozen? ⟨w.heap.size, 2, none⟩ = false := Lib.frozen_of_heap hbx 2
  have f3 : w1.frozen? ⟨w.heap.size, 3, none⟩ = false := Lib.frozen_of_heap hbx 3
  have f4 : w1.frozen? ⟨w.heap.size, 4, none⟩ = false := Lib.frozen_of_heap hbx 4
  have f5 : w1.frozen? ⟨w.heap.size, 5, none⟩ = false := Lib.frozen_of_heap hbx 5
  have HBX1 := Lib.hid hbx
  have Hb := Lib.hid (HBW.out.trans (hb.mono (by omega))); clear hb hbx
  go_wp2_with fail
  change bodyPost _ _ _ _ _ (put6 w1 w.heap.size 0 (.int .i8 99) (.string mk) (.int .i8 0) (.int .i64 0) (.string ⟨#[]⟩) (.slice none 0 0))
  clear x0 x1 x2 x3 x4 x5 f0 f1 f2 f3 f4 f5
  have hb2 := put6_heap HBX1.out 0 (.int .i8 99) (.string mk) (.int .i8 0) (.int .i64 0) (.string ⟨#[]⟩) (.slice none 0 0)
  have HBp := Lib.hid (put6_below Hb.out (Nat.le_refl _) 0 (.int .i8 99) (.string mk) (.int .i8 0) (.int .i64 0) (.string ⟨#[]⟩) (.slice none 0 0))
  obtain ⟨W2, hW2⟩ : ∃ W2, W2 = put6 w1 w.heap.size 0 (.int .i8 99) (.string mk) (.int .i8 0) (.int .i64 0) (.string ⟨#[]⟩) (.slice none 0 0) := ⟨_, rfl⟩
  rw [← hW2] at hb2 HBp ⊢
  clear hW2
  obtain ⟨z0, z1, z2, z3, z4, z5⟩ := six (show W2.heap[w.heap.size]? = some (.cells #[.int .i8 99, .string mk, .int .i8 0, .int .i64 0, .string ⟨#[]⟩, .slice none 0 0] 36 (0, 0)) from hb2)
  refine bodyPost_ret (v := .agg #[.int .i8 99, .string mk, .int .i8 0, .int .i64 0, .string ⟨#[]⟩, .slice none 0 0]) (by simp [results, Tryd.results69, go_sem, z0, z1, z2, z3, z4, z5]) rfl ?_
  exact ⟨rfl, HBp.out⟩
set_option maxHeartbeats 2000000 in
theorem isMark (p : Option Addr) (c : Nat) (w : World) (hT : Tabs w) : Calls Tryd.prog 77 #[.agg #[.int .i8 99, .string markB, .int .i8 0, .int .i64 0, .string ⟨#[]⟩, .slice p 0 c], .int .i64 777777] w fun e w' =>
    e = .returned (.bool true) ∧ Below w.heap.size w w' := by
  have HT := Lib.hid hT; clear hT
  obtain ⟨mk, hmk⟩ : ∃ mk, mk = markB := ⟨_, rfl⟩
  have HMK := Lib.hid hmk
  rw [← hmk]
  clear hmk
  obtain ⟨W, hW⟩ : ∃ W, W = w.alloc (.cells #[.int .i8 99, .string mk, .int .i8 0, .int .i64 0, .string ⟨#[]⟩, .slice p 0 c] 36) := ⟨_, rfl⟩
  have HBW := Lib.hid (show Below w.heap.size w W by rw [hW]; exact below_alloc _ _)
  have hsW : W.heap.size = w.heap.size + 1 := by rw [hW]; simp
  have hbk : w.heap.size < W.heap.size := by omega
  obtain ⟨x0, x1, x2, x3, x4, x5⟩ := six (show W.heap[w.heap.size]? = some (.cells #[.int .i8 99, .string mk, .int .i8 0, .int .i64 0, .string ⟨#[]⟩, .slice p 0 c] 36 (0, 0)) by rw [hW]; exact heap_alloc_new w _)
  go_enter Tryd.func77, Tryd.ntmps77
  go_wp2_with fail
  rw [← hW]
  clear hW
  go_region_held3 (fun w' => w'.cell? ⟨w.heap.size, 0, none⟩ = W.cell? ⟨w.heap.size, 0, none⟩ ∧ w'.cell? ⟨w.heap.size, 1, none⟩ = W.cell? ⟨w.heap.size, 1, none⟩ ∧ w'.cell? ⟨w.heap.size, 2, none⟩ = W.cell? ⟨w.heap.size, 2, none⟩ ∧ w'.cell? ⟨w.heap.size, 3, none⟩ = W.cell? ⟨w.heap.size, 3, none⟩ ∧ w'.cell? ⟨w.heap.size, 4, none⟩ = W.cell? ⟨w.heap.size, 4, none⟩ ∧ w'.cell? ⟨w.heap.size, 5, none⟩ = W.cell? ⟨w.heap.size, 5, none⟩)
    (first | exact ⟨rfl, rfl, rfl, rfl, rfl, rfl⟩ | exact ⟨Hb.out.cell hbk, Hb.out.cell hbk, Hb.out.cell hbk, Hb.out.cell hbk, Hb.out.cell hbk, Hb.out.cell hbk⟩)
    (first
      | (go_at_call 79
         refine (mWord _ ?_).mono ?_
         · exact HT.out.at HBW.out.drew
         rintro r w1 ⟨rfl, hb⟩
         rw [← HMK.out]
         have Hb := Lib.hid (show Below W.heap.size W w1 from ⟨hb.os, hb.tape, hb.output, hb.size, hb.block⟩)
         clear hb))
  all_goals
    clear x0 x1 x2 x3 x4 x5
    go_wp2_with fail
    go_ret
    exact ⟨rfl, HBW.out.trans (Hb.out.mono (by omega))⟩
end Go.Proofs.YtlghiakckkhekaaDoor
