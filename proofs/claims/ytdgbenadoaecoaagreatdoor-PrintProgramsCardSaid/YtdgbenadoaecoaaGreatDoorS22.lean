/- Copies of rules: the contracts of TwinRule and LeftRule. Conditions: the rule lies in memory as it is told, no list is too long. -/
import Derived.Test.YtdgbenadoaecoaaGreatDoorS21
namespace Go.Proofs.YtdgbenadoaecoaaGreatDoor
open Go.RowKit

/-- What a call leaves that copies a rule. -/
def TruPost {d : Nat} (p : ByteArray) (hs : List Ag) (bs : List (Lt d)) (w : World) (r : Ending) (w' : World) : Prop :=
  ∃ a b gs, r = .returned (.agg #[.string p, .slice (some ⟨a, 0, none⟩) hs.length (hs.length + 1), .slice (some ⟨b, 0, none⟩) bs.length (bs.length + 1)]) ∧ w.heap.size ≤ a ∧ w.heap.size ≤ b ∧ TwAg w' a hs ∧ TwLs w' b bs gs ∧ Below w.heap.size w w'
set_option maxHeartbeats 8000000 in
theorem twinRule (d : Nat) (p : ByteArray) (hp : Option Addr) (hc : Nat) (hs : List Ag) (bp : Option Addr) (bc : Nat) (bs : List (Lt d)) (w : World) (hh : AgsAt w hp hs) (hhn : hs.length ≤ 2932031007317) (hb : LtsAt w d bp bs)
    (hr : ∀ f ∈ bs, LtR f) (hbb : ∀ f ∈ bs, LtB f) (hbn : bs.length ≤ 1000000000000) (hT : Tabs w) :
    Calls Tryz.prog 6 #[.agg #[.string p, .slice hp hs.length hc, .slice bp bs.length bc]] w (TruPost p hs bs w) := by
  have HH := Lib.hid hh; clear hh
  have HB := Lib.hid hb; clear hb
  have HT := Lib.hid hT; clear hT
  have HCA := Lib.hid (fun w' h1 h2 => twinArgs hs hp hc w' h1 hhn h2)
  have HCB := Lib.hid (fun w' h1 h2 => twinLits d bs bp bc w' h1 hr hbb hbn h2)
  clear hr hbb
  obtain ⟨W, hW⟩ : ∃ W, W = (w.alloc (.cells #[.string p, .slice hp hs.length hc, .slice bp bs.length bc] 25)).alloc (.cells #[.string ⟨#[]⟩, .slice none 0 0, .slice none 0 0] 25) := ⟨_, rfl⟩
  have HBW := Lib.hid (show Below w.heap.size w W by rw [hW]; exact (below_alloc _ _).trans ((below_alloc _ _).mono (by simp)))
  have hsW : W.heap.size = w.heap.size + 1 + 1 := by rw [hW]; simp
  have HBX := Lib.hid (show W.heap[w.heap.size]? = some (.cells #[.string p, .slice hp hs.length hc, .slice bp bs.length bc] 25 (0, 0)) by rw [hW, Lib.alloc_old _ _ _ (by simp)]; exact heap_alloc_new w _)
  have HBY := Lib.hid (show W.heap[w.heap.size + 1]? = some (.cells #[.string ⟨#[]⟩, .slice none 0 0, .slice none 0 0] 25 (0, 0)) by rw [hW]; simpa using heap_alloc_new (w.alloc _) _)
  obtain ⟨x0, x1, x2⟩ := three HBX.out
  go_enter Tryz.func6, Tryz.ntmps6
  go_wp2_with fail
  rw [← hW]
  clear hW x0 x1 x2
  refine (HCA.out _ (HH.out.up HBW.out) (HT.out.at HBW.out)).mono ?_
  rintro r w1 ⟨a, rfl, ha1, htw, hb⟩
  have ha2 := htw.lt
  have HTW := Lib.hid htw; clear htw
  have hx := (hb.block w.heap.size (by omega)).trans HBX.out
  have hy := (hb.block (w.heap.size + 1) (by omega)).trans HBY.out
  have hsz1 := hb.size
  have HB1 := Lib.hid (HBW.out.trans (hb.mono (by omega))); clear hb
  obtain ⟨x0, x1, x2⟩ := three hx
  have fx : w1.frozen? ⟨w.heap.size, 1, none⟩ = false := Lib.frozen_of_heap hx _
  have HX := Lib.hid hx; clear hx
  have HY := Lib.hid hy; clear hy
  go_wp2_with fail
  clear x0 x1 x2 fx
  obtain ⟨W1, hW1⟩ : ∃ W1, W1 = w1.setCell ⟨w.heap.size, 1, none⟩ (.slice (some ⟨a, 0, none⟩) hs.length (hs.length + 1)) := ⟨_, rfl⟩
  have HX1 := Lib.hid (show W1.heap[w.heap.size]? = some (.cells #[.string p, .slice (some ⟨a, 0, none⟩) hs.length (hs.length + 1), .slice bp bs.length bc] 25 (0, 0)) by rw [hW1]; simp [World.setCell, Array.getElem?_modify, HX.out])
  have HBL1 := Lib.hid (show ∀ k, k ≠ w.heap.size → W1.heap[k]? = w1.heap[k]? from fun k hk => by rw [hW1, Below.heap_setCell _ _ _ _ hk])
  have HBP1 := Lib.hid (show Below w.heap.size w W1 by rw [hW1]; exact HB1.out.setCell (p := ⟨w.heap.size, 1, none⟩) (Nat.le_refl _) _)
  have hszW1 : W1.heap.size = w1.heap.size := by rw [hW1]; simp [World.setCell]
  rw [← hW1]
  clear hW1
  have hcell2 : W1.cell? ⟨w.heap.size, 2, none⟩ = some (.slice bp bs.length bc) := (three HX1.out).2.2
  go_wp2_with fail
  clear hcell2
  refine (HCB.out _ (HB.out.up HBP1.out) (HT.out.at HBP1.out)).mono ?_
  rintro r w2 ⟨b, gs, rfl, hb1, htl, hb⟩
  have hb2 := htl.lt
  have HTL := Lib.hid htl; clear htl
  have hx := (hb.block w.heap.size (by omega)).trans HX1.out
  have hy := (hb.block (w.heap.size + 1) (by omega)).trans ((HBL1.out _ (by omega)).trans HY.out)
  have hsz2 := hb.size
  have HKB := Lib.hid hb
  have HB2 := Lib.hid (HBP1.out.trans (hb.mono (by omega))); clear hb
  obtain ⟨x0, x1, x2⟩ := three hx
  obtain ⟨y0, y1, y2⟩ := three hy
  have fx : w2.frozen? ⟨w.heap.size, 2, none⟩ = false := Lib.frozen_of_heap hx _
  have f0 : w2.frozen? ⟨w.heap.size + 1, 0, none⟩ = false := Lib.frozen_of_heap hy _
  have f1 : w2.frozen? ⟨w.heap.size + 1, 1, none⟩ = false := Lib.frozen_of_heap hy _
  have f2 : w2.frozen? ⟨w.heap.size + 1, 2, none⟩ = false := Lib.frozen_of_heap hy _
  have HX2 := Lib.hid hx; clear hx
  have HY2 := Lib.hid hy; clear hy
  go_wp2_with fail
  clear x0 x1 x2 y0 y1 y2 fx f0 f1 f2
  obtain ⟨W2, W3, hW2, hW3, e⟩ : ∃ W2 W3 : World, W2 = w2.setCell ⟨w.heap.size, 2, none⟩ (.slice (some ⟨b, 0, none⟩) bs.length (bs.length + 1)) ∧
      W3 = putL W2 (w.heap.size + 1) 0 [.string p, .slice (some ⟨a, 0, none⟩) hs.length (hs.length + 1), .slice (some ⟨b, 0, none⟩) bs.length (bs.length + 1)] ∧
      (((w2.setCell ⟨w.heap.size, 2, none⟩ (.slice (some ⟨b, 0, none⟩) bs.length (bs.length + 1))).setCell ⟨w.heap.size + 1, 0, none⟩ (.string p)).setCell ⟨w.heap.size + 1, 1, none⟩ (.slice (some ⟨a, 0, none⟩) hs.length (hs.length + 1))).setCell ⟨w.heap.size + 1, 2, none⟩ (.slice (some ⟨b, 0, none⟩) bs.length (bs.length + 1)) = W3 := ⟨_, _, rfl, rfl, rfl⟩
  rw [e]
  clear e
  have hy2 : W2.heap[w.heap.size + 1]? = some (.cells #[.string ⟨#[]⟩, .slice none 0 0, .slice none 0 0] 25 (0, 0)) := by rw [hW2, Below.heap_setCell _ _ _ _ (by show w.heap.size + 1 ≠ w.heap.size; omega)]; exact HY2.out
  have hy3 : W3.heap[w.heap.size + 1]? = some (.cells #[.string p, .slice (some ⟨a, 0, none⟩) hs.length (hs.length + 1), .slice (some ⟨b, 0, none⟩) bs.length (bs.length + 1)] 25 (0, 0)) := by rw [hW3]; exact putL_heap _ hy2 rfl
  have HBP3 := Lib.hid (show Below w.heap.size w W3 by rw [hW3, hW2]; exact putL_below (by omega) _ _ _ (HB2.out.setCell (p := ⟨w.heap.size, 2, none⟩) (Nat.le_refl _) _))
  have hsz3 : W3.heap.size = w2.heap.size := by rw [hW3, putL_size, hW2]; simp [World.setCell]
  have HBL3 := Lib.hid (show ∀ k, k ≠ w.heap.size → k ≠ w.heap.size + 1 → W3.heap[k]? = w2.heap[k]? from fun k hk hk' => by rw [hW3, putL_block hk', hW2, Below.heap_setCell _ _ _ _ hk])
  clear hW2 hW3 hy2
  obtain ⟨z0, z1, z2⟩ := three hy3
  clear hy3
  refine bodyPost_ret (v := .agg #[.string p, .slice (some ⟨a, 0, none⟩) hs.length (hs.length + 1), .slice (some ⟨b, 0, none⟩) bs.length (bs.length + 1)]) (by simp [results, Tryz.results6, go_sem, z0, z1, z2]) rfl ?_
  refine ⟨a, b, gs, rfl, by omega, by omega, HTW.out.of_block (by omega) ?_, HTL.out.up (by omega) (fun k h1 h2 => HBL3.out k (by omega) (by omega)), HBP3.out⟩
  rw [HBL3.out a (by omega) (by omega), HKB.out.block a (by omega), HBL1.out a (by omega)]
set_option maxHeartbeats 4000000 in
theorem leftRule (d : Nat) (p : ByteArray) (hp : Option Addr) (hc : Nat) (hs : List Ag) (bp : Option Addr) (bc : Nat) (bs gs : List (Lt d)) (a b : Nat) (w : World) (hh : AgsAt w hp hs) (hhn : hs.length ≤ 2932031007317) (hb : LtsAt w d bp bs)
    (hbb : ∀ f ∈ bs, LtB f) (hbn : bs.length ≤ 1000000000000) (hta : TwAg w a hs) (htl : TwLs w b bs gs) (hT : Tabs w) :
    Calls Tryz.prog 9 #[.agg #[.string p, .slice (some ⟨a, 0, none⟩) hs.length (hs.length + 1), .slice (some ⟨b, 0, none⟩) bs.length (bs.length + 1)], .agg #[.string p, .slice hp hs.length hc, .slice bp bs.length bc]] w
      fun r w' => r = .returned (.bool true) ∧ Below w.heap.size w w' := by
  have HCA := Lib.hid (fun w' h1 h2 h3 => leftArgs hs a hp hc w' h1 hhn h2 h3)
  have HCB := Lib.hid (fun w' h1 h2 h3 => leftLits d bs gs b bp bc w' h1 hbb hbn h2 h3)
  have HH := Lib.hid hh; clear hh
  have HB := Lib.hid hb; clear hb
  have HT := Lib.hid hT; clear hT
  have HTA := Lib.hid hta; clear hta
  have HTL := Lib.hid htl; clear htl
  clear hbb
  obtain ⟨W, hW⟩ : ∃ W, W = (w.alloc (.cells #[.string p, .slice (some ⟨a, 0, none⟩) hs.length (hs.length + 1), .slice (some ⟨b, 0, none⟩) bs.length (bs.length + 1)] 25)).alloc (.cells #[.string p, .slice hp hs.length hc, .slice bp bs.length bc] 25) := ⟨_, rfl⟩
  have HBW := Lib.hid (show Below w.heap.size w W by rw [hW]; exact (below_alloc _ _).trans ((below_alloc _ _).mono (by simp)))
  have hsW : W.heap.size = w.heap.size + 1 + 1 := by rw [hW]; simp
  have HBX := Lib.hid (show W.heap[w.heap.size]? = some (.cells #[.string p, .slice (some ⟨a, 0, none⟩) hs.length (hs.length + 1), .slice (some ⟨b, 0, none⟩) bs.length (bs.length + 1)] 25 (0, 0)) by rw [hW, Lib.alloc_old _ _ _ (by simp)]; exact heap_alloc_new w _)
  have HBY := Lib.hid (show W.heap[w.heap.size + 1]? = some (.cells #[.string p, .slice hp hs.length hc, .slice bp bs.length bc] 25 (0, 0)) by rw [hW]; simpa using heap_alloc_new (w.alloc _) _)
  obtain ⟨x0, x1, x2⟩ := three HBX.out
  obtain ⟨y0, y1, y2⟩ := three HBY.out
  go_enter Tryz.func9, Tryz.ntmps9
  go_wp2_with fail
  rw [← hW]
  clear hW x0 x1 x2 y0 y1 y2
  refine (HCA.out _ (HH.out.up HBW.out) (HTA.out.low HBW.out) (HT.out.at HBW.out)).mono ?_
  rintro r w1 ⟨rfl, hb⟩
  obtain ⟨x0, x1, x2⟩ := three ((hb.block w.heap.size (by omega)).trans HBX.out)
  obtain ⟨y0, y1, y2⟩ := three ((hb.block (w.heap.size + 1) (by omega)).trans HBY.out)
  have HB1 := Lib.hid (HBW.out.trans (hb.mono (by omega))); clear hb
  go_wp2_with fail
  clear x0 x1 x2 y0 y1 y2
  refine (HCB.out _ (HB.out.up HB1.out) (HTL.out.low HB1.out) (HT.out.at HB1.out)).mono ?_
  rintro r w2 ⟨rfl, hb⟩
  have HB2 := Lib.hid (HB1.out.trans (hb.mono HB1.out.size)); clear hb
  go_wp2_with fail
  go_ret
  exact ⟨rfl, HB2.out⟩
end Go.Proofs.YtdgbenadoaecoaaGreatDoor
