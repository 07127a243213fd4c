/- Copies of lists of terms and of atoms: the contracts of LeftTerms, TwinAtom, LeftAtom. Conditions: the terms lie in memory as they are told, the list is not too long. -/
import Derived.Test.YtdgbenadoaecoaaGreatDoorB2
namespace Go.Proofs.YtdgbenadoaecoaaGreatDoor
open Go.RowKit

set_option maxHeartbeats 2000000 in
theorem leftTerms (ts : List Tm) (a : Nat) (sv : Value) (w : World) (hts : TmSl w sv ts) (hn : ts.length ≤ 2932031007317) (ht : TwTm w a ts) (hT : Tabs w) :
    Calls Tryz.prog 110 #[.slice (some ⟨a, 0, none⟩) ts.length (ts.length + 1), sv] w fun r w' => r = .returned (.bool true) ∧ Below w.heap.size w w' := by
  have HTS := Lib.hid hts
  have HTW := Lib.hid ht; clear ht
  have HT := Lib.hid hT; clear hT
  obtain ⟨q, cap, rfl, hm, _⟩ := hts
  go_enter Tryz.func110, Tryz.ntmps110
  go_wp2_with fail
  refine (sameTerms ts a _ _ HTS.out hn HTW.out).mono ?_
  rintro r w1 ⟨rfl, hb⟩
  have Hb := Lib.hid hb; clear hb
  obtain ⟨m0, m1, m2, m3⟩ := (HTW.out.low Hb.out).mark
  simp only [markTm] at m0 m1 m2 m3
  obtain ⟨mk, hmk⟩ : ∃ mk, mk = markB := ⟨_, rfl⟩
  rw [← hmk] at m0
  have HMK := Lib.hid hmk; clear hmk
  go_wp2_with fail
  rw [HMK.out]
  refine (isMarkT _ (HT.out.at Hb.out)).mono ?_
  rintro r w2 ⟨rfl, hb⟩
  have Hb2 := Lib.hid hb; clear hb
  clear m0 m1 m2 m3
  go_wp2_with fail
  go_ret
  exact ⟨rfl, Hb.out.trans (Hb2.out.mono Hb.out.size)⟩
theorem two {w : World} {b : Nat} {x0 x1 : Value} {t : TypeId} {fz : Nat × Nat} (h : w.heap[b]? = some (.cells #[x0, x1] t fz)) :
    w.cell? ⟨b, 0, none⟩ = some x0 ∧ w.cell? ⟨b, 1, none⟩ = some x1 := ⟨by rw [Lib.cell_of_heap h]; rfl, by rw [Lib.cell_of_heap h]; rfl⟩
/-- What a call leaves that copies an atom. -/
def TaPost (p : ByteArray) (ts : List Tm) (w : World) (r : Ending) (w' : World) : Prop :=
  ∃ a, r = .returned (.agg #[.string p, .slice (some ⟨a, 0, none⟩) ts.length (ts.length + 1)]) ∧ w.heap.size ≤ a ∧ TwTm w' a ts ∧ Below w.heap.size w w'
set_option maxHeartbeats 4000000 in
theorem twinAtom (p : ByteArray) (ts : List Tm) (sv : Value) (w : World) (hts : TmSl w sv ts) (hn : ts.length ≤ 2932031007317) (hT : Tabs w) :
    Calls Tryz.prog 63 #[.agg #[.string p, sv]] w (TaPost p ts w) := by
  have HTS := Lib.hid hts
  have HT := Lib.hid hT; clear hT
  obtain ⟨q, cap, rfl, hm, _⟩ := hts
  obtain ⟨W, hW⟩ : ∃ W, W = (w.alloc (.cells #[.string p, .slice q ts.length cap] 65)).alloc (.cells #[.string ⟨#[]⟩, .slice none 0 0] 65) := ⟨_, rfl⟩
  have HBW := Lib.hid (show Below w.heap.size w W by rw [hW]; exact (below_alloc _ _).trans ((below_alloc _ _).mono (by simp)))
  have hsW : W.heap.size = w.heap.size + 1 + 1 := by rw [hW]; simp
  have HBX := Lib.hid (show W.heap[w.heap.size]? = some (.cells #[.string p, .slice q ts.length cap] 65 (0, 0)) by rw [hW, Lib.alloc_old _ _ _ (by simp)]; exact heap_alloc_new w _)
  have HBY := Lib.hid (show W.heap[w.heap.size + 1]? = some (.cells #[.string ⟨#[]⟩, .slice none 0 0] 65 (0, 0)) by rw [hW]; simpa using heap_alloc_new (w.alloc _) _)
  go_enter Tryz.func63, Tryz.ntmps63
  go_wp2_with fail
  rw [← hW]
  clear hW
  refine (twinTerms ts _ _ (HTS.out.up HBW.out) hn (HT.out.at HBW.out)).mono ?_
  rintro r w1 ⟨a, rfl, ha1, htw, hb⟩
  have ha2 := htw.lt
  have HTW := Lib.hid htw; clear htw
  have hx := (hb.block w.heap.size (by omega)).trans HBX.out
  have hy := (hb.block (w.heap.size + 1) (by omega)).trans HBY.out
  have HB := Lib.hid hb; clear hb
  obtain ⟨x0, x1⟩ := two hx
  obtain ⟨y0, y1⟩ := two hy
  have fx : w1.frozen? ⟨w.heap.size, 1, none⟩ = false := Lib.frozen_of_heap hx _
  have f0 : w1.frozen? ⟨w.heap.size + 1, 0, none⟩ = false := Lib.frozen_of_heap hy _
  have f1 : w1.frozen? ⟨w.heap.size + 1, 1, none⟩ = false := Lib.frozen_of_heap hy _
  have HX := Lib.hid hx; clear hx
  have HY := Lib.hid hy; clear hy
  go_wp2_with fail
  clear x0 x1 y0 y1 fx f0 f1
  obtain ⟨W2, hW2⟩ : ∃ W2, W2 = ((w1.setCell ⟨w.heap.size, 1, none⟩ (.slice (some ⟨a, 0, none⟩) ts.length (ts.length + 1))).setCell ⟨w.heap.size + 1, 0, none⟩ (.string p)).setCell ⟨w.heap.size + 1, 1, none⟩ (.slice (some ⟨a, 0, none⟩) ts.length (ts.length + 1)) := ⟨_, rfl⟩
  have hb2 : W2.heap[w.heap.size + 1]? = some (.cells #[.string p, .slice (some ⟨a, 0, none⟩) ts.length (ts.length + 1)] 65 (0, 0)) := by
    rw [hW2]
    have h1 : (w1.setCell ⟨w.heap.size, 1, none⟩ (.slice (some ⟨a, 0, none⟩) ts.length (ts.length + 1))).heap[w.heap.size + 1]? = some (.cells #[.string ⟨#[]⟩, .slice none 0 0] 65 (0, 0)) := by
      rw [Below.heap_setCell _ _ _ _ (show w.heap.size + 1 ≠ w.heap.size by omega)]
      exact HY.out
    generalize w1.setCell ⟨w.heap.size, 1, none⟩ (.slice (some ⟨a, 0, none⟩) ts.length (ts.length + 1)) = wq at h1
    simp [World.setCell, Array.getElem?_modify, h1]
  have HBp := Lib.hid (show Below w.heap.size w W2 by
    rw [hW2]
    exact (((HBW.out.trans (HB.out.mono (by omega))).setCell (p := ⟨w.heap.size, 1, none⟩) (Nat.le_refl _) _).setCell (p := ⟨w.heap.size + 1, 0, none⟩) (by show w.heap.size ≤ w.heap.size + 1; omega) _).setCell (p := ⟨w.heap.size + 1, 1, none⟩) (by show w.heap.size ≤ w.heap.size + 1; omega) _)
  have hba : W2.heap[a]? = w1.heap[a]? := by
    rw [hW2, Below.heap_setCell _ _ _ _ (show a ≠ w.heap.size + 1 by omega), Below.heap_setCell _ _ _ _ (show a ≠ w.heap.size + 1 by omega), Below.heap_setCell _ _ _ _ (show a ≠ w.heap.size by omega)]
  have hla : a < W2.heap.size := by
    rw [hW2]
    simp [World.setCell]
    exact ha2
  rw [← hW2]
  clear hW2
  obtain ⟨z0, z1⟩ := two hb2
  refine bodyPost_ret (v := .agg #[.string p, .slice (some ⟨a, 0, none⟩) ts.length (ts.length + 1)]) (by simp [results, Tryz.results63, go_sem, z0, z1]) rfl ?_
  exact ⟨a, rfl, by omega, HTW.out.of_block hla hba, HBp.out⟩
set_option maxHeartbeats 2000000 in
theorem leftAtom (p : ByteArray) (ts : List Tm) (a : Nat) (sv : Value) (w : World) (hts : TmSl w sv ts) (hn : ts.length ≤ 2932031007317) (ht : TwTm w a ts) (hT : Tabs w) :
    Calls Tryz.prog 82 #[.agg #[.string p, .slice (some ⟨a, 0, none⟩) ts.length (ts.length + 1)], .agg #[.string p, sv]] w fun r w' => r = .returned (.bool true) ∧ Below w.heap.size w w' := by
  have HTS := Lib.hid hts
  have HTW := Lib.hid ht; clear ht
  have HT := Lib.hid hT; clear hT
  obtain ⟨q, cap, rfl, hm, _⟩ := hts
  obtain ⟨W, hW⟩ : ∃ W, W = (w.alloc (.cells #[.string p, .slice (some ⟨a, 0, none⟩) ts.length (ts.length + 1)] 65)).alloc (.cells #[.string p, .slice q ts.length cap] 65) := ⟨_, rfl⟩
  have HBW := Lib.hid (show Below w.heap.size w W by rw [hW]; exact (below_alloc _ _).trans ((below_alloc _ _).mono (by simp)))
  go_enter Tryz.func82, Tryz.ntmps82
  go_wp2_with fail
  rw [← hW]
  clear hW
  refine (leftTerms ts a _ _ (HTS.out.up HBW.out) hn (HTW.out.low HBW.out) (HT.out.at HBW.out)).mono ?_
  rintro r w1 ⟨rfl, hb⟩
  have Hb := Lib.hid hb; clear hb
  go_wp2_with fail
  go_ret
  exact ⟨rfl, HBW.out.trans (Hb.out.mono HBW.out.size)⟩
end Go.Proofs.YtdgbenadoaecoaaGreatDoor
