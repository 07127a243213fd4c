/- The contracts of the writer's arg and rule, and of print.Rule. Conditions: the rule lies in memory as it is told; what is held and what is written together take at most 2^47 bytes. -/
import Derived.Test.YtdgbenadoaecoaaDoorS6
import Derived.Test.YtdgbenadoaecoaaDoorC6
import Derived.Deep.RegionWith
namespace Go.Proofs.YtdgbenadoaecoaaDoor
open Go.RowKit

/-- The aggregates' table, as a world holds it. -/
structure FoldsAt (w : World) : Prop where
  size : 9 ≤ w.heap.size
  folds : ∀ i, i < 5 → w.cell? ⟨0, i, none⟩ = some (.string (foldsL.getD i ⟨#[]⟩))
theorem FoldsAt.at {w w' : World} (h : FoldsAt w) (hb : Below w.heap.size w w') : FoldsAt w' :=
  ⟨Nat.le_trans h.size hb.size, fun i hi => (hb.cell (p := ⟨0, i, none⟩) (by have := h.size; show 0 < _; omega)).trans (h.folds i hi)⟩
theorem agOk_g {x : Ag} (h : agOk x = true) : x.g = 0 ∨ x.g = 1 ∨ (2 ≤ x.g ∧ x.g ≤ 4) := by
  unfold agOk at h
  by_cases h0 : x.g = 0
  · exact .inl h0
  · by_cases h1 : x.g = 1
    · exact .inr (.inl h1)
    · rw [if_neg h0, if_neg h1] at h
      by_cases h2 : 2 ≤ x.g ∧ x.g ≤ 4
      · exact .inr (.inr h2)
      · rw [if_neg h2] at h; cases h
set_option maxHeartbeats 8000000 in
set_option maxRecDepth 100000 in
theorem pArg (b : Nat) (pre : List UInt8) (x : Ag) (w : World) (hr : TmR x.t.v x.t.x.k x.t.x.n x.t.x.t) (hT : Tabs w) (hFo : FoldsAt w) (hg : x.g = 0 ∨ x.g = 1 ∨ (2 ≤ x.g ∧ x.g ≤ 4)) (hw : Wr 68 b pre w) (hl : pre.length + (agL x).length ≤ 140737488355328) :
    Calls Tryd.prog 40 #[.pointer (some ⟨b, 0, none⟩), .agg #[.int .i8 x.g, .string x.t.v, .int .i8 x.t.x.k, .int .i64 x.t.x.n, .string x.t.x.t]] w (Wrote b pre (agL x) w) := by
  obtain ⟨g, ⟨v, ⟨k, n, t⟩⟩⟩ := x
  simp only at hr hg ⊢
  have HR := Lib.hid hr; clear hr
  have HT := Lib.hid hT; clear hT
  have HW := Lib.hid hw
  have hlt := hw.lt; clear hw
  have HL := Lib.hid hl; clear hl
  rcases hg with rfl | rfl | hg
  · have HE := Lib.hid (show agL ⟨0, ⟨v, ⟨k, n, t⟩⟩⟩ = termL ⟨v, ⟨k, n, t⟩⟩ from rfl)
    rw [HE.out] at HL ⊢
    clear HE
    go_enter Tryd.func40, Tryd.ntmps40
    go_wp2_with fail
    refine (pTerm b pre v k n t _ HR.out (HT.out.up (below_alloc _ _) HT.out.size) (HW.out.alloc _) HL.out).mono ?_
    rintro e w1 ⟨rfl, hw1, hk1⟩
    have H1 := Lib.hid hw1; clear hw1
    have HK1 := Lib.hid ((Kp.alloc HW.out _).trans hk1); clear hk1
    go_wp2_with fail
    go_end0
    exact ⟨rfl, H1.out, HK1.out⟩
  · have HE := Lib.hid (show agL ⟨1, ⟨v, ⟨k, n, t⟩⟩⟩ = [99, 111, 117, 110, 116, 40, 41] from rfl)
    rw [HE.out] at HL ⊢
    clear HE
    go_enter Tryd.func40, Tryd.ntmps40
    go_wp2_with fail
    refine (pPut b (w.heap.size + 1) pre [⟨#[99, 111, 117, 110, 116, 40, 41]⟩] 1 _ ((HW.out.alloc _).alloc _) (by rw [catL_one]; exact HL.out) (by simp) (by simpa using heap_alloc_new (w.alloc _) _) (by omega)).mono ?_
    rintro e w1 ⟨rfl, hw1, hk1⟩
    have H1 := Lib.hid (wr_eq (by rw [catL_one]) hw1); clear hw1
    have HK1 := Lib.hid (((Kp.alloc HW.out _).trans (Kp.alloc (HW.out.alloc _) _)).trans hk1); clear hk1
    go_wp2_with fail
    go_end0
    exact ⟨rfl, H1.out, HK1.out⟩
  · obtain ⟨fo, hfo⟩ : ∃ fo, fo = foldsL.getD g.toNat ⟨#[]⟩ := ⟨_, rfl⟩
    have HE := Lib.hid (show agL ⟨g, ⟨v, ⟨k, n, t⟩⟩⟩ = catL [fo, ⟨#[40]⟩, v, ⟨#[41]⟩] by
      unfold agL
      rw [if_neg (by simp only; omega), if_neg (by simp only; omega), hfo]
      simp [catL, bl])
    rw [HE.out] at HL ⊢
    clear HE
    obtain ⟨W, hW⟩ : ∃ W, W = w.alloc (.cells #[.int .i8 g, .string v, .int .i8 k, .int .i64 n, .string t] 55) := ⟨_, rfl⟩
    have hb1 : Below w.heap.size w W := by rw [hW]; exact below_alloc _ _
    have HKW := Lib.hid (show Kp b w W by rw [hW]; exact Kp.alloc HW.out _)
    have HWW := Lib.hid (show Wr 68 b pre W by rw [hW]; exact HW.out.alloc _)
    have hbx : W.heap[w.heap.size]? = some (.cells #[.int .i8 g, .string v, .int .i8 k, .int .i64 n, .string t] 55 (0, 0)) := by rw [hW]; exact heap_alloc_new w _
    have x0 : W.cell? ⟨w.heap.size, 0, none⟩ = some (.int .i8 g) := by rw [Lib.cell_of_heap hbx]; rfl
    have x1 : W.cell? ⟨w.heap.size, 1, none⟩ = some (.string v) := by rw [Lib.cell_of_heap hbx]; rfl
    have hfc : W.cell? ⟨0, g.toNat, none⟩ = some (.string fo) := by rw [hfo]; exact (hFo.at hb1).folds _ (by omega)
    have hfsz : 0 < W.heap.size := by have := (hFo.at hb1).size; omega
    have hbW : w.heap.size < W.heap.size := by rw [hW]; simp
    clear hbx hfo hb1 hFo
    have q0 : (g == 0) = false := beq_eq_false_iff_ne.2 (by omega)
    have q1 : (g == 1) = false := beq_eq_false_iff_ne.2 (by omega)
    have g0 : 0 ≤ g := by omega
    have g5 : g < 5 := by omega
    have g5n : g.toNat < 5 := by omega
    go_enter Tryd.func40, Tryd.ntmps40
    go_wp2_with fail
    rw [← hW]
    clear hW
    have HPUT := Lib.hid (pPut b W.heap.size pre [fo, ⟨#[40]⟩, v, ⟨#[41]⟩] 4 ((W.alloc (.cells #[.string fo, .string ⟨#[40]⟩, .string v, .string ⟨#[41]⟩] 9)).drew) (Wr.drew (HWW.out.alloc _)) HL.out (by simp) (heap_alloc_new W _) (by have := HWW.out.lt; omega))
    have HKQ := Lib.hid ((HKW.out.trans (Kp.alloc HWW.out (.cells #[.string fo, .string ⟨#[40]⟩, .string v, .string ⟨#[41]⟩] 9))).trans (Kp.of_below (HWW.out.alloc _).lt ((Below.refl _ _).drew)))
    go_region_with ((go_at_call 20; refine HPUT.out.mono ?_; rintro e w1 ⟨rfl, hw1, hk1⟩; have H1 := Lib.hid hw1; clear hw1; have HK1 := Lib.hid (HKQ.out.trans hk1); clear hk1))
    all_goals
      go_wp2_with fail
      go_end0
      exact ⟨rfl, H1.out, HK1.out⟩
end Go.Proofs.YtdgbenadoaecoaaDoor
