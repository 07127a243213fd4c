/- The contracts of term.vars, RuleVars, argument, CheckRule. Conditions: the rule lies in memory as it is told. -/
import Derived.Test.YtafjjececdhmjaaGreatNS4
namespace Go.Proofs.YtafjjececdhmjaaGreat
open Go.RowKit Go.Maps

theorem makeFn' (fn : Fn) (first cap : Array Value) (w : World) : (Instr.makeFunc fn first cap).run Tryz.prog w = .ok (.func fn first cap) w := rfl
def RvPost (n : Nat) (w : World) (e : Ending) (w' : World) : Prop := ∃ p c, e = .returned (.slice p n c) ∧ Below w.heap.size w w'
theorem vs_start (w : World) : VS w (w.heap.size + 1 + 1) w.heap.size [] (((w.alloc (.cells #[.slice none 0 0] 85)).alloc (.map #[] 0)).alloc (.cells #[.map (some (w.heap.size + 1))] 61)) := by
  have hb : Below w.heap.size w (((w.alloc (.cells #[.slice none 0 0] 85)).alloc (.map #[] 0)).alloc (.cells #[.map (some (w.heap.size + 1))] 61)) :=
    ((below_alloc w _).alloc (by simp) _).alloc (by simp; omega) _
  refine ⟨hb, by omega, Nat.le_refl _, ⟨w.heap.size + 1, .map [], ?_, by omega, ?_, ThereD.nil⟩, ⟨_, ?_, World.ownsRowF_nil _ _ _ _⟩⟩
  · have h := heap_alloc_new ((w.alloc (.cells #[.slice none 0 0] 85)).alloc (.map #[] 0)) (.cells #[.map (some (w.heap.size + 1))] 61)
    simpa using h
  · have h := World.ownsMap_made (H := Unit) (w.alloc (.cells #[.slice none 0 0] 85)) Tryz.prog 9 (plainElem Tryz.prog 3)
    have e : (w.alloc (.cells #[.slice none 0 0] 85)).heap.size = w.heap.size + 1 := by simp
    rw [e] at h
    exact h.kept (World.grownBy_alloc _ _ none) (by simp)
  · rw [Lib.alloc_old _ _ _ (by simp; omega), Lib.alloc_old _ _ _ (by simp)]
    exact heap_alloc_new w _
set_option maxHeartbeats 8000000 in
set_option maxRecDepth 100000 in
theorem tVars (d : Nat) (p : ByteArray) (hp : Option Addr) (hc : Nat) (hs : List Ag) (bp : Option Addr) (bc : Nat) (bs : List (Lt d)) (b : Nat) (w : World)
    (hcell : w.heap[b]? = some (.cells #[.string p, .slice hp hs.length hc, .slice bp bs.length bc] 41 (0, 0))) (hh : AgsAt w hp hs) (hb : LtsAt w d bp bs) (hr : RuR p hs bs) (hn : (ruTms hs bs).length ≤ 10000) :
    Calls Tryz.prog 77 #[.iface 165 (.pointer (some ⟨b, 0, none⟩))] w (RvPost (varsL (ruTms hs bs)).length w) := by
  have HCELL := Lib.hid hcell; clear hcell
  have HH := Lib.hid hh; clear hh
  have HB := Lib.hid hb; clear hb
  have HR := Lib.hid hr; clear hr
  have HN := Lib.hid hn; clear hn
  have hmm := @run_makeMap Tryz.prog
  have hmf := makeFn'
  obtain ⟨n, hnn⟩ : ∃ n, n = (varsL (ruTms hs bs)).length := ⟨_, rfl⟩
  rw [← hnn]
  have HNN := Lib.hid hnn; clear hnn
  go_enter Tryz.func77, Tryz.ntmps77
  go_wp2_with fail
  clear hmm hmf
  have HS := Lib.hid (vs_start w)
  obtain ⟨W, hW⟩ : ∃ W, W = (((w.alloc (.cells #[.slice none 0 0] 85)).alloc (.map #[] 0)).alloc (.cells #[.map (some (w.heap.size + 1))] 61)) := ⟨_, rfl⟩
  rw [← hW] at HS ⊢
  clear hW
  refine (wRule w _ _ d p hp hc hs bp bc bs b W HS.out HCELL.out HH.out HB.out HR.out HN.out).mono ?_
  rintro e w1 ⟨rfl, hv⟩
  obtain ⟨sv, hl, ho⟩ := hv.list
  have HV := Lib.hid hv.below; clear hv
  obtain ⟨ps, cs, rfl⟩ := own_slice1 ho
  have y0 : w1.cell? ⟨w.heap.size, 0, none⟩ = some (.slice ps (varsL (ruTms hs bs)).length cs) := by rw [Lib.cell_of_heap hl]; rfl
  clear hl ho
  rw [← HNN.out] at y0
  go_wp2_with fail
  go_ret
  exact ⟨ps, cs, rfl, HV.out⟩
set_option maxHeartbeats 4000000 in
theorem tRuleVars (d : Nat) (p : ByteArray) (hp : Option Addr) (hc : Nat) (hs : List Ag) (bp : Option Addr) (bc : Nat) (bs : List (Lt d)) (w : World)
    (hh : AgsAt w hp hs) (hb : LtsAt w d bp bs) (hr : RuR p hs bs) (hn : (ruTms hs bs).length ≤ 10000) :
    Calls Tryz.prog 40 #[.agg #[.string p, .slice hp hs.length hc, .slice bp bs.length bc]] w (RvPost (varsL (ruTms hs bs)).length w) := by
  obtain ⟨W, hW⟩ : ∃ W, W = w.alloc (.cells #[.string p, .slice hp hs.length hc, .slice bp bs.length bc] 41) := ⟨_, rfl⟩
  have HBW := Lib.hid (show Below w.heap.size w W by rw [hW]; exact below_alloc _ _)
  have hsW : W.heap.size = w.heap.size + 1 := by rw [hW]; simp
  have HCALL := Lib.hid (tVars d p hp hc hs bp bc bs w.heap.size W (by rw [hW]; exact heap_alloc_new w _) (hh.up HBW.out) (hb.up HBW.out) hr hn)
  clear hh hb hr hn
  generalize (varsL (ruTms hs bs)).length = n at HCALL ⊢
  go_enter Tryz.func40, Tryz.ntmps40
  go_wp2_with fail
  rw [← hW]
  clear hW
  refine HCALL.out.mono ?_
  rintro e w1 ⟨ps, cs, rfl, hb⟩
  have HB := Lib.hid hb; clear hb
  go_wp2_with fail
  go_ret
  exact ⟨ps, cs, rfl, HBW.out.trans (HB.out.mono (by omega))⟩
set_option maxHeartbeats 4000000 in
set_option maxRecDepth 100000 in
theorem tArg (x : Ag) (w : World) (hv : x.t.v.size ≤ maxLen) :
    Calls Tryz.prog 67 #[.agg #[.int .i8 x.g, .string x.t.v, .int .i8 x.t.x.k, .int .i64 x.t.x.n, .string x.t.x.t]] w fun e w' => e = .returned (.bool (agOk x)) ∧ Below w.heap.size w w' := by
  obtain ⟨g, ⟨v, ⟨k, n, t⟩⟩⟩ := x
  simp only at hv ⊢
  have HVS := Lib.hid hv; clear hv
  by_cases h0 : g = 0
  · subst h0
    have HE := Lib.hid (show agOk ⟨0, ⟨v, ⟨k, n, t⟩⟩⟩ = solidB ⟨v, ⟨k, n, t⟩⟩ from rfl)
    go_enter Tryz.func67, Tryz.ntmps67
    go_wp2_with fail
    refine (tSolid v k n t _ HVS.out).mono ?_
    rintro e w1 ⟨rfl, hb⟩
    have Hb := Lib.hid hb; clear hb
    go_wp2_with fail
    go_ret
    exact ⟨ret_bool HE.out.symm, (below_alloc _ _).trans (Hb.out.mono (by simp))⟩
  · by_cases h1 : g = 1
    · subst h1
      have HE := Lib.hid (show agOk ⟨1, ⟨v, ⟨k, n, t⟩⟩⟩ = tmZero ⟨v, ⟨k, n, t⟩⟩ from rfl)
      clear h0
      go_enter Tryz.func67, Tryz.ntmps67
      go_wp2_with fail
      refine (tNone v k n t _).mono ?_
      rintro e w1 ⟨rfl, hb⟩
      have Hb := Lib.hid hb; clear hb
      go_wp2_with fail
      go_ret
      exact ⟨ret_bool HE.out.symm, (below_alloc _ _).trans (Hb.out.mono (by simp))⟩
    · by_cases h24 : 2 ≤ g ∧ g ≤ 4
      · have HE := Lib.hid (show agOk ⟨g, ⟨v, ⟨k, n, t⟩⟩⟩ = (!(bl v).isEmpty && solidB ⟨v, ⟨k, n, t⟩⟩) by unfold agOk; rw [if_neg h0, if_neg h1, if_pos h24])
        clear h0 h1
        rcases (show g = 2 ∨ g = 3 ∨ g = 4 by omega) with rfl | rfl | rfl
        all_goals
          by_cases hve : v.toList.isEmpty = true
          · have HE2 := Lib.hid (show agOk ⟨_, ⟨v, ⟨k, n, t⟩⟩⟩ = false by rw [HE.out, bl, ← ByteArray.toList_eq, hve]; rfl)
            go_enter Tryz.func67, Tryz.ntmps67
            go_wp2_with fail
            go_ret
            exact ⟨ret_bool HE2.out.symm, below_alloc _ _⟩
          · have hve' : v.toList.isEmpty = false := by simpa using hve
            have HE2 := Lib.hid (show agOk ⟨_, ⟨v, ⟨k, n, t⟩⟩⟩ = solidB ⟨v, ⟨k, n, t⟩⟩ by rw [HE.out, bl, ← ByteArray.toList_eq, hve']; rfl)
            clear hve
            go_enter Tryz.func67, Tryz.ntmps67
            go_wp2_with fail
            refine (tSolid v k n t _ HVS.out).mono ?_
            rintro e w1 ⟨rfl, hb⟩
            have Hb := Lib.hid hb; clear hb
            go_wp2_with fail
            go_ret
            exact ⟨ret_bool HE2.out.symm, (below_alloc _ _).trans (Hb.out.mono (by simp))⟩
      · have HE := Lib.hid (show agOk ⟨g, ⟨v, ⟨k, n, t⟩⟩⟩ = false by unfold agOk; rw [if_neg h0, if_neg h1, if_neg h24])
        have q0 : (g == 0) = false := beq_eq_false_iff_ne.2 h0
        have q1 : (g == 1) = false := beq_eq_false_iff_ne.2 h1
        have q2 : (g == 2) = false := beq_eq_false_iff_ne.2 (by omega)
        have q3 : (g == 3) = false := beq_eq_false_iff_ne.2 (by omega)
        have q4 : (g == 4) = false := beq_eq_false_iff_ne.2 (by omega)
        clear h0 h1 h24
        go_enter Tryz.func67, Tryz.ntmps67
        go_wp2_with fail
        go_ret
        exact ⟨ret_bool HE.out.symm, below_alloc _ _⟩
end Go.Proofs.YtafjjececdhmjaaGreat
