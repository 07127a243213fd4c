/- The contract of the statements' lives. Conditions: none beyond the tables. -/
import Derived.Test.YtlghiakckkhekaaDoorW27
namespace Go.Proofs.YtlghiakckkhekaaDoor
open Go.RowKit

/-- X - -(5), its kids' slices in the blocks g and h. -/
def liveE (g h : Nat) : Ex 3 := ((3 : Int), ⟨⟨#[]⟩, ⟨0, 0, ⟨#[]⟩⟩⟩, .slice (some ⟨h, 0, none⟩) 2 2, [((0 : Int), ⟨⟨#[88]⟩, ⟨0, 0, ⟨#[]⟩⟩⟩, .slice none 0 0, ([] : List (Ex 1))), ((1 : Int), ⟨⟨#[]⟩, ⟨0, 0, ⟨#[]⟩⟩⟩, .slice (some ⟨g, 0, none⟩) 1 1, [((0 : Int), ⟨⟨#[]⟩, ⟨1, 5, ⟨#[]⟩⟩⟩, .slice none 0 0, ([] : List (Ex 0)))])])
theorem live_ok (g h : Nat) : exOk 8 3 (liveE g h) = true := by kernel_rfl
theorem live_txt (g h : Nat) : exprL 3 (liveE g h) = [88, 32, 45, 32, 45, 40, 53, 41] := by kernel_rfl
theorem tmr_of {v : ByteArray} {k n : Int} {t : ByteArray} (h1 : v.size ≤ 1) (h2 : 0 ≤ n) (h3 : n ≤ 5) (h4 : t.size ≤ 1) : TmR v k n t :=
  ⟨⟨by omega, by omega, by unfold maxLen; omega⟩, by unfold maxLen; omega⟩
theorem live_r (g h : Nat) : ExR 3 (liveE g h) := by
  refine ⟨⟨of_decide_eq_true (by kernel_rfl), of_decide_eq_true (by kernel_rfl)⟩, tmr_of (of_decide_eq_true (by kernel_rfl)) (of_decide_eq_true (by kernel_rfl)) (of_decide_eq_true (by kernel_rfl)) (of_decide_eq_true (by kernel_rfl)), fun k hk => ?_⟩
  have hk' := List.mem_cons.1 hk
  rcases hk' with rfl | hk'
  · exact ⟨⟨of_decide_eq_true (by kernel_rfl), of_decide_eq_true (by kernel_rfl)⟩, tmr_of (of_decide_eq_true (by kernel_rfl)) (of_decide_eq_true (by kernel_rfl)) (of_decide_eq_true (by kernel_rfl)) (of_decide_eq_true (by kernel_rfl)), fun k hk => nomatch hk⟩
  · obtain rfl := List.mem_singleton.1 hk'
    refine ⟨⟨of_decide_eq_true (by kernel_rfl), of_decide_eq_true (by kernel_rfl)⟩, tmr_of (of_decide_eq_true (by kernel_rfl)) (of_decide_eq_true (by kernel_rfl)) (of_decide_eq_true (by kernel_rfl)) (of_decide_eq_true (by kernel_rfl)), fun k hk => ?_⟩
    obtain rfl := List.mem_singleton.1 hk
    exact ⟨⟨of_decide_eq_true (by kernel_rfl), of_decide_eq_true (by kernel_rfl)⟩, tmr_of (of_decide_eq_true (by kernel_rfl)) (of_decide_eq_true (by kernel_rfl)) (of_decide_eq_true (by kernel_rfl)) (of_decide_eq_true (by kernel_rfl)), fun k hk => nomatch hk⟩
theorem live_at {w : World} {g h : Nat} {T T' : TypeId} {fz fz' : Nat × Nat}
    (hg : w.heap[g]? = some (.cells #[.int .i8 0, .string ⟨#[]⟩, .int .i8 1, .int .i64 5, .string ⟨#[]⟩, .slice none 0 0] T fz))
    (hh : w.heap[h]? = some (.cells #[.int .i8 0, .string ⟨#[88]⟩, .int .i8 0, .int .i64 0, .string ⟨#[]⟩, .slice none 0 0, .int .i8 1, .string ⟨#[]⟩, .int .i8 0, .int .i64 0, .string ⟨#[]⟩, .slice (some ⟨g, 0, none⟩) 1 1] T' fz')) :
    ExAt w 3 (liveE g h) := by
  have lg : g < w.heap.size := (Array.getElem?_eq_some_iff.1 hg).1
  have lh : h < w.heap.size := (Array.getElem?_eq_some_iff.1 hh).1
  refine ⟨_, 2, rfl, of_decide_eq_true (by kernel_rfl), .inr ⟨h, 0, rfl, lh, fun i hi => ?_⟩, fun k hk => ?_⟩
  · have hi' : i < 2 := hi
    match i, hi' with
    | 0, _ => exact ⟨by rw [Lib.cell_of_heap hh]; rfl, by rw [Lib.cell_of_heap hh]; rfl, by rw [Lib.cell_of_heap hh]; rfl, by rw [Lib.cell_of_heap hh]; rfl, by rw [Lib.cell_of_heap hh]; rfl, by rw [Lib.cell_of_heap hh]; rfl⟩
    | 1, _ => exact ⟨by rw [Lib.cell_of_heap hh]; rfl, by rw [Lib.cell_of_heap hh]; rfl, by rw [Lib.cell_of_heap hh]; rfl, by rw [Lib.cell_of_heap hh]; rfl, by rw [Lib.cell_of_heap hh]; rfl, by rw [Lib.cell_of_heap hh]; rfl⟩
  · have hk' := List.mem_cons.1 hk
    rcases hk' with rfl | hk'
    · exact ⟨none, 0, rfl, of_decide_eq_true (by kernel_rfl), .inl rfl, fun k hk => nomatch hk⟩
    · obtain rfl := List.mem_singleton.1 hk'
      refine ⟨_, 1, rfl, of_decide_eq_true (by kernel_rfl), .inr ⟨g, 0, rfl, lg, fun i hi => ?_⟩, fun k hk => ?_⟩
      · have hi' : i < 1 := hi
        match i, hi' with
        | 0, _ => exact ⟨by rw [Lib.cell_of_heap hg]; rfl, by rw [Lib.cell_of_heap hg]; rfl, by rw [Lib.cell_of_heap hg]; rfl, by rw [Lib.cell_of_heap hg]; rfl, by rw [Lib.cell_of_heap hg]; rfl, by rw [Lib.cell_of_heap hg]; rfl⟩
      · obtain rfl := List.mem_singleton.1 hk
        exact ⟨none, 0, rfl, of_decide_eq_true (by kernel_rfl), .inl rfl, fun k hk => nomatch hk⟩
theorem pLiveE {w : World} {g h : Nat} {T T' : TypeId} {fz fz' : Nat × Nat} (hT : Tabs w)
    (hg : w.heap[g]? = some (.cells #[.int .i8 0, .string ⟨#[]⟩, .int .i8 1, .int .i64 5, .string ⟨#[]⟩, .slice none 0 0] T fz))
    (hh : w.heap[h]? = some (.cells #[.int .i8 0, .string ⟨#[88]⟩, .int .i8 0, .int .i64 0, .string ⟨#[]⟩, .slice none 0 0, .int .i8 1, .string ⟨#[]⟩, .int .i8 0, .int .i64 0, .string ⟨#[]⟩, .slice (some ⟨g, 0, none⟩) 1 1] T' fz')) :
    Calls Tryd.prog 14 #[.agg #[.int .i8 3, .string ⟨#[]⟩, .int .i8 0, .int .i64 0, .string ⟨#[]⟩, .slice (some ⟨h, 0, none⟩) 2 2]] w fun e w' =>
      e = .returned (.tuple #[.string ⟨#[88, 32, 45, 32, 45, 40, 53, 41]⟩, .int .i64 0]) ∧ Below w.heap.size w w' := by
  refine (pExprT 3 (liveE g h) w (live_at hg hh) (live_r g h) hT).mono ?_
  rintro e w' ⟨rfl, hb⟩
  refine ⟨?_, hb⟩
  rw [live_ok, live_txt]
  rfl
def liveTs : List Tm := [⟨⟨#[95]⟩, ⟨0, 0, ⟨#[]⟩⟩⟩, ⟨⟨#[]⟩, ⟨2, 0, ⟨#[97]⟩⟩⟩]
theorem liveA_ok : atOk ⟨#[112]⟩ liveTs = true := by kernel_rfl
theorem liveA_txt : atomL ⟨#[112]⟩ liveTs = [112, 40, 95, 44, 32, 97, 41] := by kernel_rfl
theorem pLiveA {w : World} {g : Nat} {T : TypeId} {fz : Nat × Nat} (hT : Tabs w)
    (hg : w.heap[g]? = some (.cells #[.string ⟨#[95]⟩, .int .i8 0, .int .i64 0, .string ⟨#[]⟩, .string ⟨#[]⟩, .int .i8 2, .int .i64 0, .string ⟨#[97]⟩] T fz)) :
    Calls Tryd.prog 31 #[.agg #[.string ⟨#[112]⟩, .slice (some ⟨g, 0, none⟩) 2 2]] w fun e w' =>
      e = .returned (.tuple #[.string ⟨#[112, 40, 95, 44, 32, 97, 41]⟩, .int .i64 0]) ∧ Below w.heap.size w w' := by
  have lg : g < w.heap.size := (Array.getElem?_eq_some_iff.1 hg).1
  refine (pAtomT ⟨#[112]⟩ _ liveTs w (by decide) ⟨some ⟨g, 0, none⟩, 2, rfl, of_decide_eq_true (by kernel_rfl), .inr ⟨g, 0, rfl, lg, fun i hi => ?_⟩⟩ ?_ hT).mono ?_
  · have hi' : i < 2 := hi
    match i, hi' with
    | 0, _ => exact ⟨by rw [Lib.cell_of_heap hg]; rfl, by rw [Lib.cell_of_heap hg]; rfl, by rw [Lib.cell_of_heap hg]; rfl, by rw [Lib.cell_of_heap hg]; rfl⟩
    | 1, _ => exact ⟨by rw [Lib.cell_of_heap hg]; rfl, by rw [Lib.cell_of_heap hg]; rfl, by rw [Lib.cell_of_heap hg]; rfl, by rw [Lib.cell_of_heap hg]; rfl⟩
  · intro t ht
    have ht' := List.mem_cons.1 ht
    rcases ht' with rfl | ht'
    · exact tmr_of (by decide) (by decide) (by decide) (by decide)
    · obtain rfl := List.mem_singleton.1 ht'
      exact tmr_of (by decide) (by decide) (by decide) (by decide)
  · rintro e w' ⟨rfl, hb⟩
    refine ⟨?_, hb⟩
    rw [liveA_ok, liveA_txt]
    rfl
theorem new2 (w : World) (a b c : Obj) : (((w.alloc a).alloc b).alloc c).heap[w.heap.size + 1 + 1]? = some c := by
  have h := heap_alloc_new ((w.alloc a).alloc b) c
  rwa [show ((w.alloc a).alloc b).heap.size = w.heap.size + 1 + 1 by simp] at h
theorem new3 (w : World) (a b c d : Obj) : ((((w.alloc a).alloc b).alloc c).alloc d).heap[w.heap.size + 1 + 1 + 1]? = some d := by
  have h := heap_alloc_new (((w.alloc a).alloc b).alloc c) d
  rwa [show (((w.alloc a).alloc b).alloc c).heap.size = w.heap.size + 1 + 1 + 1 by simp] at h
set_option maxHeartbeats 1000000 in
theorem lives (w : World) (hT : Tabs w) : Calls Tryd.prog 10 #[] w fun e w' => e = .returned (.bool true) ∧ Below w.heap.size w w' := by
  have HT := Lib.hid hT; clear hT
  go_enter Tryd.func10, Tryd.ntmps10
  go_wp2_with fail
  refine (pLiveE (g := w.heap.size + 1 + 1) (h := w.heap.size + 1 + 1 + 1) ((((HT.out.alloc _).alloc _).alloc _).alloc _) ((Lib.alloc_old _ _ _ (by simp)).trans (new2 w _ _ _)) (new3 w _ _ _ _)).mono ?_
  rintro e w1 ⟨rfl, hb⟩
  have Hb := Lib.hid (((((below_alloc w _).trans ((below_alloc (w.alloc _) _).mono (by simp))).trans ((below_alloc ((w.alloc _).alloc _) _).mono (by simp; omega))).trans ((below_alloc (((w.alloc _).alloc _).alloc _) _).mono (by simp; omega))).trans (hb.mono (by simp; omega))); clear hb
  go_wp2_with fail
  refine (pLiveA ((HT.out.at Hb.out).alloc _) (heap_alloc_new w1 _)).mono ?_
  rintro e w2 ⟨rfl, hb⟩
  have Hb2 := Lib.hid ((below_alloc w1 _).trans (hb.mono (by simp))); clear hb
  go_wp2_with fail
  go_ret
  exact ⟨rfl, Hb.out.trans (Hb2.out.mono Hb.out.size)⟩
end Go.Proofs.YtlghiakckkhekaaDoor
