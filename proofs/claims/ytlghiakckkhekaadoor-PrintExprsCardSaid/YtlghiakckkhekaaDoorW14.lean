/- The contracts of print's writer at a term, and of print.Term. Conditions: what is held and what is written together take at most 2^47 bytes. -/
import Derived.Test.YtlghiakckkhekaaDoorW12
import Derived.Test.YtlghiakckkhekaaDoorW13
namespace Go.Proofs.YtlghiakckkhekaaDoor
open Go.RowKit

theorem below_alloc (w : World) (o : Obj) : Below w.heap.size w (w.alloc o) := (Below.refl _ _).alloc (Nat.le_refl _) _
theorem Wr.alloc {T b : Nat} {l : List UInt8} {w : World} (h : Wr T b l w) (o : Obj) : Wr T b l (w.alloc o) := h.up (below_alloc w o)
theorem Kp.alloc {T b : Nat} {l : List UInt8} {w : World} (h : Wr T b l w) (o : Obj) : Kp b w (w.alloc o) := Kp.of_below h.lt (below_alloc w o)
theorem catL_one (s : ByteArray) : catL [s] = bl s := by simp [catL]
set_option maxHeartbeats 1000000 in
theorem pTerm (b : Nat) (pre : List UInt8) (v : ByteArray) (k n : Int) (t : ByteArray) (w : World) (hr : TmR v k n t) (hT : Tabs w) (hw : Wr 94 b pre w) (hl : pre.length + (termL ⟨v, ⟨k, n, t⟩⟩).length ≤ 140737488355328) :
    Calls Tryd.prog 28 #[.pointer (some ⟨b, 0, none⟩), .agg #[.string v, .int .i8 k, .int .i64 n, .string t]] w (Wrote b pre (termL ⟨v, ⟨k, n, t⟩⟩) w) := by
  have HR := Lib.hid hr; clear hr
  have HT := Lib.hid hT; clear hT
  have HW := Lib.hid hw
  have hlt := hw.lt; clear hw
  by_cases h0 : v.toList = []
  · have HE := Lib.hid (show termL ⟨v, ⟨k, n, t⟩⟩ = showL ⟨k, n, t⟩ by unfold termL; rw [if_pos (by rw [bl, ← ByteArray.toList_eq, h0]; rfl)])
    have h1 : v.toList.isEmpty = true := by simp [h0]
    clear h0
    go_enter Tryd.func28, Tryd.ntmps28
    go_wp2_with fail
    refine (vShow k n t _ HR.out.toVlR (HT.out.alloc _)).mono ?_
    rintro e w1 ⟨rfl, hb⟩
    have Hb := Lib.hid hb; clear hb
    have hs1 := Hb.out.size
    obtain ⟨x, hx⟩ : ∃ x : ByteArray, bl x = showL ⟨k, n, t⟩ ∧ x = ⟨(showL ⟨k, n, t⟩).toArray⟩ := ⟨_, rfl, rfl⟩
    rw [← hx.2]
    have HX := Lib.hid hx.1; clear hx
    have hlw1 : b < w1.heap.size := by simp at hs1; omega
    go_wp2_with fail
    refine (pPut b w1.heap.size pre [x] 1 _ (((HW.out.alloc _).up Hb.out).alloc _) (by rw [catL_one, HX.out, ← HE.out]; exact hl) (by simp) (heap_alloc_new w1 _) (by omega)).mono ?_
    rintro e w2 ⟨rfl, hw2, hk2⟩
    have H2 := Lib.hid hw2; clear hw2
    have HK2 := Lib.hid hk2; clear hk2
    go_wp2_with fail
    go_end0
    exact ⟨rfl, wr_eq (by rw [catL_one, HX.out, HE.out]) H2.out, (((Kp.alloc HW.out _).trans (Kp.of_below (by simp; omega) Hb.out)).trans (Kp.alloc ((HW.out.alloc _).up Hb.out) _)).trans HK2.out⟩
  · have h1 : v.toList.isEmpty = false := by simpa using h0
    have HE := Lib.hid (show termL ⟨v, ⟨k, n, t⟩⟩ = bl v by unfold termL; rw [if_neg (by rw [bl, ← ByteArray.toList_eq]; simpa using h0)])
    clear h0
    go_enter Tryd.func28, Tryd.ntmps28
    go_wp2_with fail
    refine (pPut b (w.heap.size + 1) pre [v] 1 _ ((HW.out.alloc _).alloc _) (by rw [catL_one, ← HE.out]; exact hl) (by simp) (by simpa using heap_alloc_new (w.alloc _) _) (by omega)).mono ?_
    rintro e w1 ⟨rfl, hw1, hk1⟩
    have H1 := Lib.hid hw1; clear hw1
    have HK1 := Lib.hid hk1; clear hk1
    go_wp2_with fail
    go_end0
    exact ⟨rfl, wr_eq (by rw [catL_one, HE.out]) H1.out, ((Kp.alloc HW.out _).trans (Kp.alloc (HW.out.alloc _) _)).trans HK1.out⟩
end Go.Proofs.YtlghiakckkhekaaDoor
