/- The walk of PrintTerms. Conditions: a number is one that int64 holds; a text is no longer than the model lets any be; the tables lie as they are laid. -/
import Derived.Test.YtlghiakckkhekaaDoorW28
namespace Go.Proofs.YtlghiakckkhekaaDoor
open Go.RowKit

set_option maxHeartbeats 1000000 in
theorem pTold (v : ByteArray) (k n : Int) (t : ByteArray) (w : World) (hr : TmR v k n t) (hT : Tabs w) (hl : tmOk ⟨v, ⟨k, n, t⟩⟩ = true → (termL ⟨v, ⟨k, n, t⟩⟩).length ≤ 140737488355328) :
    Calls Tryd.prog 26 #[.agg #[.string v, .int .i8 k, .int .i64 n, .string t], .func (.func 27) #[] #[], .func (.func 28) #[] #[]] w (TextPost (tmOk ⟨v, ⟨k, n, t⟩⟩) (termL ⟨v, ⟨k, n, t⟩⟩) w) := by
  have HR := Lib.hid hr; clear hr
  have HT := Lib.hid hT; clear hT
  rcases hx : tmOk ⟨v, ⟨k, n, t⟩⟩ with _ | _
  all_goals have HX := Lib.hid hx
  all_goals rw [← hx]
  all_goals clear hx
  · go_enter Tryd.func26, Tryd.ntmps26
    go_wp2_with fail
    refine (tCheckTerm v k n t _ HR.out.v0).mono ?_
    rintro e w1 ⟨rfl, hb⟩
    have Hb := Lib.hid hb; clear hb
    rw [HX.out, show okCode false 40 = 40 from rfl]
    go_wp2_with fail
    go_ret2
    exact ⟨ret_no HX.out, (below_alloc _ _).trans (Hb.out.mono (by simp))⟩
  · go_enter Tryd.func26, Tryd.ntmps26
    go_wp2_with fail
    refine (tCheckTerm v k n t _ HR.out.v0).mono ?_
    rintro e w1 ⟨rfl, hb⟩
    obtain ⟨hc, hf⟩ := bcell hb
    have Hb := Lib.hid hb; clear hb
    have hsz1 : w.heap.size < w1.heap.size := by have := Hb.out.size; simp at this; omega
    rw [HX.out, show okCode true 40 = 0 from rfl]
    go_wp2_with fail
    clear hc hf
    refine (pTerm w1.heap.size [] v k n t _ HR.out (((HT.out.alloc _).at Hb.out).alloc _) (wr_fresh _ w1) (by simpa using hl HX.out)).mono ?_
    rintro e w2 ⟨rfl, hw2, hk2⟩
    have H2 := Lib.hid hw2; clear hw2
    have HK2 := Lib.hid hk2; clear hk2
    go_wp2_with fail
    refine (bText w1.heap.size _ _ H2.out).mono ?_
    rintro e w3 ⟨rfl, hk3⟩
    have HK3 := Lib.hid hk3; clear hk3
    go_wp2_with fail
    go_ret2
    exact ⟨ret_yes HX.out, (((below_alloc _ _).trans (Hb.out.mono (by simp))).trans ((below_alloc w1 _).mono (by omega))).trans ((HK2.out.trans HK3.out).below.mono (by omega))⟩
theorem pTermT (v : ByteArray) (k n : Int) (t : ByteArray) (w : World) (hr : TmR v k n t) (hT : Tabs w) (hl : tmOk ⟨v, ⟨k, n, t⟩⟩ = true → (termL ⟨v, ⟨k, n, t⟩⟩).length ≤ 140737488355328) :
    Calls Tryd.prog 8 #[.agg #[.string v, .int .i8 k, .int .i64 n, .string t]] w (TextPost (tmOk ⟨v, ⟨k, n, t⟩⟩) (termL ⟨v, ⟨k, n, t⟩⟩) w) := by
  have HR := Lib.hid hr; clear hr
  have HT := Lib.hid hT; clear hT
  go_enter Tryd.func8, Tryd.ntmps8
  go_wp2_with fail
  refine (pTold v k n t _ HR.out (HT.out.alloc _) hl).mono ?_
  rintro e w1 ⟨rfl, hb⟩
  have Hb := Lib.hid hb; clear hb
  go_wp2_with fail
  go_ret2
  exact ⟨rfl, (below_alloc _ _).trans (Hb.out.mono (by simp))⟩
set_option maxHeartbeats 1000000 in
theorem printTerms (v : ByteArray) (k n : Int) (t : ByteArray) (w : World) (hr : TmR v k n t) (hT : Tabs w) :
    Calls Tryd.prog 3 #[.agg #[.string v, .int .i8 k, .int .i64 n, .string t]] w fun e w' => e = .returned (.bool true) ∧ Below w.heap.size w w' := by
  have HR := Lib.hid hr; clear hr
  have HT := Lib.hid hT; clear hT
  go_enter Tryd.func3, Tryd.ntmps3
  go_wp2_with fail
  refine (pTermT v k n t _ HR.out (HT.out.alloc _) (fun ho => by have := termL_le (t := ⟨v, ⟨k, n, t⟩⟩) HR.out ho; omega)).mono ?_
  rintro e w1 ⟨rfl, hb⟩
  obtain ⟨hc, hf⟩ := bcell hb
  have Hb := Lib.hid hb; clear hb
  have hsz1 : w.heap.size < w1.heap.size := by have := Hb.out.size; simp at this; omega
  go_wp2_with fail
  refine (rTerm v k n t _ HR.out).mono ?_
  rintro e w2 ⟨rfl, hb2⟩
  have Hb2 := Lib.hid hb2; clear hb2
  clear hc hf
  obtain ⟨s, hs⟩ : ∃ s, s = (⟨(txt (tmOk ⟨v, ⟨k, n, t⟩⟩) (termL ⟨v, ⟨k, n, t⟩⟩)).toArray⟩ : ByteArray) := ⟨_, rfl⟩
  obtain ⟨c, hc⟩ : ∃ c, c = okCode (tmOk ⟨v, ⟨k, n, t⟩⟩) 40 := ⟨_, rfl⟩
  rw [← hs, ← hc]
  clear hs hc
  go_wp2_with fail
  refine (lives _ ((HT.out.alloc _).at (Hb.out.trans (Hb2.out.mono Hb.out.size)))).mono ?_
  rintro e w3 ⟨rfl, hb3⟩
  have Hb3 := Lib.hid hb3; clear hb3
  go_wp2_with fail
  go_ret
  exact ⟨rfl, ((below_alloc _ _).trans (Hb.out.mono (by simp))).trans ((Hb2.out.mono (by omega)).trans (Hb3.out.mono (by have := Hb2.out.size; omega)))⟩
end Go.Proofs.YtlghiakckkhekaaDoor
