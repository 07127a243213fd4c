/- The contract of term.CheckExpr. Conditions: the expression lies in memory as it is told; a text is no longer than the model lets any be. -/
import Derived.Test.YtlghiakckkhekaaDoorW20
namespace Go.Proofs.YtlghiakckkhekaaDoor
open Go.RowKit

theorem ex_kids (n d : Nat) (ks : List (Ex d)) : ks.all (exOk n d) = !ks.any (exBad n d) := by
  rw [List.not_any_eq_all_not]; congr 1; funext k; simp [exBad]
theorem below_two {w w1 : World} {a b : Obj} (h : Below ((w.alloc a).alloc b).drew.heap.size ((w.alloc a).alloc b).drew w1) : Below w.heap.size w w1 := by
  have h1 : Below w.heap.size w ((w.alloc a).alloc b) := (below_alloc _ _).trans ((below_alloc _ _).mono (by simp))
  exact h1.drew.trans (h.mono h1.drew.size)
set_option maxHeartbeats 2000000 in
theorem deep_step (d : Nat) (ih : DeepAt d) : DeepAt (d + 1) := by
  intro e n w hn he hr
  obtain ⟨op, ⟨v, k, x, t⟩, sl, ks⟩ := e
  show Calls Tryd.prog 75 #[.agg #[.int .i8 op, .string v, .int .i8 k, .int .i64 x, .string t, sl], .int .i64 n] w fun r w' => r = .returned (.bool (exOk n (d + 1) (op, ⟨v, k, x, t⟩, sl, ks))) ∧ Below w.heap.size w w'
  have HE := Lib.hid he
  have HR := Lib.hid hr
  have hv : v.size ≤ maxLen := hr.2.1.v0
  clear hr
  have IH := Lib.hid ih; clear ih
  obtain ⟨p, cap, h1, h2, h3, h4⟩ := he
  simp only at h1 h2
  clear h3 h4
  subst h1
  rcases n with _ | n
  · have HX := Lib.hid (show exOk 0 (d + 1) (op, ⟨v, k, x, t⟩, Value.slice p ks.length cap, ks) = false from rfl)
    clear hn
    go_enter Tryd.func75, Tryd.ntmps75
    go_wp2_with fail
    go_ret
    exact ⟨rfl, (below_alloc _ _).trans ((below_alloc _ _).mono (by simp))⟩
  · have HX := Lib.hid (show exOk (n + 1) (d + 1) (op, ⟨v, k, x, t⟩, Value.slice p ks.length cap, ks) = (if op = 0 then ks.isEmpty && solidB ⟨v, k, x, t⟩ else tmZero ⟨v, k, x, t⟩ && decide ((ks.length : Int) = arityI op) && ks.all (exOk n d)) from rfl)
    by_cases h0 : op = 0
    · subst h0
      rw [if_pos rfl] at HX
      by_cases hk : ks.length = 0
      · obtain rfl := List.eq_nil_of_length_eq_zero hk
        have HX2 := Lib.hid (show exOk (n + 1) (d + 1) (0, ⟨v, k, x, t⟩, Value.slice p 0 cap, []) = solidB ⟨v, k, x, t⟩ from HX.out)
        clear HX hk
        go_enter Tryd.func75, Tryd.ntmps75
        go_wp2_with fail
        refine (tSolid v k x t _ hv).mono ?_
        rintro r w1 ⟨rfl, hb⟩
        have Hb := Lib.hid hb; clear hb
        go_wp2_with fail
        go_ret
        exact ⟨ret_bool HX2.out.symm, ((below_alloc _ _).trans ((below_alloc _ _).mono (by simp))).trans (Hb.out.mono (by simp; omega))⟩
      · have HX2 := Lib.hid (show exOk (n + 1) (d + 1) (0, ⟨v, k, x, t⟩, Value.slice p ks.length cap, ks) = false by rw [HX.out]; cases ks; exact absurd rfl hk; rfl)
        have q : ((ks.length : Int) == 0) = false := beq_eq_false_iff_ne.2 (by omega)
        clear HX hk
        go_enter Tryd.func75, Tryd.ntmps75
        go_wp2_with fail
        go_ret
        exact ⟨ret_bool HX2.out.symm, (below_alloc _ _).trans ((below_alloc _ _).mono (by simp))⟩
    · rw [if_neg h0] at HX
      have q0 : (op == 0) = false := beq_eq_false_iff_ne.2 h0
      clear h0
      rcases hz : tmZero ⟨v, k, x, t⟩ with _ | _
      · have HZ := Lib.hid hz
        have HX2 := Lib.hid (show exOk (n + 1) (d + 1) (op, ⟨v, k, x, t⟩, Value.slice p ks.length cap, ks) = false by rw [HX.out]; simp [hz])
        clear HX hz
        go_enter Tryd.func75, Tryd.ntmps75
        go_wp2_with fail
        first | go_region_with (first | (refine (tNone v k x t _).mono ?_; rintro r w1 ⟨rfl, hb⟩; rw [HZ.out]; obtain ⟨hc, hf⟩ := bcell hb; have Hb := Lib.hid hb; clear hb)) | fail
        all_goals
          go_wp2_with fail
          go_ret
          exact ⟨ret_bool HX2.out.symm, below_two Hb.out⟩
      · have HZ := Lib.hid hz
        rcases ha : decide ((ks.length : Int) = arityI op) with _ | _
        · have HX2 := Lib.hid (show exOk (n + 1) (d + 1) (op, ⟨v, k, x, t⟩, Value.slice p ks.length cap, ks) = false by rw [HX.out]; simp [hz, of_decide_eq_false ha])
          have q : ((ks.length : Int) != arityI op) = true := bne_iff_ne.2 (of_decide_eq_false ha)
          clear HX hz ha
          go_enter Tryd.func75, Tryd.ntmps75
          go_wp2_with fail
          go_region_with (first | (refine (tNone v k x t _).mono ?_; rintro r w1 ⟨rfl, hb⟩; rw [HZ.out]; obtain ⟨hc, hf⟩ := bcell hb; have Hb := Lib.hid hb; clear hb) | (refine (tArity op _).mono ?_; rintro r w2 ⟨rfl, rfl⟩))
          all_goals
            go_wp2_with fail
            go_ret
            exact ⟨ret_bool HX2.out.symm, below_two Hb.out⟩
        · have HX2 := Lib.hid (show exOk (n + 1) (d + 1) (op, ⟨v, k, x, t⟩, Value.slice p ks.length cap, ks) = !ks.any (exBad n d) by rw [HX.out, ← ex_kids]; simp [hz, of_decide_eq_true ha])
          have q : ((ks.length : Int) != arityI op) = false := by rw [of_decide_eq_true ha]; simp
          clear HX hz ha
          go_enter Tryd.func75, Tryd.ntmps75
          go_wp2_with fail
          go_region_with (first | (refine (tNone v k x t _).mono ?_; rintro r w1 ⟨rfl, hb⟩; rw [HZ.out]; obtain ⟨hc, hf⟩ := bcell hb; have Hb := Lib.hid hb; clear hb) | (refine (tArity op _).mono ?_; rintro r w2 ⟨rfl, rfl⟩))
          all_goals
            go_wp2_with fail
            refine (kidsBad d IH.out n (w.heap.size + 1) (op, ⟨v, k, x, t⟩, Value.slice p ks.length cap, ks) _ (by omega) (ExAt.up (below_two Hb.out) _ _ HE.out) HR.out ?_).mono ?_
            · first | (rw [hc _ _ (by show w.heap.size + 1 < ((w.alloc _).alloc _).heap.size; simp)]; show ((w.alloc _).alloc _).cell? _ = _; simp; done) | (rw [hc _ _ (by show w.heap.size + 1 < ((w.alloc _).alloc _).heap.size; simp)]; show ((w.alloc _).alloc _).cell? _ = _; go_simp; done) | (go_simp; done)
            · rintro r w3 ⟨rfl, hb3⟩
              have Hb3 := Lib.hid hb3; clear hb3
              go_wp2_with fail
              go_ret
              exact ⟨ret_bool HX2.out.symm, (below_two Hb.out).trans (Hb3.out.mono (below_two Hb.out).size)⟩
theorem deep_all : ∀ d, DeepAt d
  | 0 => fun e => nomatch e
  | d + 1 => deep_step d (deep_all d)
end Go.Proofs.YtlghiakckkhekaaDoor
