/- The contracts of the reference's Expr. Conditions: each part says its own. -/
import Derived.Test.YtafjjececdhmjaaGreatNME
import Derived.StillTailTactics
import Derived.Deep.RegionHeld3
import Derived.Deep.Cut
import Derived.Deep.CutRange
import Derived.BigQuiet
/- The contracts of the reference's Fast, sign, word and within. Conditions: the operation is one; the expression lies in memory as it is told. -/
namespace Go.Proofs.YtafjjececdhmjaaGreat
open Go.RowKit

theorem ops11 {op : Int} (h0 : 0 ≤ op) (h1 : op ≤ 10) : op = 0 ∨ op = 1 ∨ op = 2 ∨ op = 3 ∨ op = 4 ∨ op = 5 ∨ op = 6 ∨ op = 7 ∨ op = 8 ∨ op = 9 ∨ op = 10 := by omega
theorem bl_cat (a b : ByteArray) : bl (a ++ b) = bl a ++ bl b := by simp [bl]
theorem exprL_b {n d : Nat} {e : Ex d} (hn : n ≤ 8) (h : exOk n d e = true) (hr : ExR d e) : (exprL d e).length ≤ 207352 := by
  have h1 := exprL_le n d e h hr
  have h2 : 2 ^ n ≤ 2 ^ 8 := Nat.pow_le_pow_right (by omega) hn
  omega
end Go.Proofs.YtafjjececdhmjaaGreat

/- The contract of the reference's expr, by its cases: a term, a word, a minus. Conditions: the expression lies in memory as it is told. -/
namespace Go.Proofs.YtafjjececdhmjaaGreat
open Go.RowKit

end Go.Proofs.YtafjjececdhmjaaGreat

/- The contract of the reference's expr at a minus. Conditions: the expression lies in memory as it is told. -/
namespace Go.Proofs.YtafjjececdhmjaaGreat
open Go.RowKit

theorem Below.here {w w' : World} {B : Nat} {W : World} (h : Below w.heap.size w w') (hs : w.heap.size = B) (hh : ∀ k, k < B → w.heap[k]? = W.heap[k]?) (h1 : w.os = W.os) (h2 : w.tape = W.tape) (h3 : w.output = W.output) (h4 : W.heap.size ≤ w.heap.size) : Below B W w' :=
  ⟨h.os.trans h1, h.tape.trans h2, h.output.trans h3, Nat.le_trans h4 h.size, fun k hk => (h.block k (by omega)).trans (hh k hk)⟩
end Go.Proofs.YtafjjececdhmjaaGreat

/- The contract of the reference's expr at two sides. Conditions: the expression lies in memory as it is told. -/
namespace Go.Proofs.YtafjjececdhmjaaGreat
open Go.RowKit

/-- Two boxes behind what was there. -/
def TwoBox (W : World) (o1 : Int) (m1 : Tm) (v1 : Value) (o2 : Int) (m2 : Tm) (v2 : Value) (t5 t6 : Value) (wx : World) : Prop :=
  ∃ b5 b6, t5 = .pointer (some ⟨b5, 0, none⟩) ∧ t6 = .pointer (some ⟨b6, 0, none⟩) ∧ Below W.heap.size W wx ∧ b5 < wx.heap.size ∧ b6 < wx.heap.size ∧ ExCell wx b5 0 o1 m1 v1 ∧ ExCell wx b6 0 o2 m2 v2
theorem ex_of_six {w : World} {b : Nat} {o1 : Int} {m1 : Tm} {v1 : Value} {t : TypeId} {fz : Nat × Nat} (h : w.heap[b]? = some (.cells #[.int .i8 o1, .string m1.v, .int .i8 m1.x.k, .int .i64 m1.x.n, .string m1.x.t, v1] t fz)) : ExCell w b 0 o1 m1 v1 := by
  obtain ⟨a0, a1, a2, a3, a4, a5⟩ := six h
  exact ⟨a0, a1, a2, a3, a4, a5⟩
theorem new1 (w : World) (a b : Obj) : ((w.alloc a).alloc b).heap[w.heap.size + 1]? = some b := by
  have h := heap_alloc_new (w.alloc a) b
  rwa [show (w.alloc a).heap.size = w.heap.size + 1 by simp] at h
theorem two_ef (W : World) (o1 : Int) (m1 : Tm) (v1 : Value) (o2 : Int) (m2 : Tm) (v2 : Value) : TwoBox W o1 m1 v1 o2 m2 v2 (.pointer (some ⟨W.heap.size, 0, none⟩)) (.pointer (some ⟨W.heap.size + 1, 0, none⟩))
    ((W.alloc (.cells #[.int .i8 o1, .string m1.v, .int .i8 m1.x.k, .int .i64 m1.x.n, .string m1.x.t, v1] 112)).alloc (.cells #[.int .i8 o2, .string m2.v, .int .i8 m2.x.k, .int .i64 m2.x.n, .string m2.x.t, v2] 112)).drew :=
  ⟨W.heap.size, W.heap.size + 1, rfl, rfl, ((below_alloc _ _).trans ((below_alloc _ _).mono (by simp))).drew, by show _ < ((W.alloc _).alloc _).heap.size; simp; omega, by show _ < ((W.alloc _).alloc _).heap.size; simp,
    ex_of_six (t := 112) (fz := (0, 0)) ((Lib.alloc_old _ _ _ (by simp)).trans (heap_alloc_new W _)), ex_of_six (t := 112) (fz := (0, 0)) (new1 W _ _)⟩
theorem two_fe (W : World) (o1 : Int) (m1 : Tm) (v1 : Value) (o2 : Int) (m2 : Tm) (v2 : Value) : TwoBox W o1 m1 v1 o2 m2 v2 (.pointer (some ⟨W.heap.size + 1, 0, none⟩)) (.pointer (some ⟨W.heap.size, 0, none⟩))
    ((W.alloc (.cells #[.int .i8 o2, .string m2.v, .int .i8 m2.x.k, .int .i64 m2.x.n, .string m2.x.t, v2] 112)).alloc (.cells #[.int .i8 o1, .string m1.v, .int .i8 m1.x.k, .int .i64 m1.x.n, .string m1.x.t, v1] 112)).drew :=
  ⟨W.heap.size + 1, W.heap.size, rfl, rfl, ((below_alloc _ _).trans ((below_alloc _ _).mono (by simp))).drew, by show _ < ((W.alloc _).alloc _).heap.size; simp, by show _ < ((W.alloc _).alloc _).heap.size; simp; omega,
    ex_of_six (t := 112) (fz := (0, 0)) (new1 W _ _), ex_of_six (t := 112) (fz := (0, 0)) ((Lib.alloc_old _ _ _ (by simp)).trans (heap_alloc_new W _))⟩
end Go.Proofs.YtafjjececdhmjaaGreat

/- The contracts of the reference's check of expressions. Conditions: the expression lies in memory as it is told; a text is no longer than the model lets any be. -/
namespace Go.Proofs.YtafjjececdhmjaaGreat
open Go.RowKit

theorem tm_ne0 (v : ByteArray) (k n : Int) (t : ByteArray) (w : World) :
    (binOp .neq 93 (.agg #[.string v, .int .i8 k, .int .i64 n, .string t]) (.agg #[.string ⟨#[]⟩, .int .i8 0, .int .i64 0, .string ⟨#[]⟩])).run Tryz.prog w = .ok (.bool (!tmZero ⟨v, ⟨k, n, t⟩⟩)) w := by
  by_cases hv : v.toList = []
  · by_cases hk : k = 0
    · by_cases hn : n = 0
      · subst hk; subst hn
        go_simp
        by_cases ht : t.toList = [] <;> simp [tmZero, vlZero, bl, ← ByteArray.toList_eq, ht, hv]
      · subst hk
        go_simp
        simp [tmZero, vlZero, hn]
    · go_simp
      simp [tmZero, vlZero, hk]
  · go_simp
    simp [tmZero, bl, ← ByteArray.toList_eq, hv]
/-- What the reference's expr is known to say of expressions of a depth up to d. -/
def ChkAt (d : Nat) : Prop := ∀ (e : Ex d) (n : Nat) (x : Int) (w : World), n ≤ 8 → x = n → ExAt w d e → ExR d e →
  Calls Tryz.prog 94 #[.agg #[.int .i8 (exOp d e), .string (exTm d e).v, .int .i8 (exTm d e).x.k, .int .i64 (exTm d e).x.n, .string (exTm d e).x.t, exSl d e], .int .i64 x] w fun r w' =>
    r = .returned (.bool (exOk n d e)) ∧ Below w.heap.size w w'
theorem all_no {α : Type} (p : α → Bool) (l : List α) (k : Nat) (h : k < l.length) (hp : p l[k] = false) : l.all p = false := by
  rw [List.all_eq_false]
  exact ⟨l[k], List.getElem_mem h, by simp [hp]⟩
theorem all_yes {α : Type} (p : α → Bool) (l : List α) (h : ∀ j, (hj : j < l.length) → p l[j] = true) : l.all p = true := by
  rw [List.all_eq_true]
  intro x hx
  obtain ⟨j, hj, rfl⟩ := List.mem_iff_getElem.1 hx
  exact h j hj
set_option maxHeartbeats 2000000 in
theorem cZero (v : ByteArray) (op k y : Int) (t : ByteArray) (p : Option Addr) (l c : Nat) (w : World) :
    Calls Tryz.prog 94 #[.agg #[.int .i8 op, .string v, .int .i8 k, .int .i64 y, .string t, .slice p l c], .int .i64 0] w fun r w' => r = .returned (.bool false) ∧ Below w.heap.size w w' := by
  go_enter Tryz.func94, Tryz.ntmps94
  go_wp2_with fail
  go_ret
  exact ⟨rfl, below_alloc _ _⟩
set_option maxHeartbeats 2000000 in
theorem cLeaf (v : ByteArray) (k y x : Int) (t : ByteArray) (p : Option Addr) (l c : Nat) (w : World) (hx : 1 ≤ x) (hl : l ≤ maxLen) (hv : v.size ≤ maxLen) :
    Calls Tryz.prog 94 #[.agg #[.int .i8 0, .string v, .int .i8 k, .int .i64 y, .string t, .slice p l c], .int .i64 x] w fun r w' =>
      r = .returned (.bool (decide (l = 0) && solidB ⟨v, ⟨k, y, t⟩⟩)) ∧ Below w.heap.size w w' := by
  have qx : (x == 0) = false := beq_eq_false_iff_ne.2 (by omega)
  clear hx
  by_cases h0 : l = 0
  · subst h0
    by_cases h95 : v.toList = [95]
    · have HE := Lib.hid (show (decide (0 = 0) && solidB ⟨v, ⟨k, y, t⟩⟩) = false by simp [solidB, bl, ← ByteArray.toList_eq, h95])
      have q : (v.toList == [95]) = true := by simp [h95]
      clear h95
      go_enter Tryz.func94, Tryz.ntmps94
      go_wp2_with fail
      go_ret
      exact ⟨ret_bool HE.out.symm, below_alloc _ _⟩
    · have HE := Lib.hid (show (decide (0 = 0) && solidB ⟨v, ⟨k, y, t⟩⟩) = tmOk ⟨v, ⟨k, y, t⟩⟩ by simp [solidB, bl, ← ByteArray.toList_eq, h95])
      have q : (v.toList == [95]) = false := by simpa using h95
      clear h95
      obtain ⟨z, hz⟩ : ∃ z, z = tmOk ⟨v, ⟨k, y, t⟩⟩ := ⟨_, rfl⟩
      have HZ := Lib.hid hz; clear hz
      go_enter Tryz.func94, Tryz.ntmps94
      go_wp2_with fail
      refine (rterm v k y t _ hv).mono ?_
      rintro r w1 ⟨rfl, hb⟩
      have Hb := Lib.hid hb; clear hb
      rw [← HZ.out]
      go_wp2_with fail
      go_ret
      exact ⟨ret_bool (by rw [HE.out, ← HZ.out]), (below_alloc _ _).trans (Hb.out.mono (by simp))⟩
  · have HE := Lib.hid (show (decide (l = 0) && solidB ⟨v, ⟨k, y, t⟩⟩) = false by simp [h0])
    have q : ((l : Int) == 0) = false := beq_eq_false_iff_ne.2 (by omega)
    clear h0
    go_enter Tryz.func94, Tryz.ntmps94
    go_wp2_with fail
    go_ret
    exact ⟨ret_bool HE.out.symm, below_alloc _ _⟩
set_option maxHeartbeats 4000000 in
theorem cNot (v : ByteArray) (op k y x : Int) (t : ByteArray) (p : Option Addr) (l c : Nat) (w : World) (hx : 1 ≤ x) (h0 : op ≠ 0) (hn : tmZero ⟨v, ⟨k, y, t⟩⟩ = false ∨ (l : Int) ≠ arityI op) :
    Calls Tryz.prog 94 #[.agg #[.int .i8 op, .string v, .int .i8 k, .int .i64 y, .string t, .slice p l c], .int .i64 x] w fun r w' => r = .returned (.bool false) ∧ Below w.heap.size w w' := by
  have qx : (x == 0) = false := beq_eq_false_iff_ne.2 (by omega)
  have q0 : (op == 0) = false := beq_eq_false_iff_ne.2 h0
  clear hx h0
  have hq : ∀ w, _ := fun w => tm_ne0 v k y t w
  rcases hz : tmZero ⟨v, ⟨k, y, t⟩⟩ with _ | _
  · rw [hz] at hq
    clear hn hz
    go_enter Tryz.func94, Tryz.ntmps94
    go_wp2_with fail
    go_quiet (fail)
    go_wp2_with fail
    go_ret
    exact ⟨rfl, below_drewN ((below_alloc _ _).trans ((below_alloc _ _).mono (by simp))) _⟩
  · rw [hz] at hq
    rw [hz] at hn
    have qa : ((l : Int) == arityI op) = false := beq_eq_false_iff_ne.2 (by simpa using hn)
    clear hn hz
    go_enter Tryz.func94, Tryz.ntmps94
    go_wp2_with fail
    go_quiet ((go_at_call 116; exact Calls.quiet_of_same ((rKids _ _).mono fun e w1 h => ⟨h.1, h.2.symm⟩)))
    go_wp2_with fail
    go_ret
    exact ⟨rfl, below_drewN ((below_alloc _ _).trans ((below_alloc _ _).mono (by simp))) _⟩
set_option maxHeartbeats 4000000 in
theorem cKids (d : Nat) (ih : ChkAt d) (n a o cap : Nat) (ks : List (Ex d)) (v : ByteArray) (op k y x : Int) (t : ByteArray) (w : World) (hn : n + 1 ≤ 8) (hx : x = (n + 1 : Nat)) (h0 : op ≠ 0) (hz : tmZero ⟨v, ⟨k, y, t⟩⟩ = true) (hlen : (ks.length : Int) = arityI op)
    (ha : a < w.heap.size) (hts : ∀ i, (h : i < ks.length) → ExCell w a (o + i * 6) (exOp d ks[i]) (exTm d ks[i]) (exSl d ks[i])) (hk : ∀ e ∈ ks, ExAt w d e) (hr : ∀ e ∈ ks, ExR d e) :
    Calls Tryz.prog 94 #[.agg #[.int .i8 op, .string v, .int .i8 k, .int .i64 y, .string t, .slice (some ⟨a, o, none⟩) ks.length cap], .int .i64 x] w fun r w' => r = .returned (.bool (ks.all (exOk n d))) ∧ Below w.heap.size w w' := by
  have hl2 : ks.length ≤ 2 := by
    have : arityI op ≤ 2 := by
      unfold arityI
      split
      · omega
      · split <;> omega
    omega
  have qx : (x == 0) = false := beq_eq_false_iff_ne.2 (by omega)
  have q0 : (op == 0) = false := beq_eq_false_iff_ne.2 h0
  have qa : ((ks.length : Int) == arityI op) = true := beq_iff_eq.2 hlen
  have HQNE := Lib.hid (show ((ks.length : Int) != arityI op) = false by simp [bne, qa])
  have HLEN := Lib.hid hlen
  clear h0 hlen
  have hq : ∀ w, _ := fun w => tm_ne0 v k y t w
  rw [hz] at hq
  clear hz
  have HX := Lib.hid hx
  have hx1 : 1 ≤ x := by omega
  have hx8 : x ≤ 8 := by omega
  clear hx
  have IH := Lib.hid ih; clear ih
  have HTS := Lib.hid hts; clear hts
  have HA := Lib.hid hk; clear hk
  have HR := Lib.hid hr; clear hr
  obtain ⟨W, hW⟩ : ∃ W, W = (w.alloc (.cells #[.int .i8 op, .string v, .int .i8 k, .int .i64 y, .string t, .slice (some ⟨a, o, none⟩) ks.length cap] 112)).alloc (.cells #[.string ⟨#[]⟩, .int .i8 0, .int .i64 0, .string ⟨#[]⟩] 93) := ⟨_, rfl⟩
  have HBW := Lib.hid (show Below w.heap.size w W by rw [hW]; exact (below_alloc _ _).trans ((below_alloc _ _).mono (by simp)))
  have hsW : W.heap.size = w.heap.size + 1 + 1 := by rw [hW]; simp
  have HBX := Lib.hid (show W.heap[w.heap.size]? = some (.cells #[.int .i8 op, .string v, .int .i8 k, .int .i64 y, .string t, .slice (some ⟨a, o, none⟩) ks.length cap] 112 (0, 0)) by rw [hW, Lib.alloc_old _ _ _ (by simp)]; exact heap_alloc_new w _)
  have haW : a < W.heap.size := by omega
  go_enter Tryz.func94, Tryz.ntmps94
  go_wp2_with fail
  go_quiet ((go_at_call 116; exact Calls.quiet_of_same ((rKids _ _).mono fun e w1 h => ⟨h.1, h.2.symm⟩)))
  go_wp2_with fail
  rw [← hW]
  clear hW
  have HB0 := Lib.hid (below_drewN (Below.refl W.heap.size W) nq)
  obtain ⟨wq, hwq⟩ : ∃ wq, wq = W.drewN nq := ⟨_, rfl⟩
  rw [← hwq] at HB0 ⊢
  clear hwq
  rw [HQNE.out]
  go_loopw [6] (fun i wr => ∃ j : Nat, j ≤ ks.length ∧ i = .int .i64 j ∧ (∀ m, (h : m < ks.length) → m < j → exOk n d ks[m] = true) ∧ Below W.heap.size W wr) (fun i _ => ks.length - (intOf i).toNat)
  case atStart => exact ⟨0, by omega, rfl, fun m _ h => by omega, HB0.out⟩
  case round =>
    obtain ⟨j, hj, rfl, hok, hb⟩ := hrel
    have Hok := Lib.hid hok; clear hok
    have Hb := Lib.hid hb; clear hb
    obtain ⟨x0, x1, x2, x3, x4, x5⟩ := six ((Hb.out.block w.heap.size (by omega)).trans HBX.out)
    by_cases hlt : j < ks.length
    · have hcs := (HTS.out j hlt).up (HBW.out.trans (Hb.out.mono (by omega))) ha
      have HE := Lib.hid (ExAt.up (HBW.out.trans (Hb.out.mono (by omega))) d _ (HA.out ks[j] (List.getElem_mem hlt)))
      have HRk := Lib.hid (HR.out ks[j] (List.getElem_mem hlt))
      obtain ⟨tk, htk⟩ : ∃ tk, tk = ks[j] := ⟨_, rfl⟩
      rw [← htk] at hcs HE HRk
      have HTK := Lib.hid htk; clear htk
      obtain ⟨c0, c1, c2, c3, c4, c5⟩ := hcs
      rcases hv : exOk n d tk with _ | _
      all_goals have HV := Lib.hid hv
      all_goals clear hv
      · go_wp2_with fail
        refine (IH.out tk n (x - 1) _ (by omega) (by have := HX.out; omega) HE.out HRk.out).mono ?_
        rintro e w1 ⟨rfl, hb1⟩
        rw [HV.out]
        have Hb1 := Lib.hid hb1; clear hb1
        go_wp2_with fail
        go_ret
        exact ⟨ret_bool (all_no _ ks j hlt (by rw [← HTK.out]; exact HV.out)).symm, HBW.out.trans ((Hb.out.trans (Hb1.out.mono Hb.out.size)).mono (by omega))⟩
      · go_wp2_with fail
        refine (IH.out tk n (x - 1) _ (by omega) (by have := HX.out; omega) HE.out HRk.out).mono ?_
        rintro e w1 ⟨rfl, hb1⟩
        rw [HV.out]
        have Hb1 := Lib.hid hb1; clear hb1
        go_wp2_with fail
        go_roundw
        case rel => exact ⟨j + 1, by omega, by go_num, fun m hm hmj => by
                      by_cases e : m = j
                      · subst e; rw [← HTK.out]; exact HV.out
                      · exact Hok.out m hm (by omega), Hb.out.trans (Hb1.out.mono Hb.out.size)⟩
        case measure => simp [intOf]; omega
    · go_wp2_with fail
      go_ret
      exact ⟨ret_bool (all_yes _ ks (fun m hm => Hok.out m hm (by omega))).symm, HBW.out.trans (Hb.out.mono (by omega))⟩
theorem chk_step (d : Nat) (ih : ChkAt d) : ChkAt (d + 1) := by
  intro e n x w hn hx he hr
  obtain ⟨op, tm, sl, ks⟩ := e
  obtain ⟨p, cap, h1, hm, hs, hk⟩ := he
  obtain ⟨_, htr, hrk⟩ := hr
  have h1' : sl = .slice p ks.length cap := h1
  clear h1
  subst h1'
  obtain ⟨v, ⟨kd, y, t⟩⟩ := tm
  cases n with
  | zero =>
    subst hx
    exact cZero v op kd y t p _ cap w
  | succ n =>
    by_cases h0 : op = 0
    · subst h0
      refine (cLeaf v kd y x t p ks.length cap w (by omega) hm htr.v0).mono ?_
      rintro r w1 ⟨rfl, hb⟩
      refine ⟨ret_bool ?_, hb⟩
      show (decide (ks.length = 0) && solidB ⟨v, ⟨kd, y, t⟩⟩) = (if (0 : Int) = 0 then ks.isEmpty && solidB ⟨v, ⟨kd, y, t⟩⟩ else _)
      rw [if_pos rfl]
      cases ks <;> simp
    · have hE : exOk (n + 1) (d + 1) (op, ⟨v, ⟨kd, y, t⟩⟩, .slice p ks.length cap, ks) = (tmZero ⟨v, ⟨kd, y, t⟩⟩ && decide ((ks.length : Int) = arityI op) && ks.all (exOk n d)) := by
        show (if op = 0 then _ else _) = _
        rw [if_neg h0]
      by_cases hz : tmZero ⟨v, ⟨kd, y, t⟩⟩ = true ∧ (ks.length : Int) = arityI op
      · rcases hs with hs | ⟨a, o, hp, ha, hc⟩
        · exfalso
          have h3 := hz.2
          have hs' : ks.length = 0 := hs
          rw [hs'] at h3
          have h4 := arity_one h3
          omega
        · have hp' : p = some ⟨a, o, none⟩ := hp
          subst hp'
          refine (cKids d ih n a o cap ks v op kd y x t w hn hx h0 hz.1 hz.2 ha hc hk hrk).mono ?_
          rintro r w1 ⟨rfl, hb⟩
          refine ⟨ret_bool ?_, hb⟩
          rw [hE, hz.1, decide_eq_true hz.2]
          simp
      · refine (cNot v op kd y x t p ks.length cap w (by omega) h0 ?_).mono ?_
        · by_cases h1 : tmZero ⟨v, ⟨kd, y, t⟩⟩ = true
          · exact .inr fun h2 => hz ⟨h1, h2⟩
          · exact .inl (by simpa using h1)
        · rintro r w1 ⟨rfl, hb⟩
          refine ⟨ret_bool ?_, hb⟩
          rw [hE]
          by_cases h1 : tmZero ⟨v, ⟨kd, y, t⟩⟩ = true
          · have h2 : ¬ (ks.length : Int) = arityI op := fun h2 => hz ⟨h1, h2⟩
            simp [h2]
          · simp [h1]
theorem chk_all : ∀ d, ChkAt d
  | 0 => fun e => nomatch e
  | d + 1 => chk_step d (chk_all d)
end Go.Proofs.YtafjjececdhmjaaGreat

/- The contract of the reference's Expr. Conditions: the expression lies in memory as it is told. -/
namespace Go.Proofs.YtafjjececdhmjaaGreat
open Go.RowKit

end Go.Proofs.YtafjjececdhmjaaGreat
