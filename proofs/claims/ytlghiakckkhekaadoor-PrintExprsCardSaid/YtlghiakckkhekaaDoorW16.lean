/- The contracts of the writer's columns, of an atom, and of print.Atom. Conditions: what is held and what is written together take at most 2^47 bytes. -/
import Derived.Test.YtlghiakckkhekaaDoorW15
import Derived.StillTailTactics
namespace Go.Proofs.YtlghiakckkhekaaDoor
open Go.RowKit

theorem wrote_bl (s : ByteArray) : catL [s] = bl s := catL_one s
theorem sepL_le (f : Bool) (l : List (List UInt8)) (k : Nat) : (sepL f (l.take k)).length ≤ (sepL f l).length := by
  induction l generalizing f k with
  | nil => simp [sepL]
  | cons x r ih =>
    cases k with
    | zero => simp [sepL]
    | succ k => have := ih false k; simp [sepL]; omega
theorem sep_next (l : List (List UInt8)) (k : Nat) (h : k < l.length) : sepL true (l.take (k + 1)) = sepL true (l.take k) ++ ((if k = 0 then [40] else [44, 32]) ++ l[k]) := by
  rw [List.take_succ_eq_append_getElem h, sepL_snoc]
  cases k with
  | zero => simp
  | succ k =>
    have : (l.take (k + 1)).isEmpty = false := by
      rw [List.isEmpty_eq_false_iff]; intro e; have := congrArg List.length e; rw [List.length_take, List.length_nil] at this; omega
    simp [this]
set_option maxHeartbeats 2000000 in
/-- columns, its function a closure that captured two variables. -/
theorem pColumns (F : Nat) (hF : ∀ (args : Array Value) (w : World), (callFunc F args).run Tryd.prog w = .ok (.enter F args) w) (c1 c2 : Nat) (b : Nat) (pre : List UInt8) (name : ByteArray) (outs : List (List UInt8)) (w : World)
    (hw : Wr 94 b pre w) (hl : pre.length + (colsL (bl name) outs).length ≤ 140737488355328) (hn : outs.length ≤ 24)
    (hone : ∀ (k : Nat) (h : k < outs.length) (p : List UInt8) (wr : World), Kp b w wr → Wr 94 b p wr → p.length + outs[k].length ≤ 140737488355328 →
      Calls Tryd.prog F #[.int .i64 k, .pointer (some ⟨c1, 0, none⟩), .pointer (some ⟨c2, 0, none⟩)] wr (Wrote b p outs[k] wr)) :
    Calls Tryd.prog 45 #[.pointer (some ⟨b, 0, none⟩), .string name, .int .i64 outs.length, .func (.func F) #[] #[.pointer (some ⟨c1, 0, none⟩), .pointer (some ⟨c2, 0, none⟩)]] w (Wrote b pre (colsL (bl name) outs) w) := by
  have HW := Lib.hid hw
  have hlt := hw.lt; clear hw
  have HONE := Lib.hid hone; clear hone
  have hl2 : pre.length + ((bl name).length + ((sepL true outs).length + (if outs.isEmpty then [] else [41] : List UInt8).length)) ≤ 140737488355328 := by simpa [colsL] using hl
  have HL := Lib.hid hl2; clear hl2 hl
  go_enter Tryd.func45, Tryd.ntmps45
  go_wp2_with fail
  refine (pPut b w.heap.size pre [name] 1 _ (HW.out.alloc _) (by rw [catL_one]; have := HL.out; omega) (by simp) (heap_alloc_new w _) (by omega)).mono ?_
  rintro e w1 ⟨rfl, hw1, hk1⟩
  have H1 := Lib.hid (wr_eq (by rw [catL_one]) hw1); clear hw1
  have HK1 := Lib.hid ((Kp.alloc HW.out _).trans hk1); clear hk1
  have hltb := H1.out.lt
  go_wp2_with fail
  go_loopw [14] (fun i wr => ∃ k : Nat, k ≤ outs.length ∧ i = .int .i64 k ∧ Wr 94 b (pre ++ bl name ++ sepL true (outs.take k)) wr ∧ Kp b w wr) (fun i _ => outs.length - (intOf i).toNat)
  case atStart => exact ⟨0, by omega, rfl, by simpa [sepL] using H1.out, HK1.out⟩
  case round =>
    obtain ⟨k, hk, rfl, hwr, hkp⟩ := hrel
    have HLE := Lib.hid (sepL_le true outs (k + 1))
    have Hr := Lib.hid hwr
    have hltr := hwr.lt; clear hwr
    have Hk := Lib.hid hkp; clear hkp
    by_cases hlk : k < outs.length
    · have hnx := Lib.hid (sep_next outs k hlk)
      by_cases hk0 : k = 0
      · subst hk0
        go_wp2_with fail
        refine (pPut b wr.heap.size _ [⟨#[40]⟩] 1 _ (Hr.out.alloc _) (by rw [catL_one]; have h1 := HL.out; have h2 := HLE.out; rw [hnx.out] at h2; simp [bl, if_true] at h1 h2 ⊢; omega) (by simp) (heap_alloc_new wr _) (by omega)).mono ?_
        rintro e wa ⟨rfl, hwa, hka⟩
        have Ha := Lib.hid (wr_eq (by rw [catL_one]) hwa); clear hwa
        have HKa := Lib.hid ((Kp.alloc Hr.out _).trans hka); clear hka
        go_wp2_with fail
        refine (HONE.out 0 hlk _ _ (Hk.out.trans HKa.out) Ha.out (by have h1 := HL.out; have h2 := HLE.out; rw [hnx.out] at h2; simp [bl, if_true] at h1 h2 ⊢; omega)).mono ?_
        rintro e wb ⟨rfl, hwb, hkb⟩
        have Hb := Lib.hid hwb; clear hwb
        have HKb := Lib.hid hkb; clear hkb
        go_wp2_with fail
        go_roundw
        case rel => exact ⟨0 + 1, by omega, by go_num, wr_eq (by rw [hnx.out]; simp [bl, if_true]) Hb.out, (Hk.out.trans HKa.out).trans HKb.out⟩
        case measure => simp [intOf]; omega
      · have q0 : ((k : Int) == 0) = false := beq_eq_false_iff_ne.2 (by omega)
        have hkz : k ≠ 0 := hk0
        have HZ := Lib.hid hkz; clear hkz hk0
        go_wp2_with fail
        refine (pPut b wr.heap.size _ [⟨#[44, 32]⟩] 1 _ (Hr.out.alloc _) (by rw [catL_one]; have h1 := HL.out; have h2 := HLE.out; rw [hnx.out] at h2; simp [bl, HZ.out] at h1 h2 ⊢; omega) (by simp) (heap_alloc_new wr _) (by omega)).mono ?_
        rintro e wa ⟨rfl, hwa, hka⟩
        have Ha := Lib.hid (wr_eq (by rw [catL_one]) hwa); clear hwa
        have HKa := Lib.hid ((Kp.alloc Hr.out _).trans hka); clear hka
        go_wp2_with fail
        refine (HONE.out k hlk _ _ (Hk.out.trans HKa.out) Ha.out (by have h1 := HL.out; have h2 := HLE.out; rw [hnx.out] at h2; simp [bl, HZ.out] at h1 h2 ⊢; omega)).mono ?_
        rintro e wb ⟨rfl, hwb, hkb⟩
        have Hb := Lib.hid hwb; clear hwb
        have HKb := Lib.hid hkb; clear hkb
        go_wp2_with fail
        go_roundw
        case rel => exact ⟨k + 1, by omega, by go_num, wr_eq (by rw [hnx.out]; simp [bl, HZ.out]) Hb.out, (Hk.out.trans HKa.out).trans HKb.out⟩
        case measure => simp [intOf]; omega
    · obtain rfl : k = outs.length := by omega
      have hta := Lib.hid (show outs.take outs.length = outs from List.take_of_length_le (Nat.le_refl _))
      by_cases h0 : outs.length = 0
      · have q0 : decide (0 < outs.length) = false := decide_eq_false (by omega)
        have HE := Lib.hid (show outs = [] from List.eq_nil_of_length_eq_zero h0)
        clear h0
        go_wp2_with fail
        go_end0
        exact ⟨rfl, wr_eq (by rw [hta.out, HE.out]; simp [colsL, sepL]) Hr.out, Hk.out⟩
      · have q0 : decide (0 < outs.length) = true := decide_eq_true (by omega)
        have HE := Lib.hid (show outs.isEmpty = false by cases outs; exact absurd rfl h0; rfl)
        clear h0
        go_wp2_with fail
        refine (pPut b wr.heap.size _ [⟨#[41]⟩] 1 _ (Hr.out.alloc _) (by rw [catL_one, hta.out]; have h1 := HL.out; rw [HE.out] at h1; simp [bl] at h1 ⊢; omega) (by simp) (heap_alloc_new wr _) (by omega)).mono ?_
        rintro e wa ⟨rfl, hwa, hka⟩
        have Ha := Lib.hid (wr_eq (by rw [catL_one]) hwa); clear hwa
        have HKa := Lib.hid ((Kp.alloc Hr.out _).trans hka); clear hka
        go_wp2_with fail
        go_end0
        exact ⟨rfl, wr_eq (by rw [hta.out, colsL, HE.out]; simp [bl]) Ha.out, Hk.out.trans HKa.out⟩
theorem Wr.drew {T b : Nat} {l : List UInt8} {w : World} (h : Wr T b l w) : Wr T b l w.drew := h
/-- The texts of terms. -/
def termTs (ts : List Tm) : List (List UInt8) := ts.map termL
def atomL (p : ByteArray) (ts : List Tm) : List UInt8 := colsL (bl p) (termTs ts)
set_option maxHeartbeats 1000000 in
set_option maxRecDepth 100000 in
theorem pAtomCol (c1 c2 b i : Nat) (pre : List UInt8) (p : ByteArray) (sv : Value) (ts : List Tm) (wr : World) (hi : i < ts.length) (hw : Wr 94 b pre wr) (hT : Tabs wr)
    (h1 : wr.cell? ⟨c1, 0, none⟩ = some (.pointer (some ⟨b, 0, none⟩))) (h2 : wr.cell? ⟨c2, 1, none⟩ = some sv) (hts : TmSl wr sv ts) (hr : TmsR ts) (hl : pre.length + (termL ts[i]).length ≤ 140737488355328) :
    Calls Tryd.prog 106 #[.int .i64 i, .pointer (some ⟨c1, 0, none⟩), .pointer (some ⟨c2, 0, none⟩)] wr (Wrote b pre (termL ts[i]) wr) := by
  obtain ⟨q, cap, rfl, hm, h⟩ := hts
  rcases h with h | ⟨a, o, rfl, h⟩
  · omega
  · have hc := h.at_ i hi
    have hvr := Lib.hid (hr ts[i] (List.getElem_mem hi))
    obtain ⟨tk, htk⟩ : ∃ tk, tk = ts[i] := ⟨_, rfl⟩
    rw [← htk] at hc hvr hl ⊢
    clear htk
    obtain ⟨v, x, n, t⟩ := tk
    have HW := Lib.hid hw; clear hw
    have HT := Lib.hid hT; clear hT
    obtain ⟨c0, c1', c2', c3⟩ := hc
    go_enter Tryd.func106, Tryd.ntmps106
    go_wp2_with fail
    go_still_tail 6, (by kernel_rfl)
    change wpList _ _ _ _ _ wr.drew
    have HWd := Lib.hid (Wr.drew HW.out)
    have HTd := Lib.hid (HT.out.up ((Below.refl _ wr).drew) HT.out.size)
    have HKd := Lib.hid (Kp.of_below HW.out.lt ((Below.refl _ wr).drew))
    clear h1 h2 c0 c1' c2' c3 h
    obtain ⟨wd, hwd⟩ : ∃ wd, wd = wr.drew := ⟨_, rfl⟩
    rw [← hwd] at HWd HTd HKd ⊢
    clear hwd
    go_wp2_with fail
    refine (pTerm b pre v x n t _ hvr.out HTd.out HWd.out hl).mono ?_
    rintro e w1 ⟨rfl, hw1, hk1⟩
    have H1 := Lib.hid hw1; clear hw1
    have HK1 := Lib.hid hk1; clear hk1
    go_wp2_with fail
    go_end0
    exact ⟨rfl, H1.out, HKd.out.trans HK1.out⟩
end Go.Proofs.YtlghiakckkhekaaDoor
