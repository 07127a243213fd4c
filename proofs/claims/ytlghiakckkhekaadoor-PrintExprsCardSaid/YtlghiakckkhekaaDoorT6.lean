/- The contract of LeftExpr at a copy that is still as it was made. Conditions: both lie in memory as they are told. -/
import Derived.Test.YtlghiakckkhekaaDoorT5
namespace Go.Proofs.YtlghiakckkhekaaDoor
open Go.RowKit

set_option maxHeartbeats 4000000 in
theorem left_step (d : Nat) (ih : LeftAll d) : LeftAll (d + 1) := by
  intro e f B w he hb hal htw hT
  obtain ⟨op, ⟨v, ⟨kd, y, t⟩⟩, sl, ks⟩ := e
  obtain ⟨op', tm', sl', ts⟩ := f
  obtain ⟨p, cap, h1, hm, hs, hk⟩ := he
  obtain ⟨hb1, hbk⟩ := hb
  obtain ⟨e1, e2, hl, hal⟩ := hal
  obtain ⟨a, t1, hBa, ha, hc, hmk, htw⟩ := htw
  have h1' : sl = .slice p ks.length cap := h1
  have t1' : sl' = .slice (some ⟨a, 0, none⟩) ts.length (ts.length + 1) := t1
  have e1' : op = op' := e1
  have e2' : (⟨v, ⟨kd, y, t⟩⟩ : Tm) = tm' := e2
  have hl' : ts.length = ks.length := hl.symm
  clear h1 t1 e1 e2 hl hm hBa
  rw [hl'] at t1'
  subst h1' t1' e1' e2'
  have HMK := Lib.hid (show ExCell w a (ks.length * 6) 99 markTm (.slice none 0 0) by rw [← hl']; exact hmk); clear hmk
  have HKS := Lib.hid (show KSl w d p ks from ⟨hs, hk⟩); clear hs hk
  have HBK := Lib.hid hbk; clear hbk
  have HB1 := Lib.hid (show ks.length ≤ 2199023255552 from hb1); clear hb1
  have HT := Lib.hid hT; clear hT
  have IH := Lib.hid ih; clear ih
  have HL := Lib.hid hl'; clear hl'
  have HAL := Lib.hid hal; clear hal
  have HC := Lib.hid hc; clear hc
  have HTW := Lib.hid htw; clear htw
  have HA := Lib.hid ha; clear ha
  obtain ⟨W, hW⟩ : ∃ W, W = (w.alloc (.cells #[.int .i8 op, .string v, .int .i8 kd, .int .i64 y, .string t, .slice (some ⟨a, 0, none⟩) ks.length (ks.length + 1)] 36)).alloc (.cells #[.int .i8 op, .string v, .int .i8 kd, .int .i64 y, .string t, .slice p ks.length cap] 36) := ⟨_, rfl⟩
  have HBW := Lib.hid (show Below w.heap.size w W by rw [hW]; exact (below_alloc _ _).trans ((below_alloc _ _).mono (by simp)))
  change Calls _ _ #[.agg #[.int .i8 op, .string v, .int .i8 kd, .int .i64 y, .string t, .slice (some ⟨a, 0, none⟩) ks.length (ks.length + 1)], .agg #[.int .i8 op, .string v, .int .i8 kd, .int .i64 y, .string t, .slice p ks.length cap]] w _
  go_enter Tryd.func15, Tryd.ntmps15
  go_wp2_with fail
  rw [← hW]
  clear hW
  refine (lefts d IH.out ks ts a B p cap _ ?_ HBK.out HB1.out HL.out HAL.out (Nat.lt_of_lt_of_le HA.out HBW.out.size) (fun i h => (HC.out i h).up HBW.out HA.out) (HMK.out.up HBW.out HA.out) (fun t ht => (HTW.out t ht).low HBW.out) (HT.out.at HBW.out)).mono ?_
  · obtain ⟨h1, h2⟩ := HKS.out
    exact ⟨h1.imp id fun ⟨a, o, hp, ha, hc⟩ => ⟨a, o, hp, Nat.lt_of_lt_of_le ha HBW.out.size, fun i hi => (hc i hi).up HBW.out ha⟩, fun k hk => ExAt.up HBW.out d k (h2 k hk)⟩
  rintro r w1 ⟨rfl, hb⟩
  have Hb := Lib.hid hb; clear hb
  go_wp2_with fail
  go_ret
  exact ⟨rfl, HBW.out.trans (Hb.out.mono HBW.out.size)⟩
theorem left_all : ∀ d, LeftAll d
  | 0 => fun e => nomatch e
  | d + 1 => left_step d (left_all d)
end Go.Proofs.YtlghiakckkhekaaDoor
