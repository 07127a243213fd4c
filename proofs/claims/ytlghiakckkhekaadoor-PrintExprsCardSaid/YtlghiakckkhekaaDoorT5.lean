/- The contracts of LeftExprs and LeftExpr at a copy that is still as it was made. Conditions: both lie in memory as they are told. -/
import Derived.Test.YtlghiakckkhekaaDoorT4
import Derived.Deep.RegionHeld3
namespace Go.Proofs.YtlghiakckkhekaaDoor
open Go.RowKit

def LeftAll (d : Nat) : Prop := ∀ (e f : Ex d) (B : Nat) (w : World), ExAt w d e → ExB d e → Alike d e f → TwAt w B d f → Tabs w →
  Calls Tryd.prog 15 #[.agg #[.int .i8 (exOp d f), .string (exTm d f).v, .int .i8 (exTm d f).x.k, .int .i64 (exTm d f).x.n, .string (exTm d f).x.t, exSl d f],
    .agg #[.int .i8 (exOp d e), .string (exTm d e).v, .int .i8 (exTm d e).x.k, .int .i64 (exTm d e).x.n, .string (exTm d e).x.t, exSl d e]] w fun r w' => r = .returned (.bool true) ∧ Below w.heap.size w w'
theorem TwAt.low {w w' : World} {B : Nat} {d : Nat} {e : Ex d} (h : TwAt w B d e) (hb : Below w.heap.size w w') : TwAt w' B d e := h.up (Nat.le_refl _) hb.size (fun k _ hk => hb.block k hk)
set_option maxHeartbeats 4000000 in
theorem lefts (d : Nat) (ih : LeftAll d) (ks ts : List (Ex d)) (a B : Nat) (p : Option Addr) (cap : Nat) (w : World) (hs : KSl w d p ks) (hb : ∀ k ∈ ks, ExB d k) (hn : ks.length ≤ 2199023255552) (hl : ts.length = ks.length)
    (hal : ∀ i, (h : i < ks.length) → (h' : i < ts.length) → Alike d ks[i] ts[i]) (ha : a < w.heap.size) (hc : ∀ i, (h : i < ts.length) → ExCell w a (i * 6) (exOp d ts[i]) (exTm d ts[i]) (exSl d ts[i]))
    (hm : ExCell w a (ks.length * 6) 99 markTm (.slice none 0 0)) (htw : ∀ t ∈ ts, TwAt w B d t) (hT : Tabs w) :
    Calls Tryd.prog 39 #[.slice (some ⟨a, 0, none⟩) ks.length (ks.length + 1), .slice p ks.length cap] w fun r w' => r = .returned (.bool true) ∧ Below w.heap.size w w' := by
  have IH := Lib.hid ih; clear ih
  have HS := Lib.hid hs; clear hs
  have HBk := Lib.hid hb; clear hb
  have HAL := Lib.hid hal; clear hal
  have HC := Lib.hid hc; clear hc
  have HM := Lib.hid hm; clear hm
  have HTW := Lib.hid htw; clear htw
  have HT := Lib.hid hT; clear hT
  have HL := Lib.hid hl; clear hl
  go_enter Tryd.func39, Tryd.ntmps39
  go_wp2_with fail
  go_loopw [5] (fun i wr => ∃ j : Nat, j ≤ ks.length ∧ i = .int .i64 j ∧ Below w.heap.size w wr) (fun i _ => ks.length - (intOf i).toNat)
  case atStart => exact ⟨0, by omega, rfl, Below.refl _ _⟩
  case round =>
    obtain ⟨j, hj, rfl, hbe⟩ := hrel
    have HBE := Lib.hid hbe; clear hbe
    have har : a < wr.heap.size := Nat.lt_of_lt_of_le ha HBE.out.size
    by_cases hlt : j < ks.length
    · rcases HS.out.1 with h0 | ⟨b, o, hp, hb, hc⟩
      · omega
      subst hp
      have hbr : b < wr.heap.size := Nat.lt_of_lt_of_le hb HBE.out.size
      have hlt' : j < ts.length := by have := HL.out; omega
      have hck := (hc j hlt).up HBE.out hb
      have hct := (HC.out j hlt').up HBE.out ha
      clear hc
      have HE := Lib.hid (ExAt.up HBE.out d _ (HS.out.2 ks[j] (List.getElem_mem hlt)))
      have HB1 := Lib.hid (HBk.out ks[j] (List.getElem_mem hlt))
      have HAk := Lib.hid (HAL.out j hlt hlt')
      have HTk := Lib.hid ((HTW.out ts[j] (List.getElem_mem hlt')).low HBE.out)
      obtain ⟨x, hx⟩ : ∃ x, x = ks[j] := ⟨_, rfl⟩
      obtain ⟨y, hy⟩ : ∃ y, y = ts[j] := ⟨_, rfl⟩
      rw [← hx] at hck HE HB1 HAk
      rw [← hy] at hct HAk HTk
      clear hx hy
      obtain ⟨c0, c1, c2, c3, c4, c5⟩ := hck
      obtain ⟨d0, d1, d2, d3, d4, d5⟩ := hct
      go_wp2_with fail
      go_region_held3 (fun w' => w'.cell? ⟨a, j * 6, none⟩ = wr.cell? ⟨a, j * 6, none⟩ ∧ w'.cell? ⟨a, j * 6 + 1, none⟩ = wr.cell? ⟨a, j * 6 + 1, none⟩ ∧ w'.cell? ⟨a, j * 6 + 2, none⟩ = wr.cell? ⟨a, j * 6 + 2, none⟩ ∧ w'.cell? ⟨a, j * 6 + 3, none⟩ = wr.cell? ⟨a, j * 6 + 3, none⟩ ∧ w'.cell? ⟨a, j * 6 + 4, none⟩ = wr.cell? ⟨a, j * 6 + 4, none⟩ ∧ w'.cell? ⟨a, j * 6 + 5, none⟩ = wr.cell? ⟨a, j * 6 + 5, none⟩ ∧ w'.cell? ⟨b, o + j * 6, none⟩ = wr.cell? ⟨b, o + j * 6, none⟩ ∧ w'.cell? ⟨b, o + j * 6 + 1, none⟩ = wr.cell? ⟨b, o + j * 6 + 1, none⟩ ∧ w'.cell? ⟨b, o + j * 6 + 2, none⟩ = wr.cell? ⟨b, o + j * 6 + 2, none⟩ ∧ w'.cell? ⟨b, o + j * 6 + 3, none⟩ = wr.cell? ⟨b, o + j * 6 + 3, none⟩ ∧ w'.cell? ⟨b, o + j * 6 + 4, none⟩ = wr.cell? ⟨b, o + j * 6 + 4, none⟩ ∧ w'.cell? ⟨b, o + j * 6 + 5, none⟩ = wr.cell? ⟨b, o + j * 6 + 5, none⟩)
        (first | exact ⟨rfl, rfl, rfl, rfl, rfl, rfl, rfl, rfl, rfl, rfl, rfl, rfl⟩ | exact ⟨Hb.out.cell har, Hb.out.cell har, Hb.out.cell har, Hb.out.cell har, Hb.out.cell har, Hb.out.cell har, Hb.out.cell hbr, Hb.out.cell hbr, Hb.out.cell hbr, Hb.out.cell hbr, Hb.out.cell hbr, Hb.out.cell hbr⟩)
        (first
          | (go_at_call 15
             refine (IH.out x y B _ ?_ HB1.out HAk.out ?_ ?_).mono ?_
             · exact ExAt.up (Below.refl _ wr).drew d _ HE.out
             · exact HTk.out.low (Below.refl _ wr).drew
             · exact HT.out.at HBE.out.drew
             rintro r w1 ⟨rfl, hb⟩
             have Hb := Lib.hid (show Below wr.heap.size wr w1 from ⟨hb.os, hb.tape, hb.output, hb.size, hb.block⟩)
             clear hb))
      all_goals
        clear c0 c1 c2 c3 c4 c5 d0 d1 d2 d3 d4 d5
        go_wp2_with fail
        go_roundw
        case rel => exact ⟨j + 1, by omega, by go_num, HBE.out.trans (Hb.out.mono HBE.out.size)⟩
        case measure => simp [intOf]; omega
    · obtain rfl : j = ks.length := by omega
      obtain ⟨m0, m1, m2, m3, m4, m5⟩ := HM.out.up HBE.out ha
      simp only [markTm] at m1 m2 m3 m4
      obtain ⟨mk, hmk⟩ : ∃ mk, mk = markB := ⟨_, rfl⟩
      rw [← hmk] at m1
      have HMK := Lib.hid hmk; clear hmk
      go_wp2_with fail
      rw [HMK.out]
      refine (isMark _ _ _ (HT.out.at HBE.out)).mono ?_
      rintro r w1 ⟨rfl, hb⟩
      have Hb := Lib.hid hb; clear hb
      clear m0 m1 m2 m3 m4 m5
      go_wp2_with fail
      go_ret
      exact ⟨rfl, HBE.out.trans (Hb.out.mono HBE.out.size)⟩
end Go.Proofs.YtlghiakckkhekaaDoor
