/- Copies of lists of literals: the contract of LeftLiterals. Conditions: the literals lie in memory as they are told, no list is too long. -/
import Derived.Test.YtdgbenadoaecoaaGreatDoorS20
namespace Go.Proofs.YtdgbenadoaecoaaGreatDoor
open Go.RowKit

set_option maxHeartbeats 8000000 in
set_option maxRecDepth 100000 in
theorem leftLits (d : Nat) (fs gs : List (Lt d)) (a : Nat) (p : Option Addr) (cap : Nat) (w : World) (hs : LtsAt w d p fs) (hbb : ∀ f ∈ fs, LtB f) (hn : fs.length ≤ 1000000000000) (ht : TwLs w a fs gs) (hT : Tabs w) :
    Calls Tryz.prog 25 #[.slice (some ⟨a, 0, none⟩) fs.length (fs.length + 1), .slice p fs.length cap] w fun r w' => r = .returned (.bool true) ∧ Below w.heap.size w w' := by
  have HS := Lib.hid hs; clear hs
  have HBB := Lib.hid hbb; clear hbb
  have HT := Lib.hid hT; clear hT
  have HTW := Lib.hid ht
  have ha := ht.lt
  clear ht
  go_enter Tryz.func25, Tryz.ntmps25
  go_wp2_with fail
  go_loopw [5] (fun i wr => ∃ j : Nat, j ≤ fs.length ∧ i = .int .i64 j ∧ Below w.heap.size w wr) (fun i _ => fs.length - (intOf i).toNat)
  case atStart => exact ⟨0, by omega, rfl, Below.refl _ _⟩
  case round =>
    obtain ⟨j, hj, rfl, hbe⟩ := hrel
    have HBE := Lib.hid hbe; clear hbe
    have har : a < wr.heap.size := Nat.lt_of_lt_of_le ha HBE.out.size
    by_cases hlt : j < fs.length
    · as_aux_lemma =>
      rcases HS.out.1 with h0 | ⟨b, o, hp, hb, hc⟩
      · omega
      subst hp
      have hbr : b < wr.heap.size := Nat.lt_of_lt_of_le hb HBE.out.size
      have hlt' : j < gs.length := by have := HTW.out.len; omega
      have hck := (hc j hlt).up HBE.out hb
      have hct := ((HTW.out.cells j hlt').lt).up HBE.out ha
      clear hc
      have HE := Lib.hid ((HS.out.2 fs[j] (List.getElem_mem hlt)).up HBE.out)
      have HN1 := Lib.hid (HBB.out fs[j] (List.getElem_mem hlt))
      have HAk := Lib.hid (HTW.out.like j hlt hlt')
      have HTk := Lib.hid ((HTW.out.kids gs[j] (List.getElem_mem hlt')).low HBE.out)
      obtain ⟨x, hx⟩ : ∃ x, x = fs[j] := ⟨_, rfl⟩
      obtain ⟨y, hy⟩ : ∃ y, y = gs[j] := ⟨_, rfl⟩
      rw [← hx] at hck HE HN1 HAk
      rw [← hy] at hct HAk HTk
      clear hx hy
      obtain ⟨c0, c1, c2, c3, c4, c5, c6, c7, c8, c9, c10, c11, c12, c13, c14, c15⟩ := hck
      obtain ⟨d0, d1, d2, d3, d4, d5, d6, d7, d8, d9, d10, d11, d12, d13, d14, d15⟩ := hct
      have hcall := fun w' h3 h4 h5 => leftLit d x y (a + 1) w' h3 HN1.out HAk.out h4 h5
      obtain ⟨q, cp, hsv, _, _⟩ := HE.out.at_
      obtain ⟨pl, cl, hsl⟩ := ex_sl2 HE.out.l_
      obtain ⟨pg, cg, hsg⟩ := ex_sl2 HE.out.g_
      have HBg := HAk.out.b HN1.out
      obtain ⟨ag, hsv2, _, _⟩ := HTk.out.at_
      obtain ⟨pl2, cl2, hsl2⟩ := ex_sl2 (HTk.out.l_.at HBg.l_)
      obtain ⟨pg2, cg2, hsg2⟩ := ex_sl2 (HTk.out.g_.at HBg.g_)
      clear HBg
      rw [hsv] at c2
      rw [hsl] at c9
      rw [hsg] at c15
      rw [hsv2] at d2
      rw [hsl2] at d9
      rw [hsg2] at d15
      rw [hsv, hsl, hsg, hsv2, hsl2, hsg2] at hcall
      have HCALL := Lib.hid hcall; clear hcall
      clear hsv hsl hsg hsv2 hsl2 hsg2
      go_wp2_with fail
      go_region_held3 (fun w' => w'.cell? ⟨a, j * 16, none⟩ = wr.cell? ⟨a, j * 16, none⟩ ∧ w'.cell? ⟨a, j * 16 + 1, none⟩ = wr.cell? ⟨a, j * 16 + 1, none⟩ ∧ w'.cell? ⟨a, j * 16 + 2, none⟩ = wr.cell? ⟨a, j * 16 + 2, none⟩ ∧ w'.cell? ⟨a, j * 16 + 3, none⟩ = wr.cell? ⟨a, j * 16 + 3, none⟩ ∧ w'.cell? ⟨a, j * 16 + 4, none⟩ = wr.cell? ⟨a, j * 16 + 4, none⟩ ∧ w'.cell? ⟨a, j * 16 + 5, none⟩ = wr.cell? ⟨a, j * 16 + 5, none⟩ ∧ w'.cell? ⟨a, j * 16 + 6, none⟩ = wr.cell? ⟨a, j * 16 + 6, none⟩ ∧ w'.cell? ⟨a, j * 16 + 7, none⟩ = wr.cell? ⟨a, j * 16 + 7, none⟩ ∧ w'.cell? ⟨a, j * 16 + 8, none⟩ = wr.cell? ⟨a, j * 16 + 8, none⟩ ∧ w'.cell? ⟨a, j * 16 + 9, none⟩ = wr.cell? ⟨a, j * 16 + 9, none⟩ ∧ w'.cell? ⟨a, j * 16 + 10, none⟩ = wr.cell? ⟨a, j * 16 + 10, none⟩ ∧ w'.cell? ⟨a, j * 16 + 11, none⟩ = wr.cell? ⟨a, j * 16 + 11, none⟩ ∧ w'.cell? ⟨a, j * 16 + 12, none⟩ = wr.cell? ⟨a, j * 16 + 12, none⟩ ∧ w'.cell? ⟨a, j * 16 + 13, none⟩ = wr.cell? ⟨a, j * 16 + 13, none⟩ ∧ w'.cell? ⟨a, j * 16 + 14, none⟩ = wr.cell? ⟨a, j * 16 + 14, none⟩ ∧ w'.cell? ⟨a, j * 16 + 15, none⟩ = wr.cell? ⟨a, j * 16 + 15, none⟩ ∧ w'.cell? ⟨b, o + j * 16, none⟩ = wr.cell? ⟨b, o + j * 16, none⟩ ∧ w'.cell? ⟨b, o + j * 16 + 1, none⟩ = wr.cell? ⟨b, o + j * 16 + 1, none⟩ ∧ w'.cell? ⟨b, o + j * 16 + 2, none⟩ = wr.cell? ⟨b, o + j * 16 + 2, none⟩ ∧ w'.cell? ⟨b, o + j * 16 + 3, none⟩ = wr.cell? ⟨b, o + j * 16 + 3, none⟩ ∧ w'.cell? ⟨b, o + j * 16 + 4, none⟩ = wr.cell? ⟨b, o + j * 16 + 4, none⟩ ∧ w'.cell? ⟨b, o + j * 16 + 5, none⟩ = wr.cell? ⟨b, o + j * 16 + 5, none⟩ ∧ w'.cell? ⟨b, o + j * 16 + 6, none⟩ = wr.cell? ⟨b, o + j * 16 + 6, none⟩ ∧ w'.cell? ⟨b, o + j * 16 + 7, none⟩ = wr.cell? ⟨b, o + j * 16 + 7, none⟩ ∧ w'.cell? ⟨b, o + j * 16 + 8, none⟩ = wr.cell? ⟨b, o + j * 16 + 8, none⟩ ∧ w'.cell? ⟨b, o + j * 16 + 9, none⟩ = wr.cell? ⟨b, o + j * 16 + 9, none⟩ ∧ w'.cell? ⟨b, o + j * 16 + 10, none⟩ = wr.cell? ⟨b, o + j * 16 + 10, none⟩ ∧ w'.cell? ⟨b, o + j * 16 + 11, none⟩ = wr.cell? ⟨b, o + j * 16 + 11, none⟩ ∧ w'.cell? ⟨b, o + j * 16 + 12, none⟩ = wr.cell? ⟨b, o + j * 16 + 12, none⟩ ∧ w'.cell? ⟨b, o + j * 16 + 13, none⟩ = wr.cell? ⟨b, o + j * 16 + 13, none⟩ ∧ w'.cell? ⟨b, o + j * 16 + 14, none⟩ = wr.cell? ⟨b, o + j * 16 + 14, none⟩ ∧ w'.cell? ⟨b, o + j * 16 + 15, none⟩ = wr.cell? ⟨b, o + j * 16 + 15, none⟩)
        (first | exact ⟨rfl, rfl, rfl, rfl, rfl, rfl, rfl, rfl, rfl, rfl, rfl, rfl, rfl, rfl, rfl, rfl, rfl, rfl, rfl, rfl, rfl, rfl, rfl, rfl, rfl, rfl, rfl, rfl, rfl, rfl, rfl, rfl⟩ | exact ⟨Hb.out.cell har, Hb.out.cell har, Hb.out.cell har, Hb.out.cell har, Hb.out.cell har, Hb.out.cell har, Hb.out.cell har, Hb.out.cell har, Hb.out.cell har, Hb.out.cell har, Hb.out.cell har, Hb.out.cell har, Hb.out.cell har, Hb.out.cell har, Hb.out.cell har, Hb.out.cell har, Hb.out.cell hbr, Hb.out.cell hbr, Hb.out.cell hbr, Hb.out.cell hbr, Hb.out.cell hbr, Hb.out.cell hbr, Hb.out.cell hbr, Hb.out.cell hbr, Hb.out.cell hbr, Hb.out.cell hbr, Hb.out.cell hbr, Hb.out.cell hbr, Hb.out.cell hbr, Hb.out.cell hbr, Hb.out.cell hbr, Hb.out.cell hbr⟩)
        (first
          | (go_at_call 52
             refine (HCALL.out _ ?_ ?_ ?_).mono ?_
             · exact HE.out.up (Below.refl _ wr).drew
             · exact HTk.out.low (Below.refl _ wr).drew
             · exact (HT.out.at HBE.out).at (Below.refl _ wr).drew
             rintro r w1 ⟨rfl, hb⟩
             have Hb := Lib.hid (show Below wr.heap.size wr w1 from ⟨hb.os, hb.tape, hb.output, hb.size, hb.block⟩)
             clear hb))
      all_goals
        clear c0 c1 c2 c3 c4 c5 c6 c7 c8 c9 c10 c11 c12 c13 c14 c15 d0 d1 d2 d3 d4 d5 d6 d7 d8 d9 d10 d11 d12 d13 d14 d15
        go_wp2_with fail
        go_roundw
        case rel => exact ⟨j + 1, by omega, by go_num, HBE.out.trans (Hb.out.mono HBE.out.size)⟩
        case measure => simp [intOf]; omega
    · as_aux_lemma =>
      obtain rfl : j = fs.length := by omega
      have hm := ((HTW.out.low HBE.out).mark)
      unfold mkVs at hm
      obtain ⟨mk, hmk⟩ : ∃ mk, mk = markB := ⟨_, rfl⟩
      rw [← hmk] at hm
      have m0 := hm 0 (by simp)
      have m1 := hm 1 (by simp)
      have m2 := hm 2 (by simp)
      have m3 := hm 3 (by simp)
      have m4 := hm 4 (by simp)
      have m5 := hm 5 (by simp)
      have m6 := hm 6 (by simp)
      have m7 := hm 7 (by simp)
      have m8 := hm 8 (by simp)
      have m9 := hm 9 (by simp)
      have m10 := hm 10 (by simp)
      have m11 := hm 11 (by simp)
      have m12 := hm 12 (by simp)
      have m13 := hm 13 (by simp)
      have m14 := hm 14 (by simp)
      have m15 := hm 15 (by simp)
      clear hm
      simp only [List.getElem?_cons_succ, List.getElem?_cons_zero, Nat.add_zero] at m0 m1 m2 m3 m4 m5 m6 m7 m8 m9 m10 m11 m12 m13 m14 m15
      have HMK := Lib.hid hmk; clear hmk
      go_wp2_with fail
      rw [HMK.out]
      refine (isMarkL _ (HT.out.at HBE.out)).mono ?_
      rintro r w1 ⟨rfl, hb⟩
      have Hb := Lib.hid hb; clear hb
      clear m0 m1 m2 m3 m4 m5 m6 m7 m8 m9 m10 m11 m12 m13 m14 m15
      go_wp2_with fail
      go_ret
      exact ⟨rfl, HBE.out.trans (Hb.out.mono HBE.out.size)⟩
end Go.Proofs.YtdgbenadoaecoaaGreatDoor
