/- assigned: all assignments of a body's atoms over facts; each fits what the rule says. How a case lies where it reads as data. The statement TopTyped: over facts that fit the inferred types no operation of any rule is handed a value of the wrong kind: for every case the law answers true, and what is handed in stays. Conditions: as told. no slice takes more bytes than the reach of a row. none beyond the statement's own. -/
import Derived.Test.YtafjjececdhmjaaGreatNKy
import Derived.Test.YtafjjececdhmjaaGreatNY54
import Derived.Test.YtafjjececdhmjaaGreatRows
import Derived.Test.YtafjjececdhmjaaGreatNKz
import Derived.WalkKit
import Derived.ProofKit
import Derived.OpenShut
import Derived.SizedLaws
import Derived.Deep.DeepHandedRow
namespace Go.Proofs.YtafjjececdhmjaaGreat
open Go.RowKit

/-- A world that has grown; a row that began as v and may have moved is another now. -/
structure Grw (U : World) (v v' : Value) (w : World) : Prop where
  b_ : U.grownBy w v.ownBlock
  n_ : v'.ownBlock = v.ownBlock ∨ ∀ g, v'.ownBlock = some g → U.heap.size ≤ g
theorem Grw.refl (U : World) (v : Value) : Grw U v v U := ⟨⟨rfl, rfl, rfl, Nat.le_refl _, fun _ _ _ => rfl⟩, .inl rfl⟩
theorem Grw.up {U w w' : World} {v v' : Value} (h : Grw U v v' w) (hb : Below w.heap.size w w') : Grw U v v' w' :=
  ⟨⟨hb.os.trans h.b_.os, hb.tape.trans h.b_.tape, hb.output.trans h.b_.output, Nat.le_trans h.b_.size hb.size, fun k hk hn => (hb.block k (Nat.lt_of_lt_of_le hk h.b_.size)).trans (h.b_.block k hk hn)⟩, h.n_⟩
theorem Grw.next {U w w1 w2 : World} {v v' v'' : Value} {o : Obj} (h : Grw U v v' w) (h1 : Below w.heap.size w w1) (hg : (w1.alloc o).grownBy w2 v'.ownBlock)
    (hat : v''.ownBlock = v'.ownBlock ∨ ((∀ g, v''.ownBlock = some g → (w1.alloc o).heap.size ≤ g) ∧ ∀ k, k < (w1.alloc o).heap.size → w2.heap[k]? = (w1.alloc o).heap[k]?)) : Grw U v v'' w2 := by
  have e : (w1.alloc o).heap.size = w1.heap.size + 1 := by simp
  have h0 := (h.up h1).up (below_alloc w1 o)
  have hs := h0.b_.size
  refine ⟨⟨hg.os.trans h0.b_.os, hg.tape.trans h0.b_.tape, hg.output.trans h0.b_.output, Nat.le_trans hs hg.size, fun k hk hn => (hg.block k (Nat.lt_of_lt_of_le hk hs) fun e2 => ?_).trans (h0.b_.block k hk hn)⟩, ?_⟩
  · rcases h.n_ with h2 | h2
    · exact hn (e2.trans h2)
    · have := h2 k e2.symm; omega
  · rcases hat with h2 | ⟨h2, _⟩
    · rw [h2]; exact h.n_
    · exact .inr fun g hg2 => Nat.le_trans hs (h2 g hg2)
theorem Grw.keep {U w : World} {v v' : Value} (h : Grw U v v' w) : KpW (fun a => v.ownBlock ≠ some a) U w := ⟨h.b_.size, fun a hn hl => h.b_.block a hl (fun e => hn e.symm)⟩
theorem Grw.below {U w : World} {v v' : Value} {B : Nat} (h : Grw U v v' w) (hB : B ≤ U.heap.size) (hv : ∀ g, v.ownBlock = some g → B ≤ g) : Below B U w := (Below.refl B U).grown h.b_ hB hv

set_option maxRecDepth 100000 in
set_option maxHeartbeats 16000000 in
theorem tAssigned : AssC := by
  intro d xs dd fs n hn q cap2 w hid hff hra hrr hfc hfr hfn hpow
  obtain ⟨i0, hi, hzz⟩ := Option.map_eq_some_iff.1 infoPr
  simp only [Prod.mk.injEq] at hzz
  obtain ⟨hz0, hz1, hz2⟩ := hzz
  have HI := Lib.hid hi; clear hi
  have HZ0 := Lib.hid hz0; clear hz0
  have HZ1 := Lib.hid hz1; clear hz1
  have HZ2 := Lib.hid hz2; clear hz2
  obtain ⟨i1, hi, hzz⟩ := Option.map_eq_some_iff.1 infoBd
  simp only [Prod.mk.injEq] at hzz
  obtain ⟨hz0, hz1, hz2⟩ := hzz
  have KI := Lib.hid hi; clear hi
  have KZ0 := Lib.hid hz0; clear hz0
  have KZ1 := Lib.hid hz1; clear hz1
  have KZ2 := Lib.hid hz2; clear hz2
  obtain ⟨i2, hi, hzz⟩ := Option.map_eq_some_iff.1 infoBds
  simp only [Prod.mk.injEq] at hzz
  obtain ⟨hz0, hz1, hz2⟩ := hzz
  have JI := Lib.hid hi; clear hi
  have JZ0 := Lib.hid hz0; clear hz0
  have JZ1 := Lib.hid hz1; clear hz1
  have JZ2 := Lib.hid hz2; clear hz2
  have hgd : Good xs := by
    rcases hid with ⟨h0, _⟩ | ⟨_, hg, _⟩
    · exact absurd rfl h0
    · exact hg
  have hmem := List.getElem_mem hn
  have hsh := ruOk_short (hgd.1 _ hmem).1
  obtain ⟨hsx, hb16, hts24⟩ := hsh
  clear hsx
  have HTS := Lib.hid hts24; clear hts24
  have HLR := Lib.hid hrr.b_
  have HLT := Lib.hid hra.b_
  have HBK := Lib.hid (fun (y : Lt d) (hy : y ∈ xs[n].bs) (h1 : y.k = 1) (f : Fc) (hm : f ∈ fs) (l : List Tm) (b : Tm) (hlen : y.ts.length = f.xs.length) (hp : y.p = f.p) hb => bok_of (l := l) (b := b) hid hff hn hy h1 hm hp hlen hb)
  obtain ⟨cs, hcs⟩ : ∃ cs, cs = proCn xs := ⟨_, rfl⟩
  rw [← hcs] at HBK ⊢
  obtain ⟨x, hx⟩ : ∃ x, x = xs[n] := ⟨_, rfl⟩
  rw [← hx] at HTS HLR HLT HBK hpow hb16 ⊢
  clear hcs hx hmem hgd hra hrr hid hff
  have HPW := Lib.hid (show ∀ k, 0 < fs.length → fs.length ^ posN (x.bs.take k) < 1000000 from fun k h0 => by
    refine Nat.lt_of_le_of_lt (Nat.pow_le_pow_right h0 ?_) hpow
    unfold posN
    exact List.Sublist.length_le ((List.take_sublist k x.bs).filter _))
  have HPE := Lib.hid hpow; clear hpow
  obtain ⟨bs, hbs⟩ : ∃ bs, bs = x.bs := ⟨_, rfl⟩
  rw [← hbs] at HTS HLR HLT HBK HPW HPE hb16 ⊢
  clear hbs
  obtain ⟨bp, hbp⟩ : ∃ bp, bp = x.bp := ⟨_, rfl⟩
  obtain ⟨bc, hbc⟩ : ∃ bc, bc = x.bc := ⟨_, rfl⟩
  rw [← hbp] at HLT ⊢
  rw [← hbc]
  clear hbp hbc
  have HF := Lib.hid hfc; clear hfc
  have HFR := Lib.hid hfr; clear hfr
  obtain ⟨NI, hNI⟩ : ∃ NI : Int, NI = (n : Int) := ⟨_, rfl⟩
  rw [← hNI] at HBK ⊢
  clear hNI hn
  have HS0 := Lib.hid (show AssAt (w.alloc (.cells #[.slice none 0 0] 56)) (some ⟨w.heap.size, 0, none⟩) [⟨none, 0, []⟩] from by
    refine ⟨.inr ⟨w.heap.size, 0, rfl, by simp, fun i hi => ?_⟩, fun s hs => ?_⟩
    · obtain rfl : i = 0 := by simpa using hi
      rw [Lib.cell_of_heap (heap_alloc_new w _)]
      rfl
    · rw [List.mem_singleton.1 hs]
      exact .inl rfl)
  go_enter Tryz.func12, Tryz.ntmps12
  go_wp2_with fail
  go_loopw [5, 6, 7, 8, 9, 10, 11, 12, 13, 14] (fun va i _ _ _ _ _ _ _ _ wr => ∃ (k : Nat) (pa : Option Addr) (ca : Nat) (L : List As), k ≤ bs.length ∧ i = .int .i64 k ∧ va = .slice pa L.length ca ∧ L.length ≤ fs.length ^ posN (bs.take k) ∧ AsG cs NI (24 * k) L ∧ AssAt wr pa L ∧ Below w.heap.size w wr) (fun _ i _ _ _ _ _ _ _ _ _ => bs.length - (intOf i).toNat)
  case atStart => exact ⟨0, some ⟨w.heap.size, 0, none⟩, 1, [⟨none, 0, []⟩], by omega, rfl, rfl, by simp [posN], fun s hs => by rw [List.mem_singleton.1 hs]; exact ⟨by simp, fun b hb => by simp at hb⟩, HS0.out, below_alloc _ _⟩
  case round =>
    clear HS0
    rename World => wr
    obtain ⟨k, pa, ca, L, hk, rfl, rfl, hLn, hLg, hLa, hbw⟩ := hrel
    have HLN := Lib.hid hLn; clear hLn
    have HL6 := Lib.hid (show L.length ≤ 1000000 by
      rcases Nat.eq_zero_or_pos fs.length with h0 | h0
      · have h1 : fs.length ^ posN (bs.take k) ≤ 1 ^ posN (bs.take k) := Nat.pow_le_pow_left (by omega) _
        rw [Nat.one_pow] at h1
        have := HLN.out
        omega
      · have := HPW.out k h0
        have := HLN.out
        omega)
    have HLG := Lib.hid hLg; clear hLg
    have HLA := Lib.hid hLa; clear hLa
    have HB := Lib.hid hbw; clear hbw
    by_cases hlt : k < bs.length
    · rcases HLT.out.1 with h0 | ⟨ab, ob, rfl, hab, hbc⟩
      · omega
      have hck := (hbc k hlt).up HB.out hab
      clear hbc
      have hmem := List.getElem_mem hlt
      have HY1 := Lib.hid (HLT.out.2 _ hmem).at_
      have HY2 := Lib.hid (HLR.out _ hmem)
      have HY3 := Lib.hid (HTS.out _ hmem)
      have HY4 := Lib.hid (HBK.out _ hmem)
      have HPT := Lib.hid (posN_take hlt)
      clear hmem
      obtain ⟨y, hy⟩ : ∃ y, y = bs[k] := ⟨_, rfl⟩
      rw [← hy] at hck HY1 HY2 HY3 HY4 HPT
      clear hy
      have c0 := hck.c0
      have c1 := hck.c1
      have c2 := hck.c2
      clear hck
      have hk0 : (0 : Int) ≤ (k : Int) := by omega
      have hki : (k : Int) < (bs.length : Int) := by omega
      by_cases h1 : y.k = 1
      · have HPS := Lib.hid (show posN (bs.take (k + 1)) = posN (bs.take k) + 1 by rw [HPT.out, if_pos h1])
        clear HPT
        have HYK := Lib.hid (HY4.out h1); clear HY4
        rw [h1] at c0
        obtain ⟨pr, hpr⟩ : ∃ pr, pr = y.p := ⟨_, rfl⟩
        obtain ⟨sv, hsv⟩ : ∃ sv, sv = y.sv := ⟨_, rfl⟩
        obtain ⟨ts, hts⟩ : ∃ ts, ts = y.ts := ⟨_, rfl⟩
        have HPM := Lib.hid (show pr.size ≤ maxLen by rw [hpr]; exact HY2.out.p_)
        have HTR := Lib.hid (show TmsR ts by rw [hts]; exact HY2.out.ts_)
        rw [← hpr] at c1 HYK
        rw [← hsv] at c2 HY1
        rw [← hts] at HY1 HY3 HYK
        clear hpr hsv hts HY2 h1
        have ht24 := HY3.out
        clear HY3
        obtain ⟨qt, ct, rfl, _, hta⟩ := HY1.out
        have HTA := Lib.hid hta; clear hta HY1
        have HCL := Lib.hid (show ∀ w', Below wr.heap.size wr w' → w'.cell? ⟨ab, ob + k * 16 + 1, none⟩ = some (.string pr) ∧ w'.cell? ⟨ab, ob + k * 16 + 2, none⟩ = some (.slice qt ts.length ct) from fun w' h => by
          have hab2 : ab < wr.heap.size := Nat.lt_of_lt_of_le hab HB.out.size
          exact ⟨(h.cell (p := ⟨ab, ob + k * 16 + 1, none⟩) hab2).trans c1, (h.cell (p := ⟨ab, ob + k * 16 + 2, none⟩) hab2).trans c2⟩)
        go_wp2_with fail
        clear c0 c1 c2
        go_loopw [7, 8, 9, 10, 11, 12, 13, 14] (fun vn j _ _ _ _ _ _ wm => ∃ (m : Nat) (Ln : List As), m ≤ L.length ∧ j = .int .i64 m ∧ NxS wr.heap.size vn Ln wm ∧ Ln.length ≤ m * fs.length ∧ AsG cs NI (24 * (k + 1)) Ln ∧ Below wr.heap.size wr wm) (fun _ j _ _ _ _ _ _ _ => L.length - (intOf j).toNat)
        case atStart => exact ⟨0, [], by omega, rfl, NxS.start _ _, by simp, fun s hs => by simp at hs, Below.refl _ _⟩
        case round =>
          rename World => wm
          rename Value => vn
          obtain ⟨m, Ln, hm, rfl, hnx, hLn, hLg, hbm⟩ := hrel
          have HNX := Lib.hid hnx; clear hnx
          have HNL := Lib.hid hLn; clear hLn
          have HNG := Lib.hid hLg; clear hLg
          have HM := Lib.hid hbm; clear hbm
          obtain ⟨pn, cn, rfl⟩ := ownR_slice HNX.out.ow
          by_cases hlm : m < L.length
          · rcases HLA.out.1 with h0 | ⟨aa, oa, rfl, haa, hac⟩
            · omega
            have hsm := List.getElem_mem hlm
            have hac1 := hac m hlm
            have HSA := Lib.hid (HLA.out.2 _ hsm)
            have HSG := Lib.hid (HLG.out _ hsm)
            clear hac hsm
            obtain ⟨s, hs⟩ : ∃ s, s = L[m] := ⟨_, rfl⟩
            rw [← hs] at hac1 HSA HSG
            clear hs
            obtain ⟨ps, cps, l⟩ := s
            simp only at hac1 HSA HSG
            have HCS := Lib.hid (show ∀ w', Below wr.heap.size wr w' → w'.cell? ⟨aa, oa + m, none⟩ = some (.slice ps l.length cps) from fun w' h => (h.cell (p := ⟨aa, oa + m, none⟩) haa).trans hac1)
            clear hac1
            have hll : l.length ≤ 10000 := by have := HSG.out.1; omega
            have hm0 : (0 : Int) ≤ (m : Int) := by omega
            have hmi : (m : Int) < (L.length : Int) := by omega
            go_wp2_with fail
            go_loopw [9, 10] (fun vs g wx => ∃ z : Nat, z ≤ l.length ∧ g = .int .i64 z ∧ wx.ownsRow wm.heap.size 95 5 vs z ((l.take z).flatMap prV) ∧ Below wm.heap.size wm wx) (fun _ g _ => l.length - (intOf g).toNat)
            case atStart => exact ⟨0, by omega, rfl, ownR_nil _ _ _ _, Below.refl _ _⟩
            case round =>
              rename World => wx
              rename Value => vs
              obtain ⟨z, hz, rfl, hrow, hbx⟩ := hrel
              have HRW := Lib.hid hrow; clear hrow
              have HX := Lib.hid hbx; clear hbx
              obtain ⟨pp, cp, rfl⟩ := ownR_slice HRW.out
              have HWX := Lib.hid (HM.out.trans (HX.out.mono HM.out.size))
              have c38 := HCS.out wx HWX.out
              by_cases hlz : z < l.length
              · rcases HSA.out with h0 | ⟨a4, o4, rfl, hta⟩
                · omega
                have hcb := (hta.at_ z hlz).up HWX.out hta.lt
                have ha5 := Nat.lt_of_lt_of_le hta.lt HM.out.size
                clear hta
                have HTK := Lib.hid (show (l.take (z + 1)).flatMap prV = (l.take z).flatMap prV ++ prV l[z] by rw [List.take_succ_eq_append_getElem hlz, List.flatMap_append, List.flatMap_cons, List.flatMap_nil, List.append_nil])
                obtain ⟨b, hb⟩ : ∃ b, b = l[z] := ⟨_, rfl⟩
                rw [← hb] at hcb HTK
                clear hb
                obtain ⟨bv, ⟨bk, bn, bt⟩⟩ := b
                obtain ⟨d0, d1, d2, d3⟩ := hcb
                simp only at d0 d1 d2 d3
                have hz0 : (0 : Int) ≤ (z : Int) := by omega
                have hzi : (z : Int) < (l.length : Int) := by omega
                have HKD := Lib.hid (show ∀ w', Below wm.heap.size wx w' → w'.cell? ⟨aa, oa + m, none⟩ = some (.slice (some ⟨a4, o4, none⟩) l.length cps) ∧ w'.cell? ⟨a4, o4 + z * 4, none⟩ = some (.string bv) ∧ w'.cell? ⟨a4, o4 + z * 4 + 1, none⟩ = some (.int .i8 bk) ∧ w'.cell? ⟨a4, o4 + z * 4 + 2, none⟩ = some (.int .i64 bn) ∧ w'.cell? ⟨a4, o4 + z * 4 + 3, none⟩ = some (.string bt) from fun w' h =>
                  ⟨HCS.out w' (HWX.out.trans (h.mono HM.out.size)), (h.cell (p := ⟨a4, o4 + z * 4, none⟩) ha5).trans d0, (h.cell (p := ⟨a4, o4 + z * 4 + 1, none⟩) ha5).trans d1, (h.cell (p := ⟨a4, o4 + z * 4 + 2, none⟩) ha5).trans d2, (h.cell (p := ⟨a4, o4 + z * 4 + 3, none⟩) ha5).trans d3⟩)
                clear d0 d1 d2 d3
                have hus : wm.heap.size ≤ wx.heap.size := HX.out.size
                have HRUD := Lib.hid (show ∀ o, ((wx.alloc o).drew).ownsRow wm.heap.size 95 5 (.slice pp z cp) z ((l.take z).flatMap prV) from fun o => ownR_alloc HRW.out o)
                have Hc := Lib.hid ((Below.refl wm.heap.size wx).drew)
                go_wp2_with fail
                clear c38
                go_region_held3 (fun w' => w'.cell? ⟨aa, oa + m, none⟩ = some (.slice (some ⟨a4, o4, none⟩) l.length cps) ∧ w'.cell? ⟨a4, o4 + z * 4, none⟩ = some (.string bv) ∧ w'.cell? ⟨a4, o4 + z * 4 + 1, none⟩ = some (.int .i8 bk) ∧ w'.cell? ⟨a4, o4 + z * 4 + 2, none⟩ = some (.int .i64 bn) ∧ w'.cell? ⟨a4, o4 + z * 4 + 3, none⟩ = some (.string bt))
                  (first
                    | (refine HKD.out _ ?_
                       repeat (with_reducible first | exact Hc.out | exact Hd.out | exact Below.refl _ _ | refine Below.drew ?_ | refine Below.alloc ?_ ?_ _)
                       all_goals (with_reducible exact hus)))
                  (first
                    | (refine step_append_lies _ (by rfl) _ _ _ (by rfl) wm.heap.size 95 i0 _ 5 64 Tryz.underlying87 HI.out HZ0.out HZ1.out HZ2.out rfl (by decide) (.slice pp z cp) z _ (by rfl) (HRUD.out _) ⟨wx.heap.size, 0, none⟩ 1 1 [.string bv, .string ⟨#[]⟩, .int .i8 bk, .int .i64 bn, .string bt] (by rfl) (by rfl) (World.news_of_block (cs := #[.string bv, .string ⟨#[]⟩, .int .i8 bk, .int .i64 bn, .string bt]) (t := 95) (fr := (0, 0)) (show ((wx.alloc _).drew).heap[wx.heap.size]? = _ from heap_alloc_new wx _)) (by simp [Value.oneCell']) (by omega) (by unfold maxLen; omega) (by omega) (show wm.heap.size ≤ (wx.alloc _).heap.size by simp; omega) (wx.heap.size + 1) (show (wx.alloc _).heap.size = wx.heap.size + 1 by simp) ?_
                       intro g cap w4 hown2 hgrow hat hlt2
                       have hg2 : (wx.alloc (.cells #[.string bv, .string ⟨#[]⟩, .int .i8 bk, .int .i64 bn, .string bt] 95)).grownBy w4 (Value.slice pp z cp).ownBlock := ⟨hgrow.os, hgrow.tape, hgrow.output, hgrow.size, hgrow.block⟩
                       have Hd := Lib.hid (show Below wm.heap.size wx w4 from ap_below (Below.refl _ _) hus HRW.out hg2)
                       have HFR2 := Lib.hid (show w4.ownsRow wm.heap.size 95 5 (.slice (some ⟨g, 0, none⟩) (z + 1) cap) (z + 1) ((l.take (z + 1)).flatMap prV) by
                         rw [HTK.out]
                         exact hown2)
                       clear hat hgrow hg2 hown2))
                all_goals
                  go_wp2_with fail
                  go_roundw
                  case rel => exact ⟨z + 1, by omega, by go_num, HFR2.out, HX.out.trans Hd.out⟩
                  case measure => simp [intOf]; omega
              · obtain rfl : z = l.length := by omega
                have HAP := Lib.hid (rApply2 l pp cp pr ts qt ct wx (pv_row (by have h1 := HRW.out; rw [List.take_length] at h1; exact h1)) hll (HTA.out.imp id fun ⟨a, o, hp, h⟩ => ⟨a, o, hp, h.up (HB.out.trans (HWX.out.mono HB.out.size)) h.lt⟩) ht24)
                have HGL := Lib.hid (tmsR_sgm (fun b hb => (HSG.out.2 b hb).2) HTR.out)
                obtain ⟨us, hus⟩ : ∃ us, us = ts.map (sgm l) := ⟨_, rfl⟩
                rw [← hus] at HAP HGL
                have HUS := Lib.hid hus; clear hus
                obtain ⟨c1, c2⟩ := HCL.out wx HWX.out
                go_wp2_with fail
                refine HAP.out.mono ?_
                rintro e wy ⟨sv, rfl, hsv, hso, hby⟩
                have HY := Lib.hid hby; clear hby
                obtain ⟨pt, cpt, rfl, hmt, hta⟩ := hsv
                obtain ⟨U, hU⟩ : ∃ U, U = wy.alloc (.cells #[.string pr, .slice pt us.length cpt] 26) := ⟨_, rfl⟩
                have HYU := Lib.hid (show Below wy.heap.size wy U by rw [hU]; exact below_alloc _ _)
                have HCU := Lib.hid (show U.heap[wy.heap.size]? = some (.cells #[.string pr, .slice pt us.length cpt] 26 (0, 0)) by rw [hU]; exact heap_alloc_new wy _)
                have hbu : wy.heap.size < U.heap.size := (Array.getElem?_eq_some_iff.1 HCU.out).1
                have HXU := Lib.hid (HX.out.trans ((HY.out.trans (HYU.out.mono HY.out.size)).mono HX.out.size))
                have HVO := Lib.hid (show ∀ g, (Value.slice pn Ln.length cn).ownBlock = some g → wr.heap.size ≤ g ∧ g < wm.heap.size from fun g hg => ownR_lt HNX.out.ow hg)
                have HTU := Lib.hid (show TmSl U (.slice pt us.length cpt) us from (show TmSl wy (.slice pt us.length cpt) us from ⟨pt, cpt, rfl, hmt, hta⟩).up HYU.out)
                have HTO := Lib.hid (show ∀ g, (Value.slice pt us.length cpt).ownBlock = some g → (Value.slice pn Ln.length cn).ownBlock ≠ some g from fun g hg e => by
                  have h1 := (hso g hg).1
                  have h2 := (HVO.out g e).2
                  have h3 := HX.out.size
                  omega)
                have HTB := Lib.hid (show (Value.slice pn Ln.length cn).ownBlock ≠ some wy.heap.size from fun e => by
                  have h2 := (HVO.out _ e).2
                  have h3 := HX.out.size
                  have h4 := HY.out.size
                  omega)
                have HNU := Lib.hid (HNX.out.up HXU.out)
                have HBU := Lib.hid (show ∀ v' w', Grw U (.slice pn Ln.length cn) v' w' → Below wr.heap.size wr w' from fun v' w' h =>
                  HM.out.trans ((HXU.out.mono HM.out.size).trans (h.below (Nat.le_trans HM.out.size HXU.out.size) (fun g hg => (HVO.out g hg).1))))
                clear hmt hta hso
                go_wp2_with fail
                rw [← hU]
                clear hU c1 c2 c38 HAP HRW HX HY
                go_loopw [7, 12, 13, 14] (fun vq i _ _ wi => ∃ (z : Nat) (Lm : List As), z ≤ fs.length ∧ i = .int .i64 z ∧ NxS wr.heap.size vq Lm wi ∧ Lm.length ≤ m * fs.length + z ∧ AsG cs NI (24 * (k + 1)) Lm ∧ Grw U (.slice pn Ln.length cn) vq wi) (fun _ i _ _ _ => fs.length - (intOf i).toNat)
                case atStart => exact ⟨0, Ln, by omega, rfl, HNU.out, HNL.out, HNG.out, Grw.refl _ _⟩
                case round =>
                  rename World => wi
                  rename Value => vq
                  obtain ⟨z, Lm, hz, rfl, hnq, hLm, hLmg, hgr⟩ := hrel
                  have HNQ := Lib.hid hnq; clear hnq
                  have HMN := Lib.hid hLm; clear hLm
                  have HMG := Lib.hid hLmg; clear hLmg
                  have HGR := Lib.hid hgr; clear hgr
                  have HWI := Lib.hid (HBU.out _ _ HGR.out)
                  obtain ⟨pq, cq, rfl⟩ := ownR_slice HNQ.out.ow
                  by_cases hlz : z < fs.length
                  · rcases HF.out.1 with h0 | ⟨af, ofs, rfl, haf, hcf⟩
                    · omega
                    have hmem := List.getElem_mem hlz
                    have hw0 := HB.out.trans (HWI.out.mono HB.out.size)
                    have hck := (hcf z hlz).up hw0 haf
                    have hvs := (HF.out.2 _ hmem).up hw0
                    have HYF := Lib.hid (HYK.out _ hmem)
                    have HVR := Lib.hid (HFR.out _ hmem).r_
                    clear hcf hmem
                    obtain ⟨f, hf⟩ : ∃ f, f = fs[z] := ⟨_, rfl⟩
                    rw [← hf] at hck hvs HYF HVR
                    clear hf
                    obtain ⟨fp, xs, sv⟩ := f
                    obtain ⟨e0, e1⟩ := hck
                    simp only at e0 e1 hvs HYF HVR
                    obtain ⟨pv, cv, rfl, hmx, hva⟩ := hvs
                    have HVS := Lib.hid (show VlSl wi (.slice pv xs.length cv) xs from ⟨pv, cv, rfl, hmx, hva⟩)
                    clear hmx hva
                    have hafi : af < wi.heap.size := Nat.lt_of_lt_of_le haf hw0.size
                    have hcu : wi.heap[wy.heap.size]? = some (.cells #[.string pr, .slice pt us.length cpt] 26 (0, 0)) := (HGR.out.keep.k_ _ HTB.out hbu).trans HCU.out
                    have hbi : wy.heap.size < wi.heap.size := Nat.lt_of_lt_of_le hbu HGR.out.keep.s_
                    have HS := Lib.hid (show ∀ w', Below wi.heap.size wi w' → w'.cell? ⟨wy.heap.size, 0, none⟩ = some (.string pr) ∧ w'.cell? ⟨wy.heap.size, 1, none⟩ = some (.slice pt us.length cpt) ∧ w'.cell? ⟨af, ofs + z * 2, none⟩ = some (.string fp) ∧ w'.cell? ⟨af, ofs + z * 2 + 1, none⟩ = some (.slice pv xs.length cv) from fun w' h => by
                      obtain ⟨h1, h2⟩ := two ((h.block wy.heap.size hbi).trans hcu)
                      exact ⟨h1, h2, (h.cell (p := ⟨af, ofs + z * 2, none⟩) hafi).trans e0, (h.cell (p := ⟨af, ofs + z * 2 + 1, none⟩) hafi).trans e1⟩)
                    have HMT := Lib.hid (fun (V' : World) (h : Below wi.heap.size wi V') => rMatch pr fp us xs pt pv cpt cv V' ((HTU.out.keep HGR.out.keep HTO.out).up h) HGL.out (HVS.out.up h) HPM.out)
                    have HNB := Lib.hid (show m * fs.length + z + 1 ≤ 1000000 by
                      have h0 : 0 < fs.length := by omega
                      have h1 := HPW.out (k + 1) h0
                      have h2 := HPS.out
                      have h3 := HLN.out
                      rw [h2, Nat.pow_succ] at h1
                      have h4 := Nat.mul_le_mul_right fs.length h3
                      have h5 := Nat.mul_le_mul_right fs.length (show m + 1 ≤ L.length by omega)
                      rw [Nat.succ_mul] at h5
                      omega)
                    clear e0 e1 hcu
                    have hz0 : (0 : Int) ≤ (z : Int) := by omega
                    have hzi : (z : Int) < (fs.length : Int) := by omega
                    obtain ⟨t0, t1, t2, t3⟩ := HS.out wi (Below.refl _ _)
                    go_wp2_with fail
                    clear t0 t1 t2 t3
                    have Hc := Lib.hid (Below.refl wi.heap.size wi).drew
                    go_region_held3 (fun w' => w'.cell? ⟨wy.heap.size, 0, none⟩ = some (.string pr) ∧ w'.cell? ⟨wy.heap.size, 1, none⟩ = some (.slice pt us.length cpt) ∧ w'.cell? ⟨af, ofs + z * 2, none⟩ = some (.string fp) ∧ w'.cell? ⟨af, ofs + z * 2 + 1, none⟩ = some (.slice pv xs.length cv))
                      (first
                        | (refine HS.out _ ?_
                           with_reducible exact Hc.out))
                      (first
                        | (go_at_call 34
                           refine (HMT.out _ ?_).mono ?_
                           · with_reducible exact Hc.out
                           rintro r w5 ⟨p5, c5, mb, ok5, rfl, hb5, hn5, hl5, _, hok5⟩
                           have HN5 := Lib.hid hn5
                           have HL5 := Lib.hid hl5
                           have HO5 := Lib.hid hok5
                           have Hc := Lib.hid (Hc.out.trans (hb5.mono Hc.out.size))
                           clear hb5 hn5 hl5 hok5))
                    all_goals
                      rcases ok5 with _ | _
                      · go_wp2_with fail
                        go_roundw
                        case rel => exact ⟨z + 1, Lm, by omega, by go_num, HNQ.out.up Hc.out, by have := HMN.out; omega, HMG.out, HGR.out.up Hc.out⟩
                        case measure => simp [intOf]; omega
                      · have HW5 := Lib.hid (HWI.out.trans (Hc.out.mono HWI.out.size))
                        have c9 := HCS.out w5 HW5.out
                        have HA5 := Lib.hid (ls_news (HSA.out.up HW5.out))
                        have hmb := HN5.out
                        obtain ⟨hpa, hpf, hpl, hbd⟩ := HO5.out rfl
                        have HFX := Lib.hid (show ∀ b ∈ mb, BOk cs NI b ∧ VlR b.x.k b.x.n b.x.t from fun b hb => by
                          have h1 := hbd b hb
                          refine ⟨HYF.out l b (by rw [← hpl, HUS.out, List.length_map]) hpf (by rw [← HUS.out]; exact h1), ?_⟩
                          obtain ⟨kk, _, hk2, _, _, hx⟩ := h1
                          rw [hx]
                          exact HVR.out _ (List.getElem_mem hk2))
                        clear hpa hpf hpl hbd
                        go_wp2_with (at_builtin; (refine wpOwnX rfl _ _ 56 rfl w5.heap.size 115 i1 _ 4 48 Tryz.underlying56 KI.out KZ0.out KZ1.out KZ2.out rfl (by decide) _ _ _ rfl (ownR_nil w5 w5.heap.size 4 115) ps l.length cps (l.flatMap Tm.cells) rfl (tms_len l) HA5.out (tms_one l) ?n1 ?n2 (Nat.le_refl _) ?_))
                        case n1 => unfold maxLen; omega
                        case n2 => omega
                        intro v6 w6 hown6 hgrow6 _
                        have HB6 := Lib.hid (show Below w5.heap.size w5 w6 from (Below.refl _ _).grown hgrow6 (Nat.le_refl _) (fun k hk => by cases hk))
                        have HO6 := Lib.hid (show w6.ownsRow w5.heap.size 115 4 v6 l.length (l.flatMap Tm.cells) by simpa using hown6)
                        clear hown6 hgrow6 c9
                        have HA6 := Lib.hid (ls_news (HL5.out.up HB6.out))
                        obtain ⟨p6, c6, rfl⟩ := ownR_slice HO6.out
                        have hs6 := HB6.out.size
                        go_wp2_with (at_builtin; (refine wpOwnX rfl _ _ 56 rfl w5.heap.size 115 i1 _ 4 48 Tryz.underlying56 KI.out KZ0.out KZ1.out KZ2.out rfl (by decide) _ _ _ rfl HO6.out p5 mb.length c5 (mb.flatMap Tm.cells) rfl (tms_len mb) HA6.out (tms_one mb) ?n1 ?n2 hs6 ?_))
                        case n1 => unfold maxLen; omega
                        case n2 => omega
                        intro v7 w7 hown7 hgrow7 _
                        have HB7 := Lib.hid (show Below w5.heap.size w5 w7 from HB6.out.grown hgrow7 hs6 (fun k hk => (ownR_lt HO6.out hk).1))
                        have HLB := Lib.hid (show (l ++ mb).length ≤ 24 * (k + 1) ∧ ∀ b ∈ l ++ mb, BOk cs NI b ∧ VlR b.x.k b.x.n b.x.t from ⟨by have := HSG.out.1; rw [List.length_append]; omega, fun b hb => by
                          rcases List.mem_append.1 hb with h5 | h5
                          · exact HSG.out.2 b h5
                          · exact HFX.out b h5⟩)
                        rw [← List.flatMap_append, ← List.length_append] at hown7
                        obtain ⟨lb, hlb⟩ : ∃ lb, lb = l ++ mb := ⟨_, rfl⟩
                        rw [← hlb] at HLB hown7
                        clear hlb
                        have HO7 := Lib.hid hown7
                        clear hown7 hgrow7 HA5 HA6
                        obtain ⟨p7, c7, rfl⟩ := ownR_slice HO7.out
                        have HI7 := Lib.hid (show Below wi.heap.size wi w7 from Hc.out.trans (HB7.out.mono Hc.out.size))
                        have HNQ7 := Lib.hid (HNQ.out.up HI7.out)
                        have hs7 := HI7.out.size
                        have HLS := Lib.hid (show (⟨p7, c7, lb⟩ : As).l.length = 0 ∨ ∃ a o, (⟨p7, c7, lb⟩ : As).p = some ⟨a, o, none⟩ ∧ TmsAt w7 a o (⟨p7, c7, lb⟩ : As).l ∧ wi.heap.size ≤ a from by
                          rcases bds_row HO7.out with h0 | ⟨a, o, hp, ht⟩
                          · exact .inl h0
                          · refine .inr ⟨a, o, hp, ht, ?_⟩
                            have h1 := (ownR_lt HO7.out (g := a) (by rw [hp]; rfl)).1
                            have h2 := Hc.out.size
                            omega)
                        have hmn := HMN.out
                        have hnb := HNB.out
                        go_wp2_with (at_builtin; (refine wpOwnR rfl _ _ 53 rfl wr.heap.size 56 i2 _ 1 24 Tryz.underlying53 JI.out JZ0.out JZ1.out JZ2.out rfl (by decide) _ _ _ rfl (ownR_alloc HNQ7.out.ow _) ⟨w7.heap.size, 0, none⟩ 1 1 [.slice p7 lb.length c7] rfl rfl (new_cells w7 [.slice p7 lb.length c7] 56) (by simp [Value.oneCell']) ?n1 ?n2 ?n3 ?_))
                        case n1 => unfold maxLen; omega
                        case n2 => omega
                        case n3 => have := HWI.out.size; simp; omega
                        intro v8 w8 hown8 hgrow8 hat8
                        have hsz : (w7.alloc (.cells #[.slice p7 lb.length c7] 56)).heap.size = w7.heap.size + 1 := by simp
                        rw [← hsz] at hat8
                        have HF8 := Lib.hid (HNQ.out.next (s := ⟨p7, c7, lb⟩) HI7.out HLS.out hgrow8 hown8 hat8)
                        have HG8 := Lib.hid (HGR.out.next HI7.out hgrow8 hat8)
                        clear hown8 hgrow8 hat8 hsz
                        go_wp2_with fail
                        go_roundw
                        case rel => exact ⟨z + 1, Lm ++ [⟨p7, c7, lb⟩], by omega, by go_num, HF8.out, by rw [List.length_append, List.length_singleton]; omega, HMG.out.snoc HLB.out.1 HLB.out.2, HG8.out⟩
                        case measure => simp [intOf]; omega
                  · obtain rfl : z = fs.length := by omega
                    have hL6 := HL6.out
                    have HLX := Lib.hid (show Lm.length ≤ (m + 1) * fs.length by rw [Nat.succ_mul]; exact HMN.out)
                    go_wp2_with fail
                    go_roundw
                    case rel => exact ⟨m + 1, Lm, by omega, by go_num, HNQ.out, HLX.out, HMG.out, HWI.out⟩
                    case measure => simp [intOf]; omega
          · obtain rfl : m = L.length := by omega
            have HLX := Lib.hid (show Ln.length ≤ fs.length ^ posN (bs.take (k + 1)) by
              rw [HPS.out, Nat.pow_succ]
              exact Nat.le_trans HNL.out (Nat.mul_le_mul_right _ HLN.out))
            go_wp2_with fail
            go_roundw
            case rel => exact ⟨k + 1, pn, cn, Ln, by omega, by go_num, rfl, HLX.out, HNG.out, HNX.out.done, HB.out.trans (HM.out.mono HB.out.size)⟩
            case measure => simp [intOf]; omega
      · have HPS := Lib.hid (show posN (bs.take (k + 1)) = posN (bs.take k) by rw [HPT.out, if_neg h1]; rfl)
        clear HPT HY4
        obtain ⟨yk, hyk⟩ : ∃ yk, yk = y.k := ⟨_, rfl⟩
        rw [← hyk] at c0 h1
        clear hyk
        go_wp2_with fail
        go_roundw
        case rel => exact ⟨k + 1, pa, ca, L, by omega, by go_num, rfl, by rw [HPS.out]; exact HLN.out, HLG.out.mono (by omega), HLA.out, HB.out⟩
        case measure => simp [intOf]; omega
    · obtain rfl : k = bs.length := by omega
      have HLE := Lib.hid (show L.length ≤ 1000000 by
        have h1 := HLN.out
        rw [List.take_of_length_le (Nat.le_refl _)] at h1
        have := HPE.out
        omega)
      go_wp2_with fail
      go_ret
      exact ⟨pa, ca, L, rfl, HLE.out, HLA.out, fun s hs => ⟨Nat.le_trans (HLG.out s hs).1 (by omega), fun b hb => ((HLG.out s hs).2 b hb).1⟩, HB.out⟩
end Go.Proofs.YtafjjececdhmjaaGreat

namespace Go.Proofs.YtafjjececdhmjaaGreat
open Go.RowKit Go.ChangeShapes Go.WideShapes

section
variable {H : Type} {enc : TypeId × Value → H} {w : World} {base : Nat} {sp : Nat → Bool} {held : Bool}
theorem cellsCase : Tryz.prog.cellsOf 28 = 4 := by kernel_rfl
theorem cellsRus : Tryz.prog.cellsOf 22 = 1 := by kernel_rfl
theorem cellsFcs : Tryz.prog.cellsOf 23 = 1 := by kernel_rfl
theorem cellsAt : Tryz.prog.cellsOf 26 = 2 := by kernel_rfl
theorem weights_case (y0 y1 y2 : DataW H) : (DataW.agg [y0, y1, y2]).weights Tryz.prog 28 = y0.weights Tryz.prog 22 ++ (y1.weights Tryz.prog 23 ++ (y2.weights Tryz.prog 26 ++ [])) := by
  simp [DataW.weights, Tryz.underlying28, DataW.weightsEach]
theorem trod_facts {fuel : Nat} {cs : List Value} {x : DataW H × List MemPlace} (h : DataW.trod enc Tryz.prog w base sp held fuel 23 cs = some x) (hw : ∀ n ∈ x.1.weights Tryz.prog 23, n ≤ reachBytes) :
    ∃ (p : Option Addr) (fs : List Fc) (cap : Nat), cs = [.slice p fs.length cap] ∧ FcsAt w p fs ∧ (∀ f ∈ fs, FcR f) ∧ fs.length ≤ 4398046511104 := by
  obtain ⟨p, fs, cap, hc, hm, hb, hrow, hR⟩ := open_list (α := Fc) Tryz.underlying23 cellsF (by decide) bytesFc (by decide) (fun f => [.string f.p, f.sv]) (fun f => FcR f ∧ VlSl w f.sv f.xs) (fun t => by simp) h hw (fun f cs' y _ hy hwy => by
    obtain ⟨g, rfl, h1, h2⟩ := trod_fact hy hwy
    exact ⟨g, rfl, h1, h2⟩)
  exact ⟨p, fs, cap, hc, ⟨hrow.imp id fun ⟨a, o, hp, ha, hc⟩ => ⟨a, o, hp, ha, fun i hi => ⟨hc i hi 0 (by omega), hc i hi 1 (by omega)⟩⟩, fun f hf => (hR f hf).2⟩, fun f hf => (hR f hf).1, by unfold reachBytes at hb; omega⟩
/-- A case that reads as data. -/
theorem trod_case {D fuel : Nat} (hD : fuel ≤ D) {cs : List Value} {x : DataW H × List MemPlace} (h : DataW.trod enc Tryz.prog w base sp held fuel 28 cs = some x) (hw : ∀ n ∈ x.1.weights Tryz.prog 28, n ≤ reachBytes) :
    ∃ (p : Option Addr) (cap : Nat) (xs : List (Ru D)) (q : Option Addr) (cap2 : Nat) (fs : List Fc) (s0 : ByteArray) (s1 : Value), cs = [.slice p xs.length cap, .slice q fs.length cap2, .string s0, s1] ∧ RusAt w D p xs ∧ (∀ x ∈ xs, RuX x) ∧ FcsAt w q fs ∧ (∀ f ∈ fs, FcR f) ∧ fs.length ≤ 4398046511104 := by
  obtain ⟨ys, m, rfl, rfl, hl, hnn, hfs⟩ := DataW.trod_struct Tryz.underlying28 h
  rw [cellsCase] at hl
  obtain ⟨y0, y1, y2, rfl⟩ := list3 (show ys.length = 3 from hnn)
  have h0 : DataW.trod enc Tryz.prog w base sp held m 22 ((cs.drop 0).take (Tryz.prog.cellsOf 22)) = some y0 := hfs 0 _ rfl
  have h1 : DataW.trod enc Tryz.prog w base sp held m 23 ((cs.drop 1).take (Tryz.prog.cellsOf 23)) = some y1 := hfs 1 _ rfl
  have h2 : DataW.trod enc Tryz.prog w base sp held m 26 ((cs.drop 2).take (Tryz.prog.cellsOf 26)) = some y2 := hfs 2 _ rfl
  rw [cellsRus] at h0
  rw [cellsFcs] at h1
  rw [cellsAt] at h2
  have hwa : ∀ q, q ∈ y0.1.weights Tryz.prog 22 ∨ q ∈ y1.1.weights Tryz.prog 23 ∨ q ∈ y2.1.weights Tryz.prog 26 → q ≤ reachBytes := by
    intro q hq
    refine hw q ?_
    show q ∈ (DataW.agg [y0.1, y1.1, y2.1]).weights Tryz.prog 28
    rw [weights_case]
    simp only [List.mem_append]
    rcases hq with hq | hq | hq
    · exact .inl hq
    · exact .inr (.inl hq)
    · exact .inr (.inr (.inl hq))
  obtain ⟨p, xs, cap, e0, _, hx, hr, _⟩ := trod_rules (D := D) (by omega) h0 (fun q hq => hwa q (.inl hq))
  obtain ⟨q, fs, cap2, e1, hf, hfr, hfn⟩ := trod_facts h1 (fun q hq => hwa q (.inr (.inl hq)))
  obtain ⟨s0, s1, _, e2, _⟩ := trod_atom h2 (fun q hq => hwa q (.inr (.inr hq)))
  refine ⟨p, cap, xs, q, cap2, fs, s0, s1, ?_, hx, hr, hf, hfr, hfn⟩
  have e0' : cs.take 1 = [.slice p xs.length cap] := by simpa using e0
  have e2' : cs.drop 2 = [.string s0, s1] := by rwa [List.take_of_length_le (by simp [hl])] at e2
  rw [← List.take_append_drop 1 cs, ← List.take_append_drop 1 (cs.drop 1), List.drop_drop, e0', e1, e2']
  rfl
set_option maxRecDepth 100000 in
theorem open_case {r : Reach} {b0 : Nat} {v : Value} {x : DataW H} {ps : List MemPlace} (hval : Value.okWide Tryz.prog w r b0 28 v) (hd : DataW.Trod enc Tryz.prog w base sp held 28 v x ps) (hw : ∀ n ∈ x.weights Tryz.prog 28, n ≤ reachBytes) :
    ∃ (d : Nat) (p : Option Addr) (cap : Nat) (xs : List (Ru d)) (q : Option Addr) (cap2 : Nat) (fs : List Fc) (s0 : ByteArray) (s1 : Value), v = .agg #[.slice p xs.length cap, .slice q fs.length cap2, .string s0, s1] ∧ RusAt w d p xs ∧ (∀ x ∈ xs, RuX x) ∧ FcsAt w q fs ∧ (∀ f ∈ fs, FcR f) ∧ fs.length ≤ 4398046511104 := by
  obtain ⟨cs, rfl, _⟩ := okWide_struct Tryz.underlying28 hval
  obtain ⟨n, hn⟩ := hd
  obtain ⟨p, cap, xs, q, cap2, fs, s0, s1, hc, ht⟩ := trod_case (D := n) (Nat.le_refl _) hn hw
  refine ⟨n, p, cap, xs, q, cap2, fs, s0, s1, ?_, ht⟩
  have h3 : cs = #[.slice p xs.length cap, .slice q fs.length cap2, .string s0, s1] := by
    have h2 : cs.toList = [.slice p xs.length cap, .slice q fs.length cap2, .string s0, s1] := hc
    rw [← Array.toArray_toList (xs := cs), h2]
  rw [h3]
end
end Go.Proofs.YtafjjececdhmjaaGreat

namespace Go.Proofs.YtafjjececdhmjaaGreat
open Go.ChangeShapes Go.WideShapes Go.ChangeAt Go.RowKit

set_option maxRecDepth 100000 in
/-- What the walk gives, for every input and every world. -/
theorem contractTt (H : Type) (enc : TypeId × Value → H) (W : World) (base : Nat) (args : Array Value) (ds gs : List (DataW H)) (before : List MemPlace)
    (hval : ∀ (j : Nat) t v, Tryz.f4.params[j]? = some t → args[j]? = some v → Value.okWide Tryz.prog W .any base t v)
    (hW : DataW.Whole enc Tryz.prog Tryz.f4.params.toList Rows.topTypedSpec.vars false W args.toList ds gs before)
    (hsz : (DataW.weightsEach Tryz.prog (Tryz.f4.params.toList ++ (OpenSpec.ofChange Rows.topTypedSpec).bare.plain.varTypes Tryz.prog) (ds ++ gs)).all (· ≤ reachBytes) = true) :
    Calls Tryz.prog 4 args W fun e W' => ∃ v, e = .returned v ∧ Rows.topTypedSpec.post enc Tryz.prog Tryz.f4 false true false false W args v W' := by
  have hW' := hW
  obtain ⟨p, q, hA0, hV, rfl, hfz, hnd⟩ := hW
  have hA : DataW.TrodAll enc Tryz.prog W 0 (fun _ => true) true Tryz.f4.params.toList args.toList ds p := hA0
  rw [Tryz.params4] at hA hval
  obtain ⟨v0, vs0, d0, ds0, p0, q0, hargs, rfl, rfl, h0, r0⟩ := trodAll_cons hA
  obtain ⟨rfl, rfl, rfl⟩ := trodAll_nil r0
  obtain rfl : args = #[v0] := by cases args; simp_all
  obtain ⟨rfl, rfl⟩ := trodVars_none hV
  have hw0 : ∀ n ∈ d0.weights Tryz.prog 28, n ≤ reachBytes := fun n hn => by
    have h1 := List.all_eq_true.1 hsz n (DataW.weights_mem_each (j := 0) (t := 28) (d := d0) (by kernel_rfl) rfl n hn)
    simpa using h1
  obtain ⟨d, a0, cap, l, q2, cap2, fs, s0, s1, rfl, hx, hr, hf, hfr, hfn⟩ := open_case (hval 0 28 _ rfl rfl) h0 hw0
  refine (topTyped tFits tAssigned d l a0 cap fs q2 cap2 s0 s1 W hx hr hf hfr hfn).mono fun e W' ⟨he, hb⟩ => ?_
  subst he
  exact ⟨_, rfl, post_law hW' rfl (by rw [Tryz.params4]; decide) (by kernel_rfl) rfl hb⟩
def argTt : Array Value := #[.agg #[.slice none 0 0, .slice none 0 0, .string ⟨#[]⟩, .slice none 0 0]]
noncomputable def bareWorld (os : Os) : World := World.holding Tryz.prog os ⟨#[], #[], []⟩
theorem laid_metTt (os : Os) : laidMet Tryz.prog Rows.topTypedRow.laid ((bareWorld os).forCall (fun _ _ => 0) ⟨#[], argTt, []⟩).memory :=
  laidMet_of_run' 8 (by kernel_rfl) (by kernel_rfl)
theorem readsTt (os : Os) {H : Type} (enc : TypeId × Value → H) : ∃ places, DataW.whole enc Tryz.prog ((bareWorld os).forCall (fun _ _ => 0) ⟨#[], argTt, []⟩).memory Tryz.f4.params.toList Rows.topTypedSpec.vars false argTt.toList 8 =
    some ([.agg [.nil, .nil, .agg [.lit (.string []), .nil]]], [], places) :=
  ⟨[], by kernel_rfl⟩
set_option maxRecDepth 100000 in
theorem liftedTt (os : Os) (started : os.Started) (H : Type) (enc : TypeId × Value → H) (F : Stop.Interp) :
    ReturnsInHanded {} Tryz.checked os 4 .any ((OpenSpec.ofChange Rows.topTypedSpec).preRow enc Tryz.prog Tryz.f4 Rows.topTypedRow.domain false Rows.topTypedRow.laid) (((OpenSpec.ofChange Rows.topTypedSpec).at F).post enc Tryz.prog Tryz.f4 false true false false) := by
  obtain ⟨places, hx⟩ := readsTt os enc
  refine returnsInHanded_of_row (C := Tryz.checked) (s := OpenSpec.ofChange Rows.topTypedSpec) own started (by kernel_rfl) Tryz.func4
    (witness_row_at (enc := enc) (C := Tryz.checked) false (bareWorld os) argTt rfl (by kernel_rfl) (by kernel_rfl) (by kernel_rfl)
      (OpenSpec.preRow_of_cond 8 hx (by kernel_rfl) (fun k hk => by cases hk) (by kernel_rfl) (laid_metTt os))) ?_
  intro W base args ds gs before hval hW _ _ hsz _ _ _
  exact contractTt H enc W base args ds gs before hval hW hsz
/-- **The statement.** -/
theorem topTyped_said : Rows.TopTypedSaid :=
  OpenClaim.holds_of_cond 4 Tryz.f4 rfl rfl rfl rfl rfl rfl rfl ⟨rfl, rfl, rfl, rfl, rfl⟩ rfl rfl rfl rfl rfl (by kernel_rfl) Tryz.func4 (by kernel_rfl)
    (of_decide_eq_true (by kernel_rfl)) (by unfold Func.isWrapper; first | (rw [if_pos (by decide +kernel)]; kernel_rfl) | (rw [if_neg (by decide +kernel)]; exact ⟨rfl, rfl⟩))
    (fun os started H enc _ F => by rw [OpenClaim.pre_eq_preRow]; exact liftedTt os started H enc F)
end Go.Proofs.YtafjjececdhmjaaGreat
