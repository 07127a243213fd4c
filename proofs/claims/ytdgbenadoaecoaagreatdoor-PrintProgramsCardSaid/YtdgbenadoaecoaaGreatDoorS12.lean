/- The reference's terms and variables of rules. Conditions: the rule lies in memory as it is told; at most 10000 terms. -/
import Derived.Test.YtdgbenadoaecoaaGreatDoorS11
import Derived.Test.YtdgbenadoaecoaaGreatDoorS6
namespace Go.Proofs.YtdgbenadoaecoaaGreatDoor
open Go.RowKit

set_option maxHeartbeats 8000000 in
set_option maxRecDepth 100000 in
theorem rRuleTerms (d : Nat) (p : ByteArray) (hp : Option Addr) (hc : Nat) (hs : List Ag) (bp : Option Addr) (bc : Nat) (bs : List (Lt d)) (w : World)
    (hh : AgsAt w hp hs) (hb : LtsAt w d bp bs) (hr : RuR p hs bs) (hn : (ruTms hs bs).length ≤ 10000) :
    Calls Tryz.prog 101 #[.agg #[.string p, .slice hp hs.length hc, .slice bp bs.length bc]] w fun e w' => ∃ pt ct, e = .returned (.slice pt (ruTms hs bs).length ct) ∧ TS w (ruTms hs bs) (.slice pt (ruTms hs bs).length ct) w' := by
  have hm1 := hr.hl
  have hm2 := hr.bl
  unfold maxLen at hm1 hm2
  clear hr
  have HH := Lib.hid hh; clear hh
  have HB := Lib.hid hb; clear hb
  obtain ⟨i0, hi, hzz⟩ := Option.map_eq_some_iff.1 infoTm
  simp only [Prod.mk.injEq] at hzz
  obtain ⟨hz0, hz1, hz2⟩ := hzz
  have HI := Lib.hid hi; clear hi
  have HZ0 := Lib.hid hz0; clear hz0
  have HZ1 := Lib.hid hz1; clear hz1
  have HZ2 := Lib.hid hz2; clear hz2
  have HPO := Lib.hid (show ruTms hs bs = hs.map (·.t) ++ bs.flatMap ltTms from rfl)
  have HN := Lib.hid (show hs.length + (bs.flatMap ltTms).length ≤ 10000 by rw [ruTms, List.length_append, List.length_map] at hn; exact hn)
  clear hn
  obtain ⟨R, hR⟩ : ∃ R, R = ruTms hs bs := ⟨_, rfl⟩
  rw [← hR] at HPO ⊢
  clear hR
  obtain ⟨V, hV⟩ : ∃ V, V = w.alloc (.cells #[.string p, .slice hp hs.length hc, .slice bp bs.length bc] 25) := ⟨_, rfl⟩
  have HBV := Lib.hid (show V.heap[w.heap.size]? = some (.cells #[.string p, .slice hp hs.length hc, .slice bp bs.length bc] 25 (0, 0)) by rw [hV]; exact heap_alloc_new w _)
  have HTV := Lib.hid (show TS w [] (.slice none 0 0) V by rw [hV]; exact ⟨below_alloc _ _, World.ownsRowF_nil _ _ _ _⟩)
  go_enter Tryz.func101, Tryz.ntmps101
  go_wp2_with fail
  rw [← hV]
  clear hV
  go_loopw [3, 4] (fun v i wr => ∃ (k : Nat) (A : List Tm), k ≤ hs.length ∧ i = .int .i64 k ∧ A = (hs.map (·.t)).take k ∧ TS w A v wr ∧ TG V (.slice none 0 0) v wr) (fun _ i _ => hs.length - (intOf i).toNat)
  case atStart => exact ⟨0, [], by omega, rfl, by simp, HTV.out, TG.refl _ _⟩
  case round =>
    obtain ⟨k, A, hk, rfl, hA, hts, htg⟩ := hrel
    rename World => wr
    have HAA := Lib.hid hA; clear hA
    have hbx := htg.keeps HTV.out.row HBV.out (by decide)
    obtain ⟨pr, cr, rfl⟩ := own_sl4 hts.row
    have HT2 := Lib.hid hts; clear hts
    have HG2 := Lib.hid htg; clear htg
    have hszr := HT2.out.below.size
    obtain ⟨y0, y1, y2⟩ := three hbx
    have HBX := Lib.hid hbx; clear hbx
    by_cases hlt : k < hs.length
    · rcases HH.out with h0 | ⟨a2, o2, rfl, ha2, hck⟩
      · omega
      · obtain ⟨c0, c1, c2, c3⟩ := (hck k hlt).2.up HT2.out.below ha2
        clear hck
        have hal : A.length ≤ 9999 := by
          rw [HAA.out]
          have h1 := HN.out
          simp only [List.length_take, List.length_map]
          omega
        have htk : (hs.map (·.t)).take (k + 1) = (hs.map (·.t)).take k ++ [hs[k].t] := by
          rw [List.take_succ_eq_append_getElem (by simpa using hlt), List.getElem_map]
        obtain ⟨t, ht⟩ : ∃ t, t = hs[k].t := ⟨_, rfl⟩
        rw [← ht] at c0 c1 c2 c3 htk
        have HTK := Lib.hid htk
        clear ht htk
        have hk0 : (0 : Int) ≤ (k : Int) := by omega
        have hki : (k : Int) < (hs.length : Int) := by omega
        go_wp2_with (at_builtin; refine wpApp_row rfl _ _ 63 rfl w.heap.size 56 i0 _ 4 48 Tryz.underlying63 HI.out HZ0.out HZ1.out HZ2.out rfl (by decide) _ _ _ rfl (HT2.out.alloc _).row ⟨wr.heap.size, 0, none⟩ 1 1 t.cells rfl rfl (by simpa [Tm.cells, Vl.cells] using new_tm wr t.cells 56) ?c1 ?c2 ?c3 ?c4 ?_)
        case c1 => exact tm_one _
        case c2 => unfold maxLen; omega
        case c3 => omega
        case c4 => first | omega | (simp; omega)
        intro v1 w2 hown hgrow _ hpl
        have HT3 := Lib.hid ((HT2.out.alloc _).grow hown hgrow)
        have HG3 := Lib.hid ((HG2.out.alloc _).step hgrow (by simpa using hpl))
        clear hown hgrow hpl y0 y1 y2 c0 c1 c2 c3
        obtain ⟨A3, hA3⟩ : ∃ A3, A3 = A ++ [t] := ⟨_, rfl⟩
        rw [← hA3] at HT3
        have HA3 := Lib.hid (show A3 = (hs.map (·.t)).take (k + 1) by rw [hA3, HAA.out, HTK.out]); clear hA3
        obtain ⟨p3, c3, rfl⟩ := own_sl4 HT3.out.row
        go_wp2_with fail
        go_roundw
        case rel => exact ⟨k + 1, A3, by omega, by go_num, HA3.out, HT3.out, HG3.out⟩
        case measure => simp [intOf]; omega
    · obtain rfl : k = hs.length := by omega
      have HA2 := Lib.hid (show A = hs.map (·.t) by rw [HAA.out, List.take_of_length_le (by simp)])
      rename World => wq
      go_wp2_with fail
      clear y0 y1 y2
      go_loopw [3, 5] (fun v i wr => ∃ (k : Nat) (B : List Tm), k ≤ bs.length ∧ i = .int .i64 k ∧ B = A ++ (bs.take k).flatMap ltTms ∧ TS w B v wr ∧ TG V (.slice none 0 0) v wr) (fun _ i _ => bs.length - (intOf i).toNat)
      case atStart => exact ⟨0, A, by omega, rfl, by simp, HT2.out, HG2.out⟩
      case round =>
        obtain ⟨k, B, hk2, rfl, hB, hts, htg⟩ := hrel
        rename World => wr
        have HBB := Lib.hid hB; clear hB
        have hbx := htg.keeps HTV.out.row HBV.out (by decide)
        obtain ⟨pr2, cr2, rfl⟩ := own_sl4 hts.row
        have HT3 := Lib.hid hts; clear hts
        have HG3 := Lib.hid htg; clear htg
        obtain ⟨y0, y1, y2⟩ := three hbx
        clear hbx
        by_cases hlt : k < bs.length
        · rcases HB.out.1 with h0 | ⟨a2, o2, rfl, ha2, hcs⟩
          · omega
          have hck := (hcs k hlt).up HT3.out.below ha2
          clear hcs
          have hxx := HB.out.2 bs[k] (List.getElem_mem hlt)
          have hle := flat_le ltTms bs k hlt
          have hfs := flat_snoc ltTms bs k hlt
          obtain ⟨x, hx⟩ : ∃ x, x = bs[k] := ⟨_, rfl⟩
          rw [← hx] at hck hxx hle hfs
          clear hx
          obtain ⟨q, qc, hsv, _, _⟩ := hxx.at_
          obtain ⟨pl, cl, hsl⟩ := ex_sl2 hxx.l_
          obtain ⟨pg, cg, hsg⟩ := ex_sl2 hxx.g_
          have hcall := rLitTerms w d x B _ wr HT3.out hxx (by rw [HBB.out, HA2.out]; have h1 := HN.out; simp only [List.length_append, List.length_map]; omega)
          obtain ⟨B2, hB2⟩ : ∃ B2, B2 = B ++ ltTms x := ⟨_, rfl⟩
          rw [← hB2] at hcall
          have HB2 := Lib.hid (show B2 = A ++ (bs.take (k + 1)).flatMap ltTms by rw [hB2, HBB.out, hfs, List.append_assoc])
          obtain ⟨c0, c1, c2, c3, c4, c5, c6, c7, c8, c9, c10, c11, c12, c13, c14, c15⟩ := hck
          rw [hsv] at c2 hcall
          rw [hsl] at c9 hcall
          rw [hsg] at c15 hcall
          have HCALL := Lib.hid hcall
          clear hcall hsv hsl hsg hB2 hle hfs hxx
          have hk0 : (0 : Int) ≤ (k : Int) := by omega
          have hki : (k : Int) < (bs.length : Int) := by omega
          go_wp2_with fail
          refine HCALL.out.mono ?_
          rintro e w3 ⟨p3, c3', rfl, hts, htg⟩
          have HT4 := Lib.hid hts; clear hts
          have HG4 := Lib.hid (HG3.out.trans htg); clear htg
          clear y0 y1 y2 c0 c1 c2 c3 c4 c5 c6 c7 c8 c9 c10 c11 c12 c13 c14 c15
          go_wp2_with fail
          go_roundw
          case rel => exact ⟨k + 1, B2, by omega, by go_num, HB2.out, HT4.out, HG4.out⟩
          case measure => simp [intOf]; omega
        · obtain rfl : k = bs.length := by omega
          have HF := Lib.hid (show R = B by rw [HPO.out, HBB.out, HA2.out, List.take_of_length_le (Nat.le_refl _)])
          go_wp2_with fail
          go_ret
          exact ⟨pr2, cr2, by rw [HF.out]; rfl, by rw [HF.out]; exact HT3.out⟩
end Go.Proofs.YtdgbenadoaecoaaGreatDoor
