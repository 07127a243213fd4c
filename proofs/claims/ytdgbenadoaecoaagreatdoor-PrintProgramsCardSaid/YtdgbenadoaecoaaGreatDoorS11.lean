/- The reference's terms of literals and rules. Conditions: the thing lies in memory as it is told; at most 10000 terms. -/
import Derived.Test.YtdgbenadoaecoaaGreatDoorS10
import Derived.Test.YtdgbenadoaecoaaGreatDoorS4
namespace Go.Proofs.YtdgbenadoaecoaaGreatDoor
open Go.RowKit

set_option maxHeartbeats 8000000 in
set_option maxRecDepth 100000 in
theorem rLitTerms (w0 : World) (d : Nat) (x : Lt d) (acc : List Tm) (v : Value) (w : World) (h : TS w0 acc v w) (hx : LtAt w0 x) (hn : acc.length + (ltTms x).length ≤ 10000) :
    Calls Tryz.prog 126 #[v, .agg #[.int .i8 x.k, .string x.p, x.sv, .int .i8 x.r, .int .i8 (exOp d x.l), .string (exTm d x.l).v, .int .i8 (exTm d x.l).x.k, .int .i64 (exTm d x.l).x.n, .string (exTm d x.l).x.t, exSl d x.l, .int .i8 (exOp d x.g), .string (exTm d x.g).v, .int .i8 (exTm d x.g).x.k, .int .i64 (exTm d x.g).x.n, .string (exTm d x.g).x.t, exSl d x.g]] w (TPost w0 (acc ++ ltTms x) w v) := by
  obtain ⟨q, qc, hsv, hm, hats⟩ := hx.at_
  obtain ⟨pl, cl, hsl⟩ := ex_sl2 hx.l_
  obtain ⟨pg, cg, hsg⟩ := ex_sl2 hx.g_
  have hcl := fun A v w' h1 h2 => rExprTerms w0 d x.l A v w' h1 hx.l_ h2
  have hcg := fun A v w' h1 h2 => rExprTerms w0 d x.g A v w' h1 hx.g_ h2
  rw [hsl] at hcl
  rw [hsg] at hcg
  rw [hsv, hsl, hsg]
  have HCL := Lib.hid hcl; clear hcl
  have HCG := Lib.hid hcg; clear hcg
  clear hsv hsl hsg hx
  unfold maxLen at hm
  have HATS := Lib.hid hats; clear hats
  obtain ⟨i0, hi, hzz⟩ := Option.map_eq_some_iff.1 infoTm
  simp only [Prod.mk.injEq] at hzz
  obtain ⟨hz0, hz1, hz2⟩ := hzz
  have HI := Lib.hid hi; clear hi
  have HZ0 := Lib.hid hz0; clear hz0
  have HZ1 := Lib.hid hz1; clear hz1
  have HZ2 := Lib.hid hz2; clear hz2
  simp only [ltTms, List.length_append] at hn
  have HN := Lib.hid hn; clear hn
  obtain ⟨pv, cv, rfl⟩ := own_sl4 h.row
  have HTS := Lib.hid h
  have hsz := h.below.size
  clear h
  obtain ⟨V, hV⟩ : ∃ V, V = w.alloc (.cells #[.int .i8 x.k, .string x.p, .slice q x.ts.length qc, .int .i8 x.r, .int .i8 (exOp d x.l), .string (exTm d x.l).v, .int .i8 (exTm d x.l).x.k, .int .i64 (exTm d x.l).x.n, .string (exTm d x.l).x.t, .slice pl (exLen d x.l) cl, .int .i8 (exOp d x.g), .string (exTm d x.g).v, .int .i8 (exTm d x.g).x.k, .int .i64 (exTm d x.g).x.n, .string (exTm d x.g).x.t, .slice pg (exLen d x.g) cg] 80) := ⟨_, rfl⟩
  have HBV := Lib.hid (show V.heap[w.heap.size]? = some (.cells #[.int .i8 x.k, .string x.p, .slice q x.ts.length qc, .int .i8 x.r, .int .i8 (exOp d x.l), .string (exTm d x.l).v, .int .i8 (exTm d x.l).x.k, .int .i64 (exTm d x.l).x.n, .string (exTm d x.l).x.t, .slice pl (exLen d x.l) cl, .int .i8 (exOp d x.g), .string (exTm d x.g).v, .int .i8 (exTm d x.g).x.k, .int .i64 (exTm d x.g).x.n, .string (exTm d x.g).x.t, .slice pg (exLen d x.g) cg] 80 (0, 0)) by rw [hV]; exact heap_alloc_new w _)
  have HTV := Lib.hid (show TS w0 acc (.slice pv acc.length cv) V by rw [hV]; exact HTS.out.alloc _)
  have HGV := Lib.hid (show TG w (.slice pv acc.length cv) (.slice pv acc.length cv) V by rw [hV]; exact (TG.refl _ _).alloc _)
  have hszV : w0.heap.size ≤ V.heap.size := HTV.out.below.size
  have HPO := Lib.hid (show ltTms x = x.ts ++ (exTms d x.l ++ exTms d x.g) from rfl)
  go_enter Tryz.func126, Tryz.ntmps126
  go_wp2_with fail
  rw [← hV]
  clear hV
  go_loopw [0, 5] (fun v i wr => ∃ (k : Nat) (A : List Tm), k ≤ x.ts.length ∧ i = .int .i64 k ∧ A = acc ++ x.ts.take k ∧ TS w0 A v wr ∧ TG V (.slice pv acc.length cv) v wr) (fun _ i _ => x.ts.length - (intOf i).toNat)
  case atStart => exact ⟨0, acc, by omega, rfl, by simp, HTV.out, TG.refl _ _⟩
  case round =>
    obtain ⟨k, A, hk, rfl, hA, hts, htg⟩ := hrel
    rename World => wr
    have HAA := Lib.hid hA; clear hA
    have hbx := htg.keeps HTV.out.row HBV.out (by decide)
    obtain ⟨pr, cr, rfl⟩ := own_sl4 hts.row
    have HT2 := Lib.hid hts; clear hts
    have HG2 := Lib.hid htg; clear htg
    have hszr := HT2.out.below.size
    obtain ⟨y0, y1, y2, y3, y4, y5, y6, y7, y8, y9, y10, y11, y12, y13, y14, y15⟩ := sixteen hbx
    clear hbx
    by_cases hlt : k < x.ts.length
    · rcases HATS.out with h0 | ⟨a2, o2, rfl, hta⟩
      · omega
      · obtain ⟨c0, c1, c2, c3⟩ := (hta.at_ k hlt).up HT2.out.below hta.lt
        clear hta
        have hal : A.length ≤ 9999 := by
          rw [HAA.out]
          have h1 := HN.out
          simp only [List.length_append, List.length_take]
          omega
        have htk : x.ts.take (k + 1) = x.ts.take k ++ [x.ts[k]] := List.take_succ_eq_append_getElem hlt
        obtain ⟨t, ht⟩ : ∃ t, t = x.ts[k] := ⟨_, rfl⟩
        rw [← ht] at c0 c1 c2 c3 htk
        have HTK := Lib.hid htk
        clear ht htk
        have hk0 : (0 : Int) ≤ (k : Int) := by omega
        have hki : (k : Int) < (x.ts.length : Int) := by omega
        go_wp2_with (at_builtin; refine wpApp_row rfl _ _ 63 rfl w0.heap.size 56 i0 _ 4 48 Tryz.underlying63 HI.out HZ0.out HZ1.out HZ2.out rfl (by decide) _ _ _ rfl (HT2.out.alloc _).row ⟨wr.heap.size, 0, none⟩ 1 1 t.cells rfl rfl (by simpa [Tm.cells, Vl.cells] using new_tm wr t.cells 56) ?c1 ?c2 ?c3 ?c4 ?_)
        case c1 => exact tm_one _
        case c2 => unfold maxLen; omega
        case c3 => omega
        case c4 => simp; omega
        intro v1 w2 hown hgrow _ hpl
        have HT3 := Lib.hid ((HT2.out.alloc _).grow hown hgrow)
        have HG3 := Lib.hid ((HG2.out.alloc _).step hgrow (by simpa using hpl))
        clear hown hgrow hpl y0 y1 y2 y3 y4 y5 y6 y7 y8 y9 y10 y11 y12 y13 y14 y15 c0 c1 c2 c3
        obtain ⟨A3, hA3⟩ : ∃ A3, A3 = A ++ [t] := ⟨_, rfl⟩
        rw [← hA3] at HT3
        have HA3 := Lib.hid (show A3 = acc ++ x.ts.take (k + 1) by rw [hA3, HAA.out, HTK.out, List.append_assoc]); clear hA3
        obtain ⟨p3, c3, rfl⟩ := own_sl4 HT3.out.row
        go_wp2_with fail
        go_roundw
        case rel => exact ⟨k + 1, A3, by omega, by go_num, HA3.out, HT3.out, HG3.out⟩
        case measure => simp [intOf]; omega
    · obtain rfl : k = x.ts.length := by omega
      have HA2 := Lib.hid (show A = acc ++ x.ts by rw [HAA.out, List.take_of_length_le (Nat.le_refl _)])
      obtain ⟨A3, hA3⟩ : ∃ A3, A3 = A ++ exTms d x.l := ⟨_, rfl⟩
      have hc := HCL.out A _ wr HT2.out (by rw [HA2.out]; have h1 := HN.out; simp only [List.length_append]; omega)
      rw [← hA3] at hc
      have HC := Lib.hid hc; clear hc
      go_wp2_with fail
      refine HC.out.mono ?_
      rintro e w3 ⟨p3, c3, rfl, hts, htg⟩
      have HT3 := Lib.hid hts; clear hts
      have htg2 := HG2.out.trans htg
      have hbx := htg2.keeps HTV.out.row HBV.out (by decide)
      have HG3 := Lib.hid htg2; clear htg htg2
      clear y0 y1 y2 y3 y4 y5 y6 y7 y8 y9 y10 y11 y12 y13 y14 y15
      obtain ⟨y0, y1, y2, y3, y4, y5, y6, y7, y8, y9, y10, y11, y12, y13, y14, y15⟩ := sixteen hbx
      clear hbx
      obtain ⟨A4, hA4⟩ : ∃ A4, A4 = A3 ++ exTms d x.g := ⟨_, rfl⟩
      have hc := HCG.out A3 _ w3 HT3.out (by rw [hA3, HA2.out]; have h1 := HN.out; simp only [List.length_append]; omega)
      rw [← hA4] at hc
      have HC2 := Lib.hid hc; clear hc
      have HF := Lib.hid (show acc ++ ltTms x = A4 by rw [hA4, hA3, HA2.out, HPO.out]; simp); clear hA4 hA3
      go_wp2_with fail
      refine HC2.out.mono ?_
      rintro e w4 ⟨p4, c4, rfl, hts, htg⟩
      have HT4 := Lib.hid hts; clear hts
      have HG4 := Lib.hid (HG3.out.trans htg); clear htg
      clear y0 y1 y2 y3 y4 y5 y6 y7 y8 y9 y10 y11 y12 y13 y14 y15
      go_wp2_with fail
      go_ret
      exact ⟨p4, c4, by rw [HF.out]; rfl, by rw [HF.out]; exact HT4.out, by rw [HF.out]; exact HGV.out.trans HG4.out⟩
end Go.Proofs.YtdgbenadoaecoaaGreatDoor
