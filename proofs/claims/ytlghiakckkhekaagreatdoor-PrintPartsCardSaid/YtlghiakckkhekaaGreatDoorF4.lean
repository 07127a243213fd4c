/- The walk of PrintParts. Conditions: the atom and the literal lie in memory as they are told, their lists are not too long; the tables lie as the program lays them. -/
import Derived.Test.YtlghiakckkhekaaGreatDoorF3
import Derived.Test.YtlghiakckkhekaaGreatDoorQ2
import Derived.Deep.CutRange
namespace Go.Proofs.YtlghiakckkhekaaGreatDoor
open Go.RowKit

set_option maxHeartbeats 16000000 in
set_option maxRecDepth 100000 in
theorem printParts (d : Nat) (p : ByteArray) (sv : Value) (ts : List Tm) (x : Lt d) (w : World) (hp : p.size ≤ maxLen) (hts : TmSl w sv ts) (htr : TmsR ts) (htb : ts.length ≤ 2932031007317) (hx : LtAt w x) (hr : LtR x) (hb : LtB x) (hT : Tabs w) (hRl : RelsAt w) :
    Calls Tryz.prog 3 #[.agg #[.string p, sv], .agg #[.int .i8 x.k, .string x.p, x.sv, .int .i8 x.r, .int .i8 (exOp d x.l), .string (exTm d x.l).v, .int .i8 (exTm d x.l).x.k, .int .i64 (exTm d x.l).x.n, .string (exTm d x.l).x.t, exSl d x.l, .int .i8 (exOp d x.g), .string (exTm d x.g).v, .int .i8 (exTm d x.g).x.k, .int .i64 (exTm d x.g).x.n, .string (exTm d x.g).x.t, exSl d x.g]] w fun r w' => r = .returned (.bool true) ∧ Below w.heap.size w w' := by
  obtain ⟨d, rfl⟩ : ∃ e, d = e + 1 := by
    cases d with
    | zero => exact nomatch x.l
    | succ e => exact ⟨e, rfl⟩
  have HT := Lib.hid hT; clear hT
  have HRL := Lib.hid hRl; clear hRl
  have HAT := Lib.hid hts
  have HX := Lib.hid hx
  have HR := Lib.hid hr; clear hr
  have HLB := Lib.hid hb; clear hb
  obtain ⟨q, cap, hsv, _, _⟩ := hts
  subst hsv
  obtain ⟨q2, cap2, hsx, _, _⟩ := hx.at_
  obtain ⟨pl, cl, hsl⟩ := ex_sl2 hx.l_
  obtain ⟨pg, cg, hsg⟩ := ex_sl2 hx.g_
  clear hx
  have hca := fun w' h1 h2 => twinAtom p ts (.slice q ts.length cap) w' h1 htb h2
  have hcl := fun w' h1 h2 => twinLit (d + 1) x w' h1 HR.out HLB.out h2
  have hrl := fun w' h1 => rLitT (d + 1) x w' h1 HR.out
  have hll := fun y B w' h1 h2 h3 h4 => leftLit (d + 1) x y B w' h1 HLB.out h2 h3 h4
  rw [hsx, hsl, hsg] at hcl hrl hll ⊢
  have HCA := Lib.hid hca
  have HCL := Lib.hid hcl
  have HRLT := Lib.hid hrl
  have HLL := Lib.hid hll
  have HSX := Lib.hid hsx
  have HSL := Lib.hid hsl
  have HSG := Lib.hid hsg
  have HTR := Lib.hid htr
  have HTB := Lib.hid htb
  have HP := Lib.hid hp
  clear hca hcl hrl hll hsx hsl hsg htr htb hp
  obtain ⟨W, hW⟩ : ∃ W, W = (w.alloc (.cells #[.string p, .slice q ts.length cap] 24)).alloc (.cells #[.int .i8 x.k, .string x.p, .slice q2 x.ts.length cap2, .int .i8 x.r, .int .i8 (exOp (d + 1) x.l), .string (exTm (d + 1) x.l).v, .int .i8 (exTm (d + 1) x.l).x.k, .int .i64 (exTm (d + 1) x.l).x.n, .string (exTm (d + 1) x.l).x.t, .slice pl (exLen (d + 1) x.l) cl, .int .i8 (exOp (d + 1) x.g), .string (exTm (d + 1) x.g).v, .int .i8 (exTm (d + 1) x.g).x.k, .int .i64 (exTm (d + 1) x.g).x.n, .string (exTm (d + 1) x.g).x.t, .slice pg (exLen (d + 1) x.g) cg] 38) := ⟨_, rfl⟩
  have HBW := Lib.hid (show Below w.heap.size w W by rw [hW]; exact (below_alloc _ _).trans ((below_alloc _ _).mono (by simp)))
  have hsW : W.heap.size = w.heap.size + 1 + 1 := by rw [hW]; simp
  have HBA := Lib.hid (show W.heap[w.heap.size]? = some (.cells #[.string p, .slice q ts.length cap] 24 (0, 0)) by rw [hW, Lib.alloc_old _ _ _ (by simp)]; exact heap_alloc_new w _)
  have HBL := Lib.hid (show W.heap[w.heap.size + 1]? = some (.cells #[.int .i8 x.k, .string x.p, .slice q2 x.ts.length cap2, .int .i8 x.r, .int .i8 (exOp (d + 1) x.l), .string (exTm (d + 1) x.l).v, .int .i8 (exTm (d + 1) x.l).x.k, .int .i64 (exTm (d + 1) x.l).x.n, .string (exTm (d + 1) x.l).x.t, .slice pl (exLen (d + 1) x.l) cl, .int .i8 (exOp (d + 1) x.g), .string (exTm (d + 1) x.g).v, .int .i8 (exTm (d + 1) x.g).x.k, .int .i64 (exTm (d + 1) x.g).x.n, .string (exTm (d + 1) x.g).x.t, .slice pg (exLen (d + 1) x.g) cg] 38 (0, 0)) by rw [hW]; simpa using heap_alloc_new (w.alloc _) _)
  obtain ⟨xa0, xa1⟩ := two HBA.out
  obtain ⟨xl0, xl1, xl2, xl3, xl4, xl5, xl6, xl7, xl8, xl9, xl10, xl11, xl12, xl13, xl14, xl15⟩ := sixteen HBL.out
  go_enter Tryz.func3, Tryz.ntmps3
  go_wp2_with fail
  rw [← hW, ← hsW]
  clear hW xa0 xa1 xl0 xl1 xl2 xl3 xl4 xl5 xl6 xl7 xl8 xl9 xl10 xl11 xl12 xl13 xl14 xl15
  refine (beyondLits (d + 1) [x, ltA d p (.slice q ts.length cap) ts] (some ⟨W.heap.size, 0, none⟩) 2 _ (by simp) (lts_two (b := W.heap.size) (by rw [HSX.out, HSL.out, HSG.out]; exact heap_alloc_new W _) (HX.out.up (HBW.out.trans ((below_alloc _ _).mono (by omega)))) (HAT.out.up (HBW.out.trans ((below_alloc _ _).mono (by omega))))) (fun z hz => ?_)).mono ?_
  · simp at hz
    rcases hz with rfl | rfl
    · exact HLB.out
    · exact ⟨HTB.out, exZ_b d, exZ_b d⟩
  rintro r V ⟨b, rfl, hb⟩
  have hbV := (below_alloc W _).trans (hb.mono (by simp))
  have HBV := Lib.hid (HBW.out.trans (hbV.mono (by omega)))
  have hsV : W.heap.size < V.heap.size := by have := hb.size; simp at this; omega
  have hba := (hbV.block w.heap.size (by omega)).trans HBA.out
  have hbl := (hbV.block (w.heap.size + 1) (by omega)).trans HBL.out
  clear hb hbV HBA HBL HBW
  cases b
  case true =>
    go_wp2_with fail
    go_ret
    exact ⟨rfl, HBV.out⟩
  case false =>
    obtain ⟨xa0, xa1⟩ := two hba
    obtain ⟨xl0, xl1, xl2, xl3, xl4, xl5, xl6, xl7, xl8, xl9, xl10, xl11, xl12, xl13, xl14, xl15⟩ := sixteen hbl
    have HBA := Lib.hid hba; clear hba
    have HBL := Lib.hid hbl; clear hbl
    have HAT := Lib.hid (HAT.out.up HBV.out)
    have HX := Lib.hid (HX.out.up HBV.out)
    have HT := Lib.hid (HT.out.at HBV.out)
    have hk1 : w.heap.size < V.heap.size := by omega
    have hk2 : w.heap.size + 1 < V.heap.size := by omega
    go_wp2_with fail
    go_cut [5, 6] from 16 to 19 (fun t5 t6 wx => TwoTw V p ts x t5 t6 wx)
    case first =>
      refine wp_region_any (by kernel_rfl) ?_
      change wpAny _ _ _ _ 8 #[false, false, false, false, false, false, false, false] _ _
      refine pair_region rfl ⟨rfl, rfl, rfl⟩ ⟨rfl, rfl, rfl⟩ ⟨rfl, rfl, rfl⟩ ⟨rfl, rfl, rfl⟩ ⟨rfl, rfl, rfl⟩ ⟨rfl, rfl, rfl⟩ ⟨rfl, rfl, rfl⟩ ⟨rfl, rfl, rfl⟩ (by kernel_rfl) (fun _ _ => by kernel_rfl) (fun _ _ => by kernel_rfl)
        _ V _ (Below.refl _ V).drew (by show 20 ≤ 87; decide) w.heap.size (w.heap.size + 1) rfl rfl
        #[.string p, .slice q ts.length cap] #[.int .i8 x.k, .string x.p, .slice q2 x.ts.length cap2, .int .i8 x.r, .int .i8 (exOp (d + 1) x.l), .string (exTm (d + 1) x.l).v, .int .i8 (exTm (d + 1) x.l).x.k, .int .i64 (exTm (d + 1) x.l).x.n, .string (exTm (d + 1) x.l).x.t, .slice pl (exLen (d + 1) x.l) cl, .int .i8 (exOp (d + 1) x.g), .string (exTm (d + 1) x.g).v, .int .i8 (exTm (d + 1) x.g).x.k, .int .i64 (exTm (d + 1) x.g).x.n, .string (exTm (d + 1) x.g).x.t, .slice pg (exLen (d + 1) x.g) cg] #[.string ⟨#[]⟩, .slice none 0 0] #[.int .i8 0, .string ⟨#[]⟩, .slice none 0 0, .int .i8 0, .int .i8 0, .string ⟨#[]⟩, .int .i8 0, .int .i64 0, .string ⟨#[]⟩, .slice none 0 0, .int .i8 0, .string ⟨#[]⟩, .int .i8 0, .int .i64 0, .string ⟨#[]⟩, .slice none 0 0] HBA.out HBL.out _ _ Tryz.underlying24 rfl Tryz.underlying38 rfl (by kernel_rfl) (by kernel_rfl) rfl rfl (fun _ => by kernel_rfl) (fun _ => by kernel_rfl)
        (fun T B w' => ∃ a, T = #[.string p, .slice (some ⟨a, 0, none⟩) ts.length (ts.length + 1)] ∧ B ≤ a ∧ TwTm w' a ts) (fun T B w' => ∃ y : Lt (d + 1), T = #[.int .i8 y.k, .string y.p, y.sv, .int .i8 y.r, .int .i8 (exOp (d + 1) y.l), .string (exTm (d + 1) y.l).v, .int .i8 (exTm (d + 1) y.l).x.k, .int .i64 (exTm (d + 1) y.l).x.n, .string (exTm (d + 1) y.l).x.t, exSl (d + 1) y.l, .int .i8 (exOp (d + 1) y.g), .string (exTm (d + 1) y.g).v, .int .i8 (exTm (d + 1) y.g).x.k, .int .i64 (exTm (d + 1) y.g).x.n, .string (exTm (d + 1) y.g).x.t, exSl (d + 1) y.g] ∧ LtLike x y ∧ LtTw w' B y)
        (fun T => ⟨fun B B' w1 w2 hx hB hs hb => by obtain ⟨a, e, h1, h2⟩ := hx; exact ⟨a, e, by omega, h2.of_block (Nat.lt_of_lt_of_le h2.lt hs) (hb a h1 h2.lt)⟩⟩)
        (fun T => ⟨fun B B' w1 w2 hx hB hs hb => by obtain ⟨y, e, h1, h2⟩ := hx; exact ⟨y, e, h1, h2.up hB hs hb⟩⟩) ?_ ?_ ?_
      · intro w' h
        refine (HCA.out w' (HAT.out.up h) (HT.out.at h)).mono ?_
        rintro r w2 ⟨a, rfl, ha1, htw, hb⟩
        exact ⟨_, rfl, rfl, by simp [Value.oneCell'], ⟨a, rfl, ha1, htw⟩, hb⟩
      · intro w' h
        refine (HCL.out w' (HX.out.up h) (HT.out.at h)).mono ?_
        rintro r w3 ⟨y, rfl, hlk, htl, hb⟩
        refine ⟨_, rfl, rfl, ?_, ⟨y, rfl, hlk, htl⟩, hb⟩
        obtain ⟨ay, hy1, _, _⟩ := htl.at_
        obtain ⟨pf, cf, hyl⟩ := ex_sl2 (htl.at (hlk.b HLB.out)).l_
        obtain ⟨ph, ch, hyg⟩ := ex_sl2 (htl.at (hlk.b HLB.out)).g_
        rw [hy1, hyl, hyg]
        simp [Value.oneCell']
      · rintro A wx T1 T2 bt bm hS hB e5 e6 z5 z6 v5 v6 ⟨a, rfl, ha, htw⟩ ⟨y, rfl, hlk, hltw⟩
        rw [hS.form (by show 20 ≤ 87; decide), e5, e6]
        have HF := Lib.hid (show TwoTw V p ts x (.pointer (some ⟨bt, 0, none⟩)) (.pointer (some ⟨bm, 0, none⟩)) wx from ⟨bt, bm, a, y, rfl, rfl, z5, z6, v5, v6, htw, hlk, hltw, hB⟩); clear v5 v6 htw hlk hltw hB e5 e6
        generalize A.eval (.tmp 16) = u16
        generalize A.eval (.tmp 17) = u17
        generalize A.eval (.tmp 18) = u18
        generalize A.eval (.tmp 19) = u19
        simp only [Act.put, List.setIfInBounds_toArray, List.set_cons_succ, List.set_cons_zero]
        go_wp2_with fail
        go_meet
        exact HF.out
    case rest =>
      as_aux_lemma =>
        obtain ⟨bt, bm, a, y, rfl, rfl, hbt, hbm, hT2, hM2, hAw, hlk, hLw, hbc⟩ := hcut
        obtain ⟨ay, hy1, _, _⟩ := hLw.at_
        obtain ⟨pf, cf, hyl⟩ := ex_sl2 (hLw.at (hlk.b HLB.out)).l_
        obtain ⟨ph, ch, hyg⟩ := ex_sl2 (hLw.at (hlk.b HLB.out)).g_
        have hpl := fun w' h1 h2 h3 => pLitT (d + 1) y w' h1 (hlk.r HR.out) h2 h3
        have hll := fun w' h1 h3 h4 => HLL.out y V.heap.size w' h1 hlk h3 h4
        rw [hy1, hyl, hyg] at hM2 hpl hll
        have HPL := Lib.hid hpl; clear hpl
        have HLL := Lib.hid hll; clear hll
        have HLK := Lib.hid hlk; clear hlk
        have HLW := Lib.hid hLw; clear hLw
        have HAW := Lib.hid hAw; clear hAw
        clear hy1 hyl hyg
        have hbA := (hbc.block w.heap.size hk1).trans HBA.out
        have hbL := (hbc.block (w.heap.size + 1) hk2).trans HBL.out
        have HAT := Lib.hid (HAT.out.up hbc)
        have HX := Lib.hid (HX.out.up hbc)
        have HT := Lib.hid (HT.out.at hbc)
        have HRL := Lib.hid (HRL.out.at (HBV.out.trans (hbc.mono (by omega))))
        have HBC := Lib.hid (HBV.out.trans (hbc.mono (by omega)))
        have lA := (Array.getElem?_eq_some_iff.1 hbA).1
        have lL := (Array.getElem?_eq_some_iff.1 hbL).1
        have lT := (Array.getElem?_eq_some_iff.1 hT2).1
        have lM := (Array.getElem?_eq_some_iff.1 hM2).1
        clear hbc
        have HA := Lib.hid hbA; clear hbA
        have HL := Lib.hid hbL; clear hbL
        have HTb := Lib.hid hT2; clear hT2
        have HMb := Lib.hid hM2; clear hM2
        clear HBA HBL HBV xa0 xa1 xl0 xl1 xl2 xl3 xl4 xl5 xl6 xl7 xl8 xl9 xl10 xl11 xl12 xl13 xl14 xl15
        have Hb := Lib.hid (Below.refl wc.heap.size wc)
        obtain ⟨xa0, xa1⟩ := two ((Hb.out.block _ lA).trans HA.out)
        go_wp2_with fail
        refine (rAtomT p _ ts _ HP.out (HAT.out.up Hb.out) HTR.out).mono ?_
        rintro r v0 ⟨rfl, hb⟩
        have Hb := Lib.hid (Hb.out.trans (hb.mono Hb.out.size)); clear hb xa0 xa1
        obtain ⟨xt0, xt1⟩ := two ((Hb.out.block _ lT).trans HTb.out)
        go_wp2_with fail
        refine (pAtomT p _ ts _ HP.out ((HAW.out.low Hb.out).sl HTB.out) HTR.out (HT.out.at Hb.out)).mono ?_
        rintro r v1 ⟨rfl, hb⟩
        have Hb := Lib.hid (Hb.out.trans (hb.mono Hb.out.size)); clear hb xt0 xt1
        obtain ⟨s1, hs⟩ : ∃ s, s = (⟨(txt (atOk p ts) (atomL p ts)).toArray⟩ : ByteArray) := ⟨_, rfl⟩
        obtain ⟨c1, hc⟩ : ∃ c, c = okCode (atOk p ts) 40 := ⟨_, rfl⟩
        rw [← hs, ← hc]
        clear hs hc
        as_aux_lemma =>
          obtain ⟨xa0, xa1⟩ := two ((Hb.out.block _ lA).trans HA.out)
          go_wp2_with fail
          refine (rQueryT p _ ts _ HP.out (HAT.out.up Hb.out) HTR.out).mono ?_
          rintro r v2 ⟨rfl, hb⟩
          have Hb := Lib.hid (Hb.out.trans (hb.mono Hb.out.size)); clear hb xa0 xa1
          obtain ⟨xt0, xt1⟩ := two ((Hb.out.block _ lT).trans HTb.out)
          go_wp2_with fail
          refine (pQueryT p _ ts _ HP.out ((HAW.out.low Hb.out).sl HTB.out) HTR.out (HT.out.at Hb.out)).mono ?_
          rintro r v3 ⟨rfl, hb⟩
          have Hb := Lib.hid (Hb.out.trans (hb.mono Hb.out.size)); clear hb xt0 xt1
          obtain ⟨s3, hs⟩ : ∃ s, s = (⟨(txt (atOk p ts) (atomL p ts ++ [63])).toArray⟩ : ByteArray) := ⟨_, rfl⟩
          obtain ⟨c3, hc⟩ : ∃ c, c = okCode (atOk p ts) 40 := ⟨_, rfl⟩
          rw [← hs, ← hc]
          clear hs hc
          as_aux_lemma =>
            obtain ⟨xl0, xl1, xl2, xl3, xl4, xl5, xl6, xl7, xl8, xl9, xl10, xl11, xl12, xl13, xl14, xl15⟩ := sixteen ((Hb.out.block _ lL).trans HL.out)
            go_wp2_with fail
            refine (HRLT.out _ (HX.out.up Hb.out)).mono ?_
            rintro r v4 ⟨rfl, hb⟩
            have Hb := Lib.hid (Hb.out.trans (hb.mono Hb.out.size)); clear hb xl0 xl1 xl2 xl3 xl4 xl5 xl6 xl7 xl8 xl9 xl10 xl11 xl12 xl13 xl14 xl15
            obtain ⟨xm0, xm1, xm2, xm3, xm4, xm5, xm6, xm7, xm8, xm9, xm10, xm11, xm12, xm13, xm14, xm15⟩ := sixteen ((Hb.out.block _ lM).trans HMb.out)
            go_wp2_with fail
            refine (HPL.out _ ((HLW.out.low Hb.out).at (HLK.out.b HLB.out)) (HT.out.at Hb.out) (HRL.out.at Hb.out)).mono ?_
            rintro r v5 ⟨rfl, hb⟩
            have Hb := Lib.hid (Hb.out.trans (hb.mono Hb.out.size)); clear hb xm0 xm1 xm2 xm3 xm4 xm5 xm6 xm7 xm8 xm9 xm10 xm11 xm12 xm13 xm14 xm15
            rw [← HLK.out.ok, ← HLK.out.txt]
            obtain ⟨s5, hs⟩ : ∃ s, s = (⟨(txt (ltOk x) (litL x)).toArray⟩ : ByteArray) := ⟨_, rfl⟩
            obtain ⟨c5, hc⟩ : ∃ c, c = okCode (ltOk x) 40 := ⟨_, rfl⟩
            rw [← hs, ← hc]
            clear hs hc
            as_aux_lemma =>
              obtain ⟨xt0, xt1⟩ := two ((Hb.out.block _ lT).trans HTb.out)
              obtain ⟨xa0, xa1⟩ := two ((Hb.out.block _ lA).trans HA.out)
              go_wp2_with fail
              refine (leftAtom p ts a _ _ (HAT.out.up Hb.out) HTB.out (HAW.out.low Hb.out) (HT.out.at Hb.out)).mono ?_
              rintro r v6 ⟨rfl, hb⟩
              have Hb := Lib.hid (Hb.out.trans (hb.mono Hb.out.size)); clear hb xt0 xt1 xa0 xa1
              obtain ⟨xm0, xm1, xm2, xm3, xm4, xm5, xm6, xm7, xm8, xm9, xm10, xm11, xm12, xm13, xm14, xm15⟩ := sixteen ((Hb.out.block _ lM).trans HMb.out)
              obtain ⟨xl0, xl1, xl2, xl3, xl4, xl5, xl6, xl7, xl8, xl9, xl10, xl11, xl12, xl13, xl14, xl15⟩ := sixteen ((Hb.out.block _ lL).trans HL.out)
              go_wp2_with fail
              refine (HLL.out _ (HX.out.up Hb.out) (HLW.out.low Hb.out) (HT.out.at Hb.out)).mono ?_
              rintro r v7 ⟨rfl, hb⟩
              have Hb := Lib.hid (Hb.out.trans (hb.mono Hb.out.size)); clear hb xm0 xm1 xm2 xm3 xm4 xm5 xm6 xm7 xm8 xm9 xm10 xm11 xm12 xm13 xm14 xm15 xl0 xl1 xl2 xl3 xl4 xl5 xl6 xl7 xl8 xl9 xl10 xl11 xl12 xl13 xl14 xl15
              go_wp2_with fail
              refine (lives _ (HT.out.at Hb.out)).mono ?_
              rintro r v8 ⟨rfl, hb⟩
              have Hb := Lib.hid (Hb.out.trans (hb.mono Hb.out.size)); clear hb
              go_wp2_with fail
              go_ret
              exact ⟨rfl, HBC.out.trans (Hb.out.mono HBC.out.size)⟩
end Go.Proofs.YtlghiakckkhekaaGreatDoor
