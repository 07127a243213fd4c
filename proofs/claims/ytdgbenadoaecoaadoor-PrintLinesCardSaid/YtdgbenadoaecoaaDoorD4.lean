/- The walk of PrintLines. Conditions: the rules and the facts lie in memory as they are told, no list is too long; the tables lie as the program lays them. -/
import Derived.Test.YtdgbenadoaecoaaDoorD3
import Derived.Test.YtdgbenadoaecoaaDoorME
namespace Go.Proofs.YtdgbenadoaecoaaDoor
open Go.RowKit

def LnRel {d : Nat} (xs : List (Ru d)) (W : World) (v7 v8 v9 : Value) (wr : World) : Prop :=
  ∃ (j : Nat) (S : ByteArray), v9 = .int .i64 j ∧ v7 = .string S ∧ v8 = .bool ((xs.take j).all Ru.ok) ∧ j ≤ xs.length ∧ bl S = lnL (xs.take j) ∧ Below W.heap.size W wr
def FnRel (fs : List Fc) (R : Bool) (W : World) (v7 v12 : Value) (wr : World) : Prop :=
  ∃ (j : Nat) (S : ByteArray), v12 = .int .i64 j ∧ v7 = .string S ∧ j ≤ fs.length ∧ (R = true → bl S = factsL (fs.take j)) ∧ S.size ≤ 9000001 * j ∧ Below W.heap.size W wr
set_option maxHeartbeats 16000000 in
set_option maxRecDepth 100000 in
theorem printLines (d : Nat) (p : Option Addr) (cap : Nat) (xs : List (Ru d)) (q : Option Addr) (cap2 : Nat) (fs : List Fc) (w : World) (hs : RusAt w d p xs) (hr : ∀ x ∈ xs, RuB x) (hf : FcsAt w q fs) (hfr : ∀ f ∈ fs, FcR f) (hn : fs.length ≤ 4398046511104)
    (hT : Tabs w) (hK : KwAt w) (hRl : RelsAt w) (hFo : FoldsAt w) :
    Calls Tryd.prog 4 #[.slice p xs.length cap, .slice q fs.length cap2] w fun r w' => r = .returned (.bool true) ∧ Below w.heap.size w w' := by
  have HS := Lib.hid hs; clear hs
  have HR := Lib.hid hr; clear hr
  have HF := Lib.hid hf; clear hf
  have HFR := Lib.hid hfr; clear hfr
  have HT := Lib.hid hT; clear hT
  have HK := Lib.hid hK; clear hK
  have HRL := Lib.hid hRl; clear hRl
  have HFO := Lib.hid hFo; clear hFo
  go_enter Tryd.func4, Tryd.ntmps4
  go_wp2_with fail
  refine (beyondJob d xs p cap fs q cap2 _ HS.out HR.out HF.out HFR.out hn).mono ?_
  rintro r w0 ⟨b, rfl, hb, hb0⟩
  have Hb0 := Lib.hid hb0; clear hb0
  cases b
  case true =>
    go_wp2_with fail
    go_ret
    exact ⟨rfl, Hb0.out⟩
  case false =>
    obtain ⟨hm, hmf, hma⟩ := hb rfl
    have HMA := Lib.hid hma; clear hma hb
    go_wp2_with fail
    refine (pProgram d xs p cap _ (HS.out.up Hb0.out) HR.out hm (HT.out.at Hb0.out) (HRL.out.at Hb0.out) (HFO.out.at Hb0.out)).mono ?_
    rintro r w1 ⟨rfl, hb1⟩
    have Hb1 := Lib.hid (Hb0.out.trans (hb1.mono Hb0.out.size)); clear hb1
    obtain ⟨s1, hs1⟩ : ∃ s : ByteArray, s = ⟨(txt (xs.all Ru.ok) (prL xs)).toArray⟩ := ⟨_, rfl⟩
    obtain ⟨c1, hc1⟩ : ∃ c, c = okCode (xs.all Ru.ok) 40 := ⟨_, rfl⟩
    rw [← hs1, ← hc1]
    have HS1 := Lib.hid hs1; clear hs1
    have HC1 := Lib.hid hc1; clear hc1
    go_wp2_with fail
    go_loopw [7, 8, 9, 10, 11] (fun v7 v8 v9 _ _ wr => LnRel xs w v7 v8 v9 wr) (fun _ _ v9 _ _ _ => xs.length - (intOf v9).toNat)
    case atStart => exact ⟨0, _, rfl, rfl, rfl, by omega, rfl, Hb1.out⟩
    case round =>
      obtain ⟨j, S, rfl, rfl, rfl, hj, hSS, hb⟩ := hrel
      have HSS := Lib.hid hSS; clear hSS
      have Hb := Lib.hid hb; clear hb
      have hssz : S.size ≤ 9000001 * j := by
        have h1 := lnL_le xs HR.out j hj
        rw [← HSS.out, size_bl] at h1
        exact h1
      by_cases hlt : j < xs.length
      · rcases HS.out.1 with h0 | ⟨a, o, hp, ha, hc⟩
        · omega
        subst hp
        have hck := (hc j hlt).up Hb.out ha
        clear hc
        have HE := Lib.hid ((HS.out.2 xs[j] (List.getElem_mem hlt)).up Hb.out)
        have HRk := Lib.hid (HR.out xs[j] (List.getElem_mem hlt))
        have hall := all_take Ru.ok xs j hlt
        obtain ⟨B, hB⟩ : ∃ B, B = (xs.take j).all Ru.ok := ⟨_, rfl⟩
        rw [← hB] at hall ⊢
        clear hB
        obtain ⟨tk, htk⟩ : ∃ tk, tk = xs[j] := ⟨_, rfl⟩
        rw [← htk] at hck HE HRk hall
        have HTK := Lib.hid htk; clear htk
        have HALL := Lib.hid hall; clear hall
        obtain ⟨c0, c1', c2⟩ := VsAt.three hck
        clear hck
        obtain ⟨T, hT'⟩ : ∃ T : ByteArray, T = ⟨(txt tk.ok tk.l).toArray⟩ := ⟨_, rfl⟩
        have hTb : bl T = txt tk.ok tk.l := by rw [hT']
        have hTs : T.size ≤ 9000000 := by
          have h2 := txt_le HRk.out
          rw [← hTb, size_bl] at h2
          exact h2
        have hcall := fun w' h => pRuleX d tk w' h HRk.out
        unfold TextPost at hcall
        rw [← hT'] at hcall
        clear hT'
        have HTP := Lib.hid (show (bl T).all plainB = true by rw [hTb]; exact txt_plain tk)
        have HTB := Lib.hid hTb; clear hTb
        obtain ⟨ok, hok⟩ : ∃ ok, ok = tk.ok := ⟨_, rfl⟩
        rw [← hok] at hcall
        have HCALL := Lib.hid hcall; clear hcall
        have HOK := Lib.hid hok; clear hok
        have hcat1 : ¬ 9223372036854775807 < S.size + T.size := by omega
        have hcat2 : ¬ 9223372036854775807 < S.size + T.size + 1 := by omega
        go_wp2_with fail
        refine (HCALL.out _ HE.out (HT.out.at Hb.out) (HRL.out.at Hb.out) (HFO.out.at Hb.out)).mono ?_
        rintro r w2 ⟨rfl, hb2⟩
        have Hb2 := Lib.hid (Hb.out.trans (hb2.mono Hb.out.size)); clear hb2
        clear c0 c1' c2
        cases B <;> cases ok
        all_goals simp only [okCode, if_true, if_false, Bool.false_eq_true]
        all_goals
          go_wp2_with fail
          refine (pPlain T _ (by unfold maxLen; omega)).mono ?_
          rintro r w3 ⟨rfl, rfl⟩
          rw [HTP.out]
          go_wp2_with fail
          go_roundw
          case rel => exact ⟨j + 1, S ++ T ++ ⟨#[10]⟩, by go_num, rfl, by rw [HALL.out, ← HOK.out]; rfl, by omega, by rw [bl_app, bl_app, HSS.out, HTB.out, lnL_take xs j hlt, ← HTK.out]; simp [bl], Hb2.out⟩
          case measure => simp [intOf]; omega
      · obtain rfl : j = xs.length := by omega
        have hR : (xs.take xs.length).all Ru.ok = xs.all Ru.ok := by rw [List.take_length]
        rw [hR]
        have HS2 := Lib.hid (show xs.all Ru.ok = true → S = s1 from fun h => bl_inj (by rw [HSS.out, HS1.out, List.take_length, lnL_ok xs h, h]; rfl))
        obtain ⟨R, hRR⟩ : ∃ R, R = xs.all Ru.ok := ⟨_, rfl⟩
        have HC2 := Lib.hid (show c1 = okCode R 40 by rw [hRR]; exact HC1.out)
        rw [← hRR] at HS2 ⊢
        clear hRR hR
        have hgo : (c1 = 0 ∧ R = true ∧ S = s1) ∨ (c1 = 40 ∧ R = false) := by
          cases R
          · exact .inr ⟨HC2.out, rfl⟩
          · exact .inl ⟨HC2.out, rfl, HS2.out rfl⟩
        clear HC2 HS2 HC1 HS1
        rcases hgo with ⟨rfl, rfl, rfl⟩ | ⟨rfl, rfl⟩
        all_goals
          go_wp2_with fail
          refine (pFacts fs q cap2 _ (HF.out.up Hb.out) HFR.out hmf (HT.out.at Hb.out) (HK.out.at Hb.out)).mono ?_
          rintro r w2 ⟨rfl, hb2⟩
          have Hb2 := Lib.hid (Hb.out.trans (hb2.mono Hb.out.size)); clear hb2
          obtain ⟨s2, hs2⟩ : ∃ s : ByteArray, s = ⟨(txt (fs.all fcOk) (factsL fs)).toArray⟩ := ⟨_, rfl⟩
          obtain ⟨c2, hc2⟩ : ∃ c, c = okCode (fs.all fcOk) 10 := ⟨_, rfl⟩
          rw [← hs2, ← hc2]
          obtain ⟨R2, hR2⟩ : ∃ R, R = fs.all fcOk := ⟨_, rfl⟩
          rw [← hR2] at hc2 hs2
          have HS2 := Lib.hid hs2; clear hs2
          have HC2 := Lib.hid hc2; clear hc2
          have HR2 := Lib.hid hR2; clear hR2
          go_wp2_with fail
          go_loopw [7, 12, 13, 14, 15, 16] (fun v7 v12 _ _ _ _ wr => FnRel fs R2 w v7 v12 wr) (fun _ v12 _ _ _ _ _ => fs.length - (intOf v12).toNat)
          case atStart => exact ⟨0, _, rfl, rfl, by omega, fun _ => rfl, by show 0 ≤ _; omega, Hb2.out⟩
          case round =>
            obtain ⟨j, S, rfl, rfl, hj, hSS, hssz, hb⟩ := hrel
            rename World => wr
            have HSS := Lib.hid hSS; clear hSS
            have Hf := Lib.hid hb; clear hb
            by_cases hlt : j < fs.length
            · rcases HF.out.1 with h0 | ⟨a, o, hp, ha, hc⟩
              · omega
              subst hp
              have hck := (hc j hlt).up Hf.out ha
              clear hc
              have har : a < wr.heap.size := Nat.lt_of_lt_of_le ha Hf.out.size
              have HSL := Lib.hid ((HF.out.2 fs[j] (List.getElem_mem hlt)).up Hf.out)
              have HRk := Lib.hid (HFR.out fs[j] (List.getElem_mem hlt))
              have hn1 := HMA.out fs[j] (List.getElem_mem hlt)
              have HOJ := Lib.hid (show R2 = true → fcOk fs[j] = true from fun h => by rw [HR2.out, List.all_eq_true] at h; exact h _ (List.getElem_mem hlt))
              have HFT := Lib.hid (factsL_take fs j hlt)
              obtain ⟨tk, htk⟩ : ∃ tk, tk = fs[j] := ⟨_, rfl⟩
              rw [← htk] at hck HSL HRk hn1 HOJ HFT
              clear htk
              obtain ⟨p0, ts, sv⟩ := tk
              obtain ⟨c0, c1⟩ := hck
              simp only at c0 c1 hn1
              obtain ⟨q', cp, hsv, _, hrw⟩ := HSL.out
              simp only at hsv hrw
              subst hsv
              have HRW := Lib.hid hrw; clear hrw
              have HLEN := Lib.hid (show (fcAgs ts).length = ts.length by simp [fcAgs])
              have HRUB := Lib.hid (fcRu_b d HRk.out hn1)
              obtain ⟨K, hK⟩ : ∃ K, K = (fcRu d ⟨p0, ts, .slice q' ts.length cp⟩).ok := ⟨_, rfl⟩
              obtain ⟨T, hT'⟩ : ∃ T : ByteArray, T = ⟨(txt (fcRu d ⟨p0, ts, .slice q' ts.length cp⟩).ok (fcRu d ⟨p0, ts, .slice q' ts.length cp⟩).l).toArray⟩ := ⟨_, rfl⟩
              have hTb : bl T = txt (fcRu d ⟨p0, ts, .slice q' ts.length cp⟩).ok (fcRu d ⟨p0, ts, .slice q' ts.length cp⟩).l := by rw [hT']
              have hTs : T.size ≤ 9000000 := by
                have h2 := txt_le HRUB.out
                rw [← hTb, size_bl] at h2
                exact h2
              have HTP := Lib.hid (show (bl T).all plainB = true by rw [hTb]; exact txt_plain _)
              have HTB := Lib.hid (show R2 = true → K = true ∧ bl T = factL ⟨p0, ts, .slice q' ts.length cp⟩ ++ [46] from fun h => by
                have h1 := fcRu_ok d (HOJ.out h)
                refine ⟨by rw [hK]; exact h1, ?_⟩
                rw [hTb, h1, fcRu_l]
                rfl)
              have HCALL := Lib.hid (show ∀ ph ch w', AgsAt w' ph (fcAgs ts) → Tabs w' → RelsAt w' → FoldsAt w' → Calls Tryd.prog 8 #[.agg #[.string p0, .slice ph ts.length ch, .slice none 0 0]] w' (fun e w'' => e = .returned (.tuple #[.string T, .int .i64 (okCode K 40)]) ∧ Below w'.heap.size w' w'') from fun ph ch w' h1 h2 h3 h4 => by
                have h : Calls Tryd.prog 8 #[.agg #[.string p0, .slice ph (fcAgs ts).length ch, .slice none 0 0]] w' (TextPost (fcRu d ⟨p0, ts, .slice q' ts.length cp⟩).ok (fcRu d ⟨p0, ts, .slice q' ts.length cp⟩).l w') :=
                  pRuleX d ⟨p0, ph, ch, fcAgs ts, none, 0, []⟩ w' ⟨h1, ⟨.inl rfl, fun x hx => by simp at hx⟩⟩ ⟨HRUB.out.r_, HRUB.out.hn, HRUB.out.bb, HRUB.out.bn⟩ h2 h3 h4
                rw [HLEN.out] at h
                unfold TextPost at h
                rw [← hT', ← hK] at h
                exact h)
              clear hT' hTb hK
              have hcat1 : ¬ 9223372036854775807 < S.size + T.size := by omega
              have hcat2 : ¬ 9223372036854775807 < S.size + T.size + 1 := by omega
              have HC0 := Lib.hid c0
              have HC1 := Lib.hid c1
              go_wp2_with fail
              clear c0 c1
              go_loopw [14] (fun i wi => HdRel p0 (fcAgs ts) wr i wi) (fun i _ => ts.length - (intOf i).toNat)
              case atStart => exact ⟨0, .slice none 0 0, rfl, by omega, heap_alloc_new wr _, World.ownsRowF_nil _ _ _ _, below_alloc _ _⟩
              case round =>
                obtain ⟨k, v, rfl, hk, hbk, hrow, hbe⟩ := hrel
                rename World => wi
                have hlen := HLEN.out
                have c0 := (hbe.cell (p := ⟨a, o + j * 2, none⟩) har).trans HC0.out
                have c1 := (hbe.cell (p := ⟨a, o + j * 2 + 1, none⟩) har).trans HC1.out
                obtain ⟨ps, cs, rfl⟩ := own_sl5 hrow
                obtain ⟨y0, y1, y2⟩ := three hbk
                have HBK := Lib.hid hbk; clear hbk
                have HROW := Lib.hid hrow; clear hrow
                have HBE := Lib.hid hbe; clear hbe
                by_cases hlk : k < ts.length
                · rcases HRW.out with h0 | ⟨a2, o2, rfl, hvl⟩
                  · omega
                  obtain ⟨d0, d1, d2⟩ := (hvl.at_ k hlk).up HBE.out hvl.lt
                  have hlk' : k < (fcAgs ts).length := by omega
                  have HAG := Lib.hid (show (fcAgs ts)[k] = ⟨0, ⟨⟨#[]⟩, ts[k]⟩⟩ by simp [fcAgs])
                  have HST := Lib.hid (fun w2 c2 p2 o h1 h2 => hd_step (w2 := w2) (c2 := c2) (p2 := p2) (o := o) hlk' HBK.out HROW.out HBE.out h1 h2)
                  rw [HAG.out] at HST
                  obtain ⟨x, hx⟩ : ∃ x, x = ts[k] := ⟨_, rfl⟩
                  rw [← hx] at d0 d1 d2 HST
                  clear hx HAG
                  have n0 := World.new_ne wi _ c0
                  have n1 := World.new_ne wi _ c1
                  have n2 := World.new_ne wi _ d0
                  have n3 := World.new_ne wi _ d1
                  have n4 := World.new_ne wi _ d2
                  have n5 := World.new_ne wi _ y1
                  have hal := fun (q : Addr) (u : Value) (h : wi.cell? q = some u) => show (wi.alloc (.cells #[.int .i8 0, .string ⟨#[]⟩, .int .i8 x.k, .int .i64 x.n, .string x.t] 55)).cell? q = some u from by
                    have hq : q.block < wi.heap.size := by
                      cases hb : wi.heap[q.block]? with
                      | none => simp [World.cell?, hb] at h
                      | some O => exact (Array.getElem?_eq_some_iff.1 hb).1
                    rw [(below_alloc wi _).cell hq]; exact h
                  have e0 := hal _ _ c0
                  have e1 := hal _ _ c1
                  have e2 := hal _ _ d0
                  have e3 := hal _ _ d1
                  have e4 := hal _ _ d2
                  have e5 := hal _ _ y1
                  clear hal
                  obtain ⟨i0, hi, hzz⟩ := Option.map_eq_some_iff.1 infoAg
                  simp only [Prod.mk.injEq] at hzz
                  obtain ⟨hz0, hz1, hz2⟩ := hzz
                  have HI := Lib.hid hi; clear hi
                  have HZ0 := Lib.hid hz0; clear hz0
                  have HZ1 := Lib.hid hz1; clear hz1
                  have HZ2 := Lib.hid hz2; clear hz2
                  have HORA := Lib.hid (show ((wi.alloc (.cells #[.int .i8 0, .string ⟨#[]⟩, .int .i8 x.k, .int .i64 x.n, .string x.t] 55)).drew).ownsRowF (wr.heap.size + 1) 55 5 (.slice ps k cs) k (agsC ((fcAgs ts).take k)) from HROW.out.alloc _)
                  have hbase : wr.heap.size + 1 ≤ ((wi.alloc (.cells #[.int .i8 0, .string ⟨#[]⟩, .int .i8 x.k, .int .i64 x.n, .string x.t] 55)).drew).heap.size := by
                    have := HBE.out.size
                    show _ ≤ (wi.alloc _).heap.size
                    simp; omega
                  go_wp2_with fail
                  go_region_law
                    ((refine stepApp_row (by rfl) _ _ 22 (by rfl) (wr.heap.size + 1) 55 i0 (.agg #[.int .i8 0, .string ⟨#[]⟩, .int .i8 0, .int .i64 0, .string ⟨#[]⟩]) 5 56 Tryd.underlying22 HI.out HZ0.out HZ1.out HZ2.out rfl (by decide) (.slice ps k cs) k (agsC ((fcAgs ts).take k)) (by rfl) HORA.out ⟨wi.heap.size, 0, none⟩ 1 1 [.int .i8 0, .string ⟨#[]⟩, .int .i8 x.k, .int .i64 x.n, .string x.t] (by rfl) rfl (new_ag wi [.int .i8 0, .string ⟨#[]⟩, .int .i8 x.k, .int .i64 x.n, .string x.t] 55) (ag_one ⟨0, ⟨⟨#[]⟩, x⟩⟩) (by unfold maxLen; omega) (by omega) hbase ?_
                      intro v' w2 hown hgrow _ hpl
                      obtain ⟨p2, c2', rfl⟩ := own_sl5 hown
                      have hm2 := hd_mid HBK.out HROW.out hgrow
                      have hk1 : w2.cell? ⟨wr.heap.size, 1, none⟩ = some (.slice ps k cs) := (three hm2).2.1
                      have hfz : w2.frozen? ⟨wr.heap.size, 1, none⟩ = false := Lib.frozen_of_heap hm2 1
                      have HNX := Lib.hid (HST.out w2 c2' p2 _ hgrow hown)
                      clear hm2 hown hgrow hpl))
                  all_goals
                    clear c0 c1 d0 d1 d2 y0 y1 y2 n0 n1 n2 n3 n4 n5 e0 e1 e2 e3 e4 e5
                    go_wp2_with fail
                    go_roundw
                    case rel => exact HNX.out
                    case measure => simp [intOf]; omega
                · obtain rfl : k = ts.length := by omega
                  have hrow := HROW.out
                  rw [List.take_of_length_le (by omega)] at hrow
                  obtain ⟨ph, ch, hv, hat⟩ := own_ags (by rw [HLEN.out]; exact hrow)
                  obtain ⟨rfl, rfl⟩ : ps = ph ∧ cs = ch := by
                    rw [HLEN.out] at hv
                    simpa using hv
                  clear hv hrow
                  have HWI := Lib.hid (Hf.out.trans (HBE.out.mono Hf.out.size))
                  cases R2
                  case false =>
                    obtain rfl : c2 = 10 := HC2.out
                    go_wp2_with fail
                    refine (HCALL.out _ _ _ hat (HT.out.at HWI.out) (HRL.out.at HWI.out) (HFO.out.at HWI.out)).mono ?_
                    rintro r w5 ⟨rfl, hb5⟩
                    have Hb5 := Lib.hid (HWI.out.trans (hb5.mono HWI.out.size)); clear hb5
                    clear c0 c1 y0 y1 y2
                    go_wp2_with fail
                    go_roundw
                    case rel => exact ⟨j + 1, S ++ T ++ ⟨#[10]⟩, by go_num, rfl, by omega, (fun h => nomatch h), by rw [← size_bl, bl_app, bl_app, List.length_append, List.length_append, size_bl, size_bl]; have : (bl (⟨#[10]⟩ : ByteArray)).length = 1 := rfl; omega, Hb5.out⟩
                    case measure => simp [intOf]; omega
                  case true =>
                    obtain rfl : c2 = 0 := HC2.out
                    obtain ⟨rfl, hTb⟩ := HTB.out rfl
                    have HTB2 := Lib.hid hTb; clear hTb
                    have HS9 := Lib.hid (HSS.out rfl)
                    go_wp2_with fail
                    refine (HCALL.out _ _ _ hat (HT.out.at HWI.out) (HRL.out.at HWI.out) (HFO.out.at HWI.out)).mono ?_
                    rintro r w5 ⟨rfl, hb5⟩
                    have Hb5 := Lib.hid (HWI.out.trans (hb5.mono HWI.out.size)); clear hb5
                    clear c0 c1 y0 y1 y2
                    simp only [okCode, if_true]
                    go_wp2_with fail
                    refine (pPlain T _ (by unfold maxLen; omega)).mono ?_
                    rintro r w6 ⟨rfl, rfl⟩
                    rw [HTP.out]
                    go_wp2_with fail
                    go_roundw
                    case rel => exact ⟨j + 1, S ++ T ++ ⟨#[10]⟩, by go_num, rfl, by omega, fun _ => by rw [bl_app, bl_app, HS9.out, HTB2.out, HFT.out]; simp [bl], by rw [← size_bl, bl_app, bl_app, List.length_append, List.length_append, size_bl, size_bl]; have : (bl (⟨#[10]⟩ : ByteArray)).length = 1 := rfl; omega, Hb5.out⟩
                    case measure => simp [intOf]; omega
            · obtain rfl : j = fs.length := by omega
              cases R2
              case false =>
                obtain rfl : c2 = 10 := HC2.out
                go_wp2_with fail
                refine (lives _ (HT.out.at Hf.out)).mono ?_
                rintro r w8 ⟨rfl, hb8⟩
                have Hb8 := Lib.hid (Hf.out.trans (hb8.mono Hf.out.size)); clear hb8
                go_wp2_with fail
                go_ret
                exact ⟨rfl, Hb8.out⟩
              case true =>
                obtain rfl : c2 = 0 := HC2.out
                obtain rfl : S = s2 := bl_inj (by rw [HSS.out rfl, HS2.out, List.take_length]; rfl)
                go_wp2_with fail
                refine (lives _ (HT.out.at Hf.out)).mono ?_
                rintro r w8 ⟨rfl, hb8⟩
                have Hb8 := Lib.hid (Hf.out.trans (hb8.mono Hf.out.size)); clear hb8
                go_wp2_with fail
                go_ret
                exact ⟨rfl, Hb8.out⟩
end Go.Proofs.YtdgbenadoaecoaaDoor
