/- The walk of LexPieces. Conditions: the tables lie as the program lays them. -/
import Derived.Test.YtcigdlpljjkplaaDoorN3
import Derived.Test.YtcigdlpljjkplaaDoorN4
import Derived.Test.YtcigdlpljjkplaaDoorN5
import Derived.StillTailTactics
import Derived.IntWalk
namespace Go.Proofs.YtcigdlpljjkplaaDoor
open Go.RowKit

theorem own_tks2 {w : World} {B n c : Nat} {p : Option Addr} {l : List Tk} (hl : l.length = n) (h : w.ownsRow B 36 4 (.slice p n c) n (l.flatMap Tk.cells)) : TksAt w p l ∧ n ≤ maxLen ∧ n ≤ c ∧ c ≤ maxLen := by
  rcases h.2 with ⟨hv, h0⟩ | ⟨g, cap, cur, hv, _, hg, h1, h2, _, htk⟩
  · obtain ⟨rfl, _, rfl⟩ : p = none ∧ n = 0 ∧ c = 0 := by simpa using hv
    exact ⟨.inl (by omega), by omega, by omega, by unfold maxLen; omega⟩
  · obtain ⟨rfl, rfl⟩ : p = some ⟨g, 0, none⟩ ∧ c = cap := by simpa using hv
    exact ⟨.inr ⟨g, 0, rfl, (Array.getElem?_eq_some_iff.1 hg).1, fun i hi => by rw [Nat.zero_add]; exact cells_take hg htk hl i hi⟩, by omega, h1, h2⟩
structure PcRel (qs : List (Nat × Tk)) (n : Nat) (w : World) (e i : Value) (wr : World) (j : Nat) : Prop where
  j_ : j ≤ qs.length
  i_ : i = .int .i64 ((j : Int) - 1)
  e_ : e = .int .i64 (fstP (qs.drop j) n : Nat)
  b_ : Below w.heap.size w wr
theorem fst_le {l : List UInt8} {qs : List (Nat × Tk)} (h : Chain l 0 qs) (j : Nat) (hj : j ≤ qs.length) : fstP (qs.drop j) l.length ≤ l.length := by
  by_cases h0 : j < qs.length
  · have h1 := chain_piece qs l 0 h j h0
    rw [List.drop_eq_getElem_cons h0]
    simp only [fstP]
    omega
  · rw [List.drop_of_length_le (by omega)]
    exact Nat.le_refl _
set_option maxHeartbeats 16000000 in
set_option maxRecDepth 100000 in
theorem lexPieces (s : ByteArray) (w : World) (hs : s.size ≤ maxLen) (hE : ErrAt w) (hK : KwAt w) (hG : SgAt w) :
    Calls Tryd.prog 8 #[.string s] w fun r w' => r = .returned (.bool true) ∧ Below w.heap.size w w' := by
  have HE := Lib.hid hE; clear hE
  have HK := Lib.hid hK; clear hK
  have HG := Lib.hid hG; clear hG
  have HC := Lib.hid (fun X w' h1 h2 h3 h4 => lTokens X w' h1 h2 h3 h4)
  cases hx : tokR (bl s) with
  | error ep =>
    obtain ⟨er, p⟩ := ep
    have HT := Lib.hid hx
    have hne : (er == 0) = false := by
      refine beq_eq_false_iff_ne.2 ?_
      unfold tokR at hx
      split at hx
      · simp only [Except.error.injEq, Prod.mk.injEq] at hx; omega
      · exact (toks_fault (bl s) 0 er p hx).2.2.1
    clear hx
    go_enter Tryd.func8, Tryd.ntmps8
    go_wp2_with fail
    refine (HC.out s _ hs HE.out HK.out HG.out).mono ?_
    intro e w1 hp
    obtain ⟨rfl, hb⟩ := ts_err HT.out hp
    have Hb := Lib.hid (hb.trans ((below_alloc w1 (.cells #[.int .i64 er, .int .i64 (p : Int)] 25)).mono hb.size)); clear hb hp
    go_wp2_with fail
    refine (lvLives _ (HE.out.at Hb.out) (HK.out.at Hb.out) (HG.out.at Hb.out)).mono ?_
    rintro e w5 ⟨rfl, hb⟩
    have Hb5 := Lib.hid (Hb.out.trans (hb.mono Hb.out.size)); clear hb
    go_wp2_with fail
    go_ret
    exact ⟨rfl, Hb5.out⟩
  | ok ts =>
    have HT := Lib.hid hx
    have hs16 : s.size ≤ 65536 ∧ toksT (bl s) 0 = .ok ts := by
      unfold tokR at hx
      split at hx
      · cases hx
      · rename_i h; rw [size_bl] at h; exact ⟨by omega, hx⟩
    obtain ⟨hs2, hx2⟩ := hs16
    obtain ⟨qs, hts, hch⟩ := chain_of (bl s) 0 ts hx2
    rw [Nat.zero_add, size_bl] at hts
    have HCH := Lib.hid hch
    have HPC := Lib.hid (chain_piece qs (bl s) 0 hch)
    have HGP := Lib.hid (chain_gap hch)
    have HFL := Lib.hid (fst_le hch)
    have hlen : ts.length = qs.length + 1 := by rw [hts]; simp
    have HLEN := Lib.hid hlen
    have HTS := Lib.hid hts
    clear hx hx2 hts hch hlen
    unfold maxLen at hs
    go_enter Tryd.func8, Tryd.ntmps8
    go_wp2_with fail
    refine (HC.out s _ (by unfold maxLen; omega) HE.out HK.out HG.out).mono ?_
    intro e w1 hp
    obtain ⟨p, c, rfl, ho, hb⟩ := ts_ok HT.out hp
    obtain ⟨hat, hm1, hnc, hcm⟩ := own_tks2 rfl ho
    clear ho hp
    unfold maxLen at hm1 hcm
    obtain ⟨V, hV⟩ : ∃ V, V = w1.alloc (.cells #[.int .i64 0, .int .i64 0] 25) := ⟨_, rfl⟩
    have HAT := Lib.hid (show TksAt V p ts by rw [hV]; exact hat.up (below_alloc _ _))
    have HBV := Lib.hid (show Below w.heap.size w V by rw [hV]; exact hb.trans ((below_alloc _ _).mono hb.size))
    clear hat hb
    rw [HLEN.out] at hm1 hnc ⊢
    obtain ⟨a, o, ha, c0, c1, c2, c3, hpe⟩ := HAT.out.get (Below.refl _ _) (k := qs.length) (by rw [HLEN.out]; omega)
    have hlast : ts[qs.length]'(by rw [HLEN.out]; omega) = endT s.size := by
      simp only [HTS.out]
      rw [List.getElem_append_right (by simp)]
      simp
    rw [hlast] at c0 c1 c2 c3
    clear hlast
    simp only [endT] at c0 c1 c2 c3
    subst hpe
    rw [hV] at c0 c1 c2 c3
    have hq1 : ((qs.length : Int) + 1 == 0) = false := by simp; omega
    have hqi : (0 : Int) ≤ (qs.length : Int) := by omega
    have hqj : (qs.length : Int) < (qs.length : Int) + 1 := by omega
    go_wp2_with fail
    rw [← hV]
    clear c0 c1 c2 c3 hV hq1 hqi hqj
    go_loopw [5, 6] (fun e i wr => ∃ j, PcRel qs s.size V e i wr j) (fun _ i _ => (intOf i + 1).toNat)
    case atStart => exact ⟨qs.length, by omega, by rw [show ((qs.length : Int) + 1 - 2) = (qs.length : Int) - 1 by omega], by rw [List.drop_of_length_le (Nat.le_refl _)]; rfl, Below.refl _ _⟩
    case round =>
      obtain ⟨j, hj, rfl, rfl, hb⟩ := hrel
      have Hb := Lib.hid hb; clear hb
      have hszr := Hb.out.size
      rcases j with _ | j
      · obtain ⟨g, hg, hf, hgap⟩ := HGP.out
        rw [size_bl] at hg
        rw [size_bl, Nat.zero_add, Nat.zero_add] at hf
        rw [List.drop_zero, hf, show ((0 : Nat) : Int) - 1 = -1 from rfl]
        have HBR := Lib.hid (HBV.out.trans (Hb.out.mono HBV.out.size))
        have hgi : (g : Int) ≤ (s.size : Int) := by omega
        have HG0 := Lib.hid (hgap 0)
        clear hf hgap
        go_wp2_with fail
        obtain ⟨X, hX⟩ : ∃ X, X = s.extract 0 g := ⟨_, rfl⟩
        have hXm : X.size ≤ 65536 := by rw [hX, ← size_bl, bl_extract, List.length_take, List.length_drop, size_bl]; omega
        have HT2 := Lib.hid (show tokR (bl X) = .ok [endT g] by rw [tokR_small (by rw [size_bl]; omega), hX, bl_extract, List.drop_zero, Nat.sub_zero, HG0.out, Nat.zero_add])
        rw [← hX]
        clear hX
        refine (HC.out X _ (by unfold maxLen; omega) (HE.out.at HBR.out) (HK.out.at HBR.out) (HG.out.at HBR.out)).mono ?_
        intro e w2 hp
        obtain ⟨p2, cp2, rfl, ho, hb⟩ := ts_ok HT2.out hp
        obtain ⟨hat, hm2, hnc2, hcm2⟩ := own_tks2 rfl ho
        clear ho hp
        simp only [List.length_cons, List.length_nil] at hm2 hnc2 hcm2 ⊢
        unfold maxLen at hm2 hcm2
        have Hb2 := Lib.hid (HBR.out.trans ((hb.trans ((below_alloc w2 (.cells #[.int .i64 0, .int .i64 0] 25)).mono hb.size)).mono HBR.out.size)); clear hb
        obtain ⟨g', og, hg', c0, c1, c2, c3, rfl⟩ := (hat.up (below_alloc w2 (.cells #[.int .i64 0, .int .i64 0] 25))).get (Below.refl _ _) (k := 0) (by simp)
        simp only [List.getElem_cons_zero, endT, Nat.zero_mul, Nat.add_zero] at c0 c1 c2 c3
        clear hat
        go_wp2_with fail
        refine (lvLives _ (HE.out.at Hb2.out) (HK.out.at Hb2.out) (HG.out.at Hb2.out)).mono ?_
        rintro e w5 ⟨rfl, hb⟩
        have Hb5 := Lib.hid (Hb2.out.trans (hb.mono Hb2.out.size)); clear hb
        go_wp2_with fail
        go_ret
        exact ⟨rfl, Hb5.out⟩
      · have hjl : j < qs.length := by omega
        obtain ⟨a', o', ha', c0, c1, c2, c3, hpe⟩ := HAT.out.get Hb.out (k := j) (by rw [HLEN.out]; omega)
        obtain ⟨rfl, rfl⟩ : a = a' ∧ o = o' := by simpa using hpe
        clear hpe
        have hx : ts[j]'(by rw [HLEN.out]; omega) = placed qs[j] := by
          simp only [HTS.out]
          rw [List.getElem_append_left (by simp; exact hjl)]
          simp
        obtain ⟨_, h2, h3, h4⟩ := HPC.out j hjl
        rw [Nat.zero_add, size_bl] at h2 h3
        rw [Nat.zero_add, size_bl, Nat.sub_zero] at h4
        have hnx : fstP (qs.drop j) s.size = qs[j].1 := by rw [List.drop_eq_getElem_cons hjl]; rfl
        have HNX := Lib.hid hnx; clear hnx
        rw [hx] at c0 c1 c2 c3
        have HXJ := Lib.hid hx; clear hx
        obtain ⟨en, hen⟩ : ∃ en, en = fstP (qs.drop (j + 1)) s.size := ⟨_, rfl⟩
        obtain ⟨at0, hat0⟩ : ∃ a0, a0 = qs[j].1 := ⟨_, rfl⟩
        obtain ⟨q2, hq2⟩ : ∃ q2, q2 = qs[j].2 := ⟨_, rfl⟩
        unfold placed at c0 c1 c2 c3 HXJ
        rw [← hen] at h2 h3 h4 ⊢
        rw [← hat0] at h2 h4 c3 HNX HXJ
        rw [← hq2] at h4 c0 c1 c2 HXJ
        simp only at c0 c1 c2 c3
        clear hen hat0 hq2
        obtain ⟨qk, qt, qn, qp⟩ := q2
        simp only at c0 c1 c2 h4 HXJ
        have H4 := Lib.hid h4; clear h4
        have q1 : decide ((0 : Int) ≤ ((j + 1 : Nat) : Int) - 1) = true := decide_eq_true (by omega)
        have q2 : decide ((at0 : Int) < 0) = false := decide_eq_false (by omega)
        have q3 : decide ((en : Int) ≤ (at0 : Int)) = false := decide_eq_false (by omega)
        have hj0 : (0 : Int) ≤ (j : Int) := by omega
        have hji : (j : Int) < (qs.length : Int) + 1 := by omega
        have hae : (at0 : Int) ≤ (en : Int) := by omega
        have hen2 : (en : Int) ≤ (s.size : Int) := by omega
        have HJJ := Lib.hid (show ((j + 1 : Nat) : Int) - 1 = (j : Int) by omega)
        rw [HJJ.out] at q1 ⊢
        have HBR := Lib.hid (HBV.out.trans (Hb.out.mono HBV.out.size))
        go_wp2_with fail
        obtain ⟨X, hX⟩ : ∃ X, X = s.extract at0 en := ⟨_, rfl⟩
        have hXm : X.size ≤ 65536 := by rw [hX, ← size_bl, bl_extract, List.length_take, List.length_drop, size_bl]; omega
        have HT2 := Lib.hid (show tokR (bl X) = .ok [⟨qk, qt, qn, (0 : Nat)⟩, endT (en - at0)] by rw [tokR_small (by rw [size_bl]; omega), hX, bl_extract, H4.out])
        rw [← hX]
        clear hX
        refine (HC.out X _ (by unfold maxLen; omega) (HE.out.at HBR.out) (HK.out.at HBR.out) (HG.out.at HBR.out)).mono ?_
        intro e w2 hp
        obtain ⟨p2, cp2, rfl, ho, hb⟩ := ts_ok HT2.out hp
        obtain ⟨hat, hm2, hnc2, hcm2⟩ := own_tks2 rfl ho
        clear ho hp
        simp only [List.length_cons, List.length_nil] at hm2 hnc2 hcm2 ⊢
        unfold maxLen at hm2 hcm2
        obtain ⟨V2, hV2⟩ : ∃ V2, V2 = w2.alloc (.cells #[.int .i64 0, .int .i64 0] 25) := ⟨_, rfl⟩
        have hbw : Below w2.heap.size w2 V2 := by rw [hV2]; exact below_alloc _ _
        have hat2 := hat.up hbw
        have Hb2 := Lib.hid (Hb.out.trans ((hb.trans (hbw.mono hb.size)).mono hszr))
        obtain ⟨g, og, hg, d0, d1, d2, d3, rfl⟩ := hat2.get (Below.refl _ _) (k := 0) (by simp)
        obtain ⟨g', og', hg', e0, e1, e2, e3, hpe⟩ := hat2.get (Below.refl _ _) (k := 1) (by simp)
        obtain ⟨rfl, rfl⟩ : g = g' ∧ og = og' := by simpa using hpe
        clear hpe hg'
        have v0 : V2.cell? ⟨w2.heap.size, 0, none⟩ = some (.int .i64 0) := by rw [hV2]; simp
        have v1 : V2.cell? ⟨w2.heap.size, 1, none⟩ = some (.int .i64 0) := by rw [hV2]; simp
        simp only [List.getElem_cons_zero, List.getElem_cons_succ, endT, Nat.zero_mul, Nat.one_mul, Nat.add_zero] at d0 d1 d2 d3 e0 e1 e2 e3
        have HA1 := Lib.hid (show TksAt V2 (some ⟨g, og, none⟩) [⟨qk, qt, qn, (0 : Nat)⟩] from .inr ⟨g, og, rfl, hg, fun i hi => by
          obtain rfl : i = 0 := by simp at hi; exact hi
          rw [Nat.zero_mul, Nat.add_zero]; exact ⟨d0, d1, d2, d3⟩⟩)
        have HA2 := Lib.hid (show TksAt V2 (some ⟨a, o + j * 4, none⟩) [⟨qk, qt, qn, at0⟩] from .inr ⟨a, o + j * 4, rfl, by have := Hb2.out.size; omega, fun i hi => by
          obtain rfl : i = 0 := by simp at hi; exact hi
          rw [Nat.zero_mul, Nat.add_zero]
          have hz := ((hb.trans (hbw.mono hb.size)))
          have hz2 : a < wr.heap.size := by omega
          exact ⟨(hz.cell (p := ⟨a, o + j * 4, none⟩) hz2).trans c0, (hz.cell (p := ⟨a, o + j * 4 + 1, none⟩) hz2).trans c1, (hz.cell (p := ⟨a, o + j * 4 + 2, none⟩) hz2).trans c2, (hz.cell (p := ⟨a, o + j * 4 + 3, none⟩) hz2).trans c3⟩⟩)
        have hwn : w2.heap.size < V2.heap.size := by rw [hV2]; simp
        clear hat hat2 hb hbw c0 c1 c2 c3 d1 d2
        rw [show ((0 : Nat) : Int) = 0 from rfl] at d3
        rw [show ((en - at0 : Nat) : Int) = (en : Int) - (at0 : Int) by omega] at e3
        go_wp2_with fail
        rw [← hV2]
        generalize hF : w2.heap.size = fa at v0 v1 hwn ⊢
        clear hF hV2
        have hw3 : (0 : Int) ≤ (j : Int) + 1 := by omega
        have hw4 : ((j : Int) + 1).toNat = j + 1 := by omega
        have hw5 : (j : Int) ≤ (j : Int) + 1 := by omega
        have hw6 : (j : Int) + 1 ≤ (c : Int) := by omega
        have hw7 : (1 : Int) ≤ (cp2 : Int) := by omega
        have hw1 : IntKind.i64.wrap ((en : Int) - (at0 : Int)) = (en : Int) - (at0 : Int) := IntWalk.i64_in _ (by omega)
        have hw2 : IntKind.i64.wrap ((j : Int) + 1) = (j : Int) + 1 := IntWalk.i64_in _ (by omega)
        go_still_tail 33, (by kernel_rfl)
        change wpList _ _ _ _ _ V2.drew
        clear hw1 hw2
        obtain ⟨Vd, hVd⟩ : ∃ Vd, Vd = V2.drew := ⟨_, rfl⟩
        have HbD := Lib.hid (show Below V.heap.size V Vd by rw [hVd]; exact Hb2.out.drew)
        have hbd : Below V2.heap.size V2 Vd := by rw [hVd]; exact (Below.refl _ V2).drew
        have HA1d := Lib.hid (HA1.out.up hbd)
        have HA2d := Lib.hid (HA2.out.up hbd)
        have y0 := (hbd.cell (p := ⟨fa, 0, none⟩) hwn).trans v0
        have y1 := (hbd.cell (p := ⟨fa, 1, none⟩) hwn).trans v1
        have z3 := (hbd.cell (p := ⟨g, og + 3, none⟩) hg).trans d3
        have x0 := (hbd.cell (p := ⟨g, og + 4, none⟩) hg).trans e0
        have x1 := (hbd.cell (p := ⟨g, og + 4 + 1, none⟩) hg).trans e1
        have x2 := (hbd.cell (p := ⟨g, og + 4 + 2, none⟩) hg).trans e2
        have x3 := (hbd.cell (p := ⟨g, og + 4 + 3, none⟩) hg).trans e3
        rw [← hVd]
        clear hVd hbd HA1 HA2 v0 v1 d0 d3 e0 e1 e2 e3
        go_wp2_with fail
        refine (kAlike [⟨qk, qt, qn, (0 : Nat)⟩] [⟨qk, qt, qn, at0⟩] _ _ _ _ _ HA1d.out HA2d.out (by simp [maxLen]) rfl (fun i h h' => by
          obtain rfl : i = 0 := by simp at h; exact h
          exact ⟨rfl, rfl, rfl⟩)).mono ?_
        rintro e w3 ⟨rfl, hb⟩
        have Hb3 := Lib.hid (HbD.out.trans (hb.mono HbD.out.size)); clear hb
        clear y0 y1 z3 x0 x1 x2 x3
        go_wp2_with fail
        go_roundw
        case rel => exact ⟨j, by omega, rfl, by rw [HNX.out], Hb3.out⟩
        case measure => simp [intOf]
end Go.Proofs.YtcigdlpljjkplaaDoor
