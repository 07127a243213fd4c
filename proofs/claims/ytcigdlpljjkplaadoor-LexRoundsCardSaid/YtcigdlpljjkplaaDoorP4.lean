/- The walk of LexRounds. Conditions: the tables lie as the program lays them; the tokens lie as they are told. -/
import Derived.Test.YtcigdlpljjkplaaDoorP3
import Derived.Test.YtcigdlpljjkplaaDoorN3
import Derived.Test.YtcigdlpljjkplaaDoorN5
import Derived.Test.YtcigdlpljjkplaaDoorJ4
namespace Go.Proofs.YtcigdlpljjkplaaDoor
open Go.RowKit

theorem wholeL_len (l : List Tk) : (wholeL l).length ≤ l.length + 1 := by
  unfold wholeL
  split
  · omega
  · simp
theorem join_cases {l : List Tk} (hR : ∀ x ∈ l, TkR x) : (∃ c : Int, (c == 0) = false ∧ joinR l = .tuple #[.string ⟨#[]⟩, .int .i64 c]) ∨ (∃ X ts, joinR l = .tuple #[.string X, .int .i64 0] ∧ X.size ≤ 65536 ∧ tokR (bl X) = .ok ts ∧ AlikeT ts (wholeL l)) := by
  rcases hk : okK l l.length with _ | _
  · exact .inl ⟨1, by decide, joinR_no hk⟩
  · by_cases hb : 65536 < (bodyK l l.length).length
    · exact .inl ⟨30, by decide, joinR_long hk hb⟩
    · obtain ⟨ts, hts, ha⟩ := round_trip hk hR
      refine .inr ⟨_, ts, joinR_yes hk hb, by rw [size_mk]; omega, ?_, ha⟩
      rw [bl_mk, tokR_small hb, hts]
theorem join_read {l : List UInt8} {ks : List Tk} (h : tokR l = .ok ks) : joinR ks = .tuple #[.string ⟨#[]⟩, .int .i64 30] ∨ (∃ X ts, joinR ks = .tuple #[.string X, .int .i64 0] ∧ X.size ≤ 65536 ∧ tokR (bl X) = .ok ts ∧ AlikeT ts ks) := by
  obtain ⟨hk, hR, hw, _⟩ := read_back h
  by_cases hb : 65536 < (bodyK ks ks.length).length
  · exact .inl (joinR_long hk hb)
  · obtain ⟨ts, hts, ha⟩ := round_trip hk hR
    rw [hw] at ha
    refine .inr ⟨_, ts, joinR_yes hk hb, by rw [size_mk]; omega, ?_, ha⟩
    rw [bl_mk, tokR_small hb, hts]
theorem kAlike2 {l m : List Tk} (p q : Option Addr) (c d : Nat) (w : World) (hp : TksAt w p l) (hq : TksAt w q m) (hn : m.length ≤ maxLen) (ha : AlikeT l m) :
    Calls Tryd.prog 28 #[.slice p l.length c, .slice q m.length d] w fun e w' => e = .returned (.bool true) ∧ Below w.heap.size w w' := by
  rw [ha.1]
  exact kAlike l m p q c d w hp hq (by rw [← ha.1]; exact hn) ha.1 ha.2
theorem er_ne {s : ByteArray} {er : Int} {p : Nat} (hx : tokR (bl s) = .error (er, p)) : (er == 0) = false := by
  refine beq_eq_false_iff_ne.2 ?_
  unfold tokR at hx
  split at hx
  · simp only [Except.error.injEq, Prod.mk.injEq] at hx; omega
  · exact (toks_fault (bl s) 0 er p hx).2.2.1
set_option maxHeartbeats 16000000 in
set_option maxRecDepth 100000 in
theorem lexRounds (p : Option Addr) (c : Nat) (l : List Tk) (s : ByteArray) (w : World) (hp : TksAt w p l) (hn : l.length ≤ maxLen) (hr : ∀ x ∈ l, TkR x) (hnil : p = none → c = 0) (hs : s.size ≤ maxLen) (hE : ErrAt w) (hK : KwAt w) (hG : SgAt w) (hP : PwAt w) :
    Calls Tryd.prog 7 #[.slice p l.length c, .string s] w fun r w' => r = .returned (.bool true) ∧ Below w.heap.size w w' := by
  have HS := Lib.hid hp; clear hp
  have HR := Lib.hid hr; clear hr
  have HE := Lib.hid hE; clear hE
  have HK := Lib.hid hK; clear hK
  have HG := Lib.hid hG; clear hG
  have HP := Lib.hid hP; clear hP
  have HNP := Lib.hid hnil; clear hnil
  have HSS := Lib.hid hs; clear hs
  have HNN := Lib.hid hn; clear hn
  have HC := Lib.hid (fun X w' h1 h2 h3 h4 => lTokens X w' h1 h2 h3 h4)
  have HJ := Lib.hid (fun l p c w' h1 h2 h3 h4 h5 h6 => lJoin l p c w' h1 h2 h3 h4 h5 h6)
  go_enter Tryd.func7, Tryd.ntmps7
  go_wp2_with fail
  refine (kBeyond l p c _ HS.out HNN.out (fun x hx => (HR.out x hx).t_)).mono ?_
  rintro r w0 ⟨rfl | ⟨rfl, hm⟩, hb0⟩
  · have Hb0 := Lib.hid hb0; clear hb0
    go_wp2_with fail
    go_ret
    exact ⟨rfl, Hb0.out⟩
  · have Hb0 := Lib.hid hb0; clear hb0
    have HM := Lib.hid hm
    go_wp2_with (at_builtin; refine wpCopyT rfl _ _ rfl w0.heap.size _ rfl (own_new w0) p l c rfl (HS.out.up (Hb0.out.trans ((below_alloc _ _).mono Hb0.out.size))) HNP.out hm (by simp) ?_)
    clear hm
    intro p1 c1 w1 hown hgrow
    have hb := ((below_alloc w0 (.cells #[] 36)).grown hgrow (by simp) (fun g hg => ownT_lt (own_new w0) hg))
    have HB1 := Lib.hid (Hb0.out.trans (hb.mono Hb0.out.size)); clear hb hgrow
    have HA1 := Lib.hid (own_tks3 rfl hown).1; clear hown
    go_wp2_with fail
    refine (HJ.out l p1 c1 _ HA1.out HNN.out HR.out (HK.out.at HB1.out) (HG.out.at HB1.out) (HP.out.at HB1.out)).mono ?_
    rintro e w2 ⟨rfl, hb⟩
    have HB2 := Lib.hid (HB1.out.trans (hb.mono HB1.out.size)); clear hb
    rcases join_cases HR.out with ⟨jc, hjc, hj⟩ | ⟨X, ts, hj, hX, hts, hal⟩
    · rw [hj]
      clear hj
      go_wp2_with fail
      have HBS := HB2
      cases hx : tokR (bl s) with
      | error ep =>
        obtain ⟨er, pe⟩ := ep
        have HT := Lib.hid hx
        have hne := er_ne hx
        have hne2 : (er != 0) = true := by rw [bne, hne]; rfl
        clear hx
        refine (HC.out s _ HSS.out (HE.out.at HBS.out) (HK.out.at HBS.out) (HG.out.at HBS.out)).mono ?_
        intro e w6 hp
        obtain ⟨rfl, hb⟩ := ts_err HT.out hp
        have HB6 := Lib.hid (HBS.out.trans ((hb.trans ((below_alloc w6 (.cells #[.int .i64 er, .int .i64 (pe : Int)] 25)).mono hb.size)).mono HBS.out.size)); clear hb hp
        go_wp2_with fail
        refine (lvLives _ (HE.out.at HB6.out) (HK.out.at HB6.out) (HG.out.at HB6.out)).mono ?_
        rintro e w7 ⟨rfl, hb⟩
        have HB7 := Lib.hid (HB6.out.trans (hb.mono HB6.out.size)); clear hb
        go_wp2_with fail
        go_ret
        exact ⟨rfl, HB7.out⟩
      | ok ks =>
        have HT2 := Lib.hid hx
        have HRB := Lib.hid (read_back hx)
        have HJR := Lib.hid (join_read hx)
        clear hx
        refine (HC.out s _ HSS.out (HE.out.at HBS.out) (HK.out.at HBS.out) (HG.out.at HBS.out)).mono ?_
        intro e w6 hp
        obtain ⟨p6, c6, rfl, ho, hb⟩ := ts_ok HT2.out hp
        have hat := own_tks3 rfl ho
        clear ho hp
        have hst := below_alloc w6 (.cells #[.int .i64 0, .int .i64 0] 25)
        have HB6 := Lib.hid (HBS.out.trans ((hb.trans (hst.mono hb.size)).mono HBS.out.size))
        have HA6 := Lib.hid (hat.1.up hst)
        have HN6 := Lib.hid hat.2
        clear hat hb hst
        have HLEN := Lib.hid HRB.out.2.2.2
        have HOE := Lib.hid (show ((w6.alloc (.cells #[.int .i64 0, .int .i64 0] 25)).alloc (.cells #[] 36)).ownsRow (w6.heap.size + 1) 36 4 (.slice (some ⟨w6.heap.size + 1, 0, none⟩) 0 0) 0 [] by
          have h := own_new (w6.alloc (.cells #[.int .i64 0, .int .i64 0] 25))
          rw [show (w6.alloc (.cells #[.int .i64 0, .int .i64 0] 25)).heap.size = w6.heap.size + 1 by simp] at h
          exact h)
        go_wp2_with (at_builtin; refine wpCopyT rfl _ _ rfl (w6.heap.size + 1) _ rfl HOE.out p6 ks c6 rfl (HA6.out.up (below_alloc _ _)) HN6.out (by have := HLEN.out; omega) (by simp) ?_)
        intro p7 c7 w7 hown hgrow
        have hb := ((below_alloc (w6.alloc (.cells #[.int .i64 0, .int .i64 0] 25)) (.cells #[] 36)).grown hgrow (by simp) (fun g hg => by have := ownT_lt HOE.out hg; simp; omega))
        have HB7 := Lib.hid (HB6.out.trans (hb.mono HB6.out.size))
        have HA7 := Lib.hid (own_tks3 rfl hown).1
        replace HA6 := Lib.hid (HA6.out.up hb)
        clear hb hgrow hown
        go_wp2_with fail
        refine (HJ.out ks p7 c7 _ HA7.out (by have := HLEN.out; unfold maxLen; omega) HRB.out.2.1 (HK.out.at HB7.out) (HG.out.at HB7.out) (HP.out.at HB7.out)).mono ?_
        rintro e w8 ⟨rfl, hb⟩
        have HB8 := Lib.hid (HB7.out.trans (hb.mono HB7.out.size))
        replace HA6 := Lib.hid (HA6.out.up hb)
        clear hb
        rcases HJR.out with hj | ⟨X2, ts2, hj, hX2, hts2, hal2⟩
        · rw [hj]
          clear hj
          go_wp2_with fail
          refine (lvLives _ (HE.out.at HB8.out) (HK.out.at HB8.out) (HG.out.at HB8.out)).mono ?_
          rintro e w9 ⟨rfl, hb⟩
          have HB9 := Lib.hid (HB8.out.trans (hb.mono HB8.out.size)); clear hb
          go_wp2_with fail
          go_ret
          exact ⟨rfl, HB9.out⟩
        · rw [hj]
          clear hj
          have HT3 := Lib.hid hts2; clear hts2
          have HAL2 := Lib.hid hal2; clear hal2
          go_wp2_with fail
          refine (HC.out X2 _ (by unfold maxLen; omega) (HE.out.at HB8.out) (HK.out.at HB8.out) (HG.out.at HB8.out)).mono ?_
          intro e w9 hp
          obtain ⟨p9, c9, rfl, ho, hb⟩ := ts_ok HT3.out hp
          have hat := (own_tks3 rfl ho).1
          clear ho hp
          obtain ⟨V2, hV2⟩ : ∃ V, V = w9.alloc (.cells #[.int .i64 0, .int .i64 0] 25) := ⟨_, rfl⟩
          have hst : Below w9.heap.size w9 V2 := by rw [hV2]; exact below_alloc _ _
          have HB9 := Lib.hid (HB8.out.trans ((hb.trans (hst.mono hb.size)).mono HB8.out.size))
          have HA9 := Lib.hid (hat.up hst)
          replace HA6 := Lib.hid (HA6.out.up (hb.trans (hst.mono hb.size)))
          clear hat hb hst
          go_wp2_with fail
          rw [← hV2]
          clear hV2
          refine (kAlike2 _ _ _ _ _ HA9.out HA6.out (by have := HLEN.out; unfold maxLen; omega) HAL2.out).mono ?_
          rintro e w10 ⟨rfl, hb⟩
          have HB10 := Lib.hid (HB9.out.trans (hb.mono HB9.out.size)); clear hb
          go_wp2_with fail
          refine (lvLives _ (HE.out.at HB10.out) (HK.out.at HB10.out) (HG.out.at HB10.out)).mono ?_
          rintro e w11 ⟨rfl, hb⟩
          have HB11 := Lib.hid (HB10.out.trans (hb.mono HB10.out.size)); clear hb
          go_wp2_with fail
          go_ret
          exact ⟨rfl, HB11.out⟩
    · rw [hj]
      clear hj
      have HT := Lib.hid hts; clear hts
      have HAL := Lib.hid hal; clear hal
      go_wp2_with fail
      refine (HC.out X _ (by unfold maxLen; omega) (HE.out.at HB2.out) (HK.out.at HB2.out) (HG.out.at HB2.out)).mono ?_
      intro e w3 hp
      obtain ⟨p3, c3, rfl, ho, hb⟩ := ts_ok HT.out hp
      have hat := (own_tks3 rfl ho).1
      clear ho hp
      obtain ⟨V, hV⟩ : ∃ V, V = w3.alloc (.cells #[.int .i64 0, .int .i64 0] 25) := ⟨_, rfl⟩
      have hst : Below w3.heap.size w3 V := by rw [hV]; exact below_alloc _ _
      have HB3 := Lib.hid (HB2.out.trans ((hb.trans (hst.mono hb.size)).mono HB2.out.size))
      have HA3 := Lib.hid (hat.up hst)
      clear hat hb hst
      go_wp2_with fail
      rw [← hV]
      clear hV
      refine (kWhole l p c _ (HS.out.up HB3.out) HM.out HNP.out).mono ?_
      rintro e w4 ⟨p4, c4, rfl, hat, hb⟩
      have HA4 := Lib.hid hat; clear hat
      have HA5 := Lib.hid (HA3.out.up hb)
      have HB4 := Lib.hid (HB3.out.trans (hb.mono HB3.out.size)); clear hb
      have hwl : (wholeL l).length ≤ maxLen := by
        have h1 := wholeL_len l
        have h2 := HM.out
        unfold maxLen
        omega
      have HWL := Lib.hid hwl; clear hwl
      go_wp2_with fail
      refine (kAlike2 _ _ _ _ _ HA5.out HA4.out HWL.out HAL.out).mono ?_
      rintro e w5 ⟨rfl, hb⟩
      have HB5 := Lib.hid (HB4.out.trans (hb.mono HB4.out.size)); clear hb
      go_wp2_with fail
      have HBS := HB5
      cases hx : tokR (bl s) with
      | error ep =>
        obtain ⟨er, pe⟩ := ep
        have HT := Lib.hid hx
        have hne := er_ne hx
        have hne2 : (er != 0) = true := by rw [bne, hne]; rfl
        clear hx
        refine (HC.out s _ HSS.out (HE.out.at HBS.out) (HK.out.at HBS.out) (HG.out.at HBS.out)).mono ?_
        intro e w6 hp
        obtain ⟨rfl, hb⟩ := ts_err HT.out hp
        have HB6 := Lib.hid (HBS.out.trans ((hb.trans ((below_alloc w6 (.cells #[.int .i64 er, .int .i64 (pe : Int)] 25)).mono hb.size)).mono HBS.out.size)); clear hb hp
        go_wp2_with fail
        refine (lvLives _ (HE.out.at HB6.out) (HK.out.at HB6.out) (HG.out.at HB6.out)).mono ?_
        rintro e w7 ⟨rfl, hb⟩
        have HB7 := Lib.hid (HB6.out.trans (hb.mono HB6.out.size)); clear hb
        go_wp2_with fail
        go_ret
        exact ⟨rfl, HB7.out⟩
      | ok ks =>
        have HT2 := Lib.hid hx
        have HRB := Lib.hid (read_back hx)
        have HJR := Lib.hid (join_read hx)
        clear hx
        refine (HC.out s _ HSS.out (HE.out.at HBS.out) (HK.out.at HBS.out) (HG.out.at HBS.out)).mono ?_
        intro e w6 hp
        obtain ⟨p6, c6, rfl, ho, hb⟩ := ts_ok HT2.out hp
        have hat := own_tks3 rfl ho
        clear ho hp
        have hst := below_alloc w6 (.cells #[.int .i64 0, .int .i64 0] 25)
        have HB6 := Lib.hid (HBS.out.trans ((hb.trans (hst.mono hb.size)).mono HBS.out.size))
        have HA6 := Lib.hid (hat.1.up hst)
        have HN6 := Lib.hid hat.2
        clear hat hb hst
        have HLEN := Lib.hid HRB.out.2.2.2
        have HOE := Lib.hid (show ((w6.alloc (.cells #[.int .i64 0, .int .i64 0] 25)).alloc (.cells #[] 36)).ownsRow (w6.heap.size + 1) 36 4 (.slice (some ⟨w6.heap.size + 1, 0, none⟩) 0 0) 0 [] by
          have h := own_new (w6.alloc (.cells #[.int .i64 0, .int .i64 0] 25))
          rw [show (w6.alloc (.cells #[.int .i64 0, .int .i64 0] 25)).heap.size = w6.heap.size + 1 by simp] at h
          exact h)
        go_wp2_with (at_builtin; refine wpCopyT rfl _ _ rfl (w6.heap.size + 1) _ rfl HOE.out p6 ks c6 rfl (HA6.out.up (below_alloc _ _)) HN6.out (by have := HLEN.out; omega) (by simp) ?_)
        intro p7 c7 w7 hown hgrow
        have hb := ((below_alloc (w6.alloc (.cells #[.int .i64 0, .int .i64 0] 25)) (.cells #[] 36)).grown hgrow (by simp) (fun g hg => by have := ownT_lt HOE.out hg; simp; omega))
        have HB7 := Lib.hid (HB6.out.trans (hb.mono HB6.out.size))
        have HA7 := Lib.hid (own_tks3 rfl hown).1
        replace HA6 := Lib.hid (HA6.out.up hb)
        clear hb hgrow hown
        go_wp2_with fail
        refine (HJ.out ks p7 c7 _ HA7.out (by have := HLEN.out; unfold maxLen; omega) HRB.out.2.1 (HK.out.at HB7.out) (HG.out.at HB7.out) (HP.out.at HB7.out)).mono ?_
        rintro e w8 ⟨rfl, hb⟩
        have HB8 := Lib.hid (HB7.out.trans (hb.mono HB7.out.size))
        replace HA6 := Lib.hid (HA6.out.up hb)
        clear hb
        rcases HJR.out with hj | ⟨X2, ts2, hj, hX2, hts2, hal2⟩
        · rw [hj]
          clear hj
          go_wp2_with fail
          refine (lvLives _ (HE.out.at HB8.out) (HK.out.at HB8.out) (HG.out.at HB8.out)).mono ?_
          rintro e w9 ⟨rfl, hb⟩
          have HB9 := Lib.hid (HB8.out.trans (hb.mono HB8.out.size)); clear hb
          go_wp2_with fail
          go_ret
          exact ⟨rfl, HB9.out⟩
        · rw [hj]
          clear hj
          have HT3 := Lib.hid hts2; clear hts2
          have HAL2 := Lib.hid hal2; clear hal2
          go_wp2_with fail
          refine (HC.out X2 _ (by unfold maxLen; omega) (HE.out.at HB8.out) (HK.out.at HB8.out) (HG.out.at HB8.out)).mono ?_
          intro e w9 hp
          obtain ⟨p9, c9, rfl, ho, hb⟩ := ts_ok HT3.out hp
          have hat := (own_tks3 rfl ho).1
          clear ho hp
          obtain ⟨V2, hV2⟩ : ∃ V, V = w9.alloc (.cells #[.int .i64 0, .int .i64 0] 25) := ⟨_, rfl⟩
          have hst : Below w9.heap.size w9 V2 := by rw [hV2]; exact below_alloc _ _
          have HB9 := Lib.hid (HB8.out.trans ((hb.trans (hst.mono hb.size)).mono HB8.out.size))
          have HA9 := Lib.hid (hat.up hst)
          replace HA6 := Lib.hid (HA6.out.up (hb.trans (hst.mono hb.size)))
          clear hat hb hst
          go_wp2_with fail
          rw [← hV2]
          clear hV2
          refine (kAlike2 _ _ _ _ _ HA9.out HA6.out (by have := HLEN.out; unfold maxLen; omega) HAL2.out).mono ?_
          rintro e w10 ⟨rfl, hb⟩
          have HB10 := Lib.hid (HB9.out.trans (hb.mono HB9.out.size)); clear hb
          go_wp2_with fail
          refine (lvLives _ (HE.out.at HB10.out) (HK.out.at HB10.out) (HG.out.at HB10.out)).mono ?_
          rintro e w11 ⟨rfl, hb⟩
          have HB11 := Lib.hid (HB10.out.trans (hb.mono HB10.out.size)); clear hb
          go_wp2_with fail
          go_ret
          exact ⟨rfl, HB11.out⟩
end Go.Proofs.YtcigdlpljjkplaaDoor
