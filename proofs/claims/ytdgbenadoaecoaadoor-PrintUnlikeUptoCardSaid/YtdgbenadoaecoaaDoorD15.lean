/- The walk of PrintUnlike. The walk of PrintUnlike's outermost function; how what it is handed reads; what the bound of the second form gives. Conditions: all lies in memory as it is told; no list is too long; the tables lie as the program lays them. all lies in memory as it is told. -/
import Derived.Test.YtdgbenadoaecoaaDoorD13
import Derived.Test.YtdgbenadoaecoaaDoorME
import Derived.Deep.CutRange
import Derived.Test.YtdgbenadoaecoaaDoorRw
import Derived.Test.YtdgbenadoaecoaaDoorRows
namespace Go.Proofs.YtdgbenadoaecoaaDoor
open Go.RowKit

theorem okT (n : Int) : okCode true n = 0 := rfl
theorem okF (n : Int) : okCode false n = n := rfl
theorem two_rows {w : World} {d n : Nat} {x y : Ru d} {fz : Nat × Nat} (h : w.heap[n]? = some (.cells #[.string x.p, .slice x.hp x.hs.length x.hc, .slice x.bp x.bs.length x.bc, .string y.p, .slice y.hp y.hs.length y.hc, .slice y.bp y.bs.length y.bc] 25 fz)) (hx : RuAt w x) (hy : RuAt w y) : RusAt w d (some ⟨n, 0, none⟩) [x, y] := by
  refine ⟨.inr ⟨n, 0, rfl, (Array.getElem?_eq_some_iff.1 h).1, fun i hi => ?_⟩, fun z hz => ?_⟩
  · match i, hi with
    | 0, _ =>
      refine VsAt.of_cells h fun k hk => ?_
      match k, hk with
      | 0, _ => rfl
      | 1, _ => rfl
      | 2, _ => rfl
    | 1, _ =>
      refine VsAt.of_cells h fun k hk => ?_
      match k, hk with
      | 0, _ => rfl
      | 1, _ => rfl
      | 2, _ => rfl
  · simp only [List.mem_cons, List.not_mem_nil, or_false] at hz
    rcases hz with rfl | rfl
    · exact hx
    · exact hy
set_option maxHeartbeats 16000000 in
set_option maxRecDepth 100000 in
theorem apartT (d : Nat) (x y : Ru d) (q1 q2 : Option Addr) (k1 k2 : Nat) (fs gs : List Fc) (a b : ByteArray) (ts us : List Tm) (sva svb : Value) (w : World) (hx : RuAt w x) (hy : RuAt w y) (rx : RuB x) (ry : RuB y)
    (hf : FcsAt w q1 fs) (hg : FcsAt w q2 gs) (rf : ∀ f ∈ fs, FcR f) (rg : ∀ g ∈ gs, FcR g) (nf : fs.length ≤ 1048576) (ng : gs.length ≤ 1048576) (ha : a.size ≤ maxLen) (hb : b.size ≤ maxLen) (hts : TmSl w sva ts) (hus : TmSl w svb us) (rt : TmsR ts) (ru : TmsR us)
    (hT : Tabs w) (hK : KwAt w) (hRl : RelsAt w) (hFo : FoldsAt w) :
    Calls Tryd.prog 5 #[.agg #[.string x.p, .slice x.hp x.hs.length x.hc, .slice x.bp x.bs.length x.bc], .agg #[.string y.p, .slice y.hp y.hs.length y.hc, .slice y.bp y.bs.length y.bc], .slice q1 fs.length k1, .slice q2 gs.length k2, .agg #[.string a, sva], .agg #[.string b, svb]] w fun r w' => r = .returned (.bool true) ∧ Below w.heap.size w w' := by
  have HX := Lib.hid hx; clear hx
  have HY := Lib.hid hy; clear hy
  have HF := Lib.hid hf; clear hf
  have HG := Lib.hid hg; clear hg
  have HTS := Lib.hid hts
  have HUS := Lib.hid hus
  have HT := Lib.hid hT; clear hT
  have HK := Lib.hid hK; clear hK
  have HRL := Lib.hid hRl; clear hRl
  have HFO := Lib.hid hFo; clear hFo
  obtain ⟨pa, ca, rfl, _, _⟩ := hts
  obtain ⟨pb, cb, rfl, _, _⟩ := hus
  obtain ⟨ox, hox⟩ : ∃ o, o = x.ok := ⟨_, rfl⟩
  obtain ⟨oy, hoy⟩ : ∃ o, o = y.ok := ⟨_, rfl⟩
  obtain ⟨s1, hs1⟩ : ∃ s, s = mk (txt x.ok x.l) := ⟨_, rfl⟩
  obtain ⟨s2, hs2⟩ : ∃ s, s = mk (txt y.ok y.l) := ⟨_, rfl⟩
  have HPX := Lib.hid (show ∀ w', RuAt w' x → Tabs w' → RelsAt w' → FoldsAt w' → Calls Tryd.prog 8 #[.agg #[.string x.p, .slice x.hp x.hs.length x.hc, .slice x.bp x.bs.length x.bc]] w' (fun e w'' => e = .returned (.tuple #[.string s1, .int .i64 (okCode ox 40)]) ∧ Below w'.heap.size w' w'') from fun w' h1 h2 h3 h4 => by
    rw [hs1, hox]
    exact pRuleX d x w' h1 rx h2 h3 h4)
  have HPY := Lib.hid (show ∀ w', RuAt w' y → Tabs w' → RelsAt w' → FoldsAt w' → Calls Tryd.prog 8 #[.agg #[.string y.p, .slice y.hp y.hs.length y.hc, .slice y.bp y.bs.length y.bc]] w' (fun e w'' => e = .returned (.tuple #[.string s2, .int .i64 (okCode oy 40)]) ∧ Below w'.heap.size w' w'') from fun w' h1 h2 h3 h4 => by
    rw [hs2, hoy]
    exact pRuleX d y w' h1 ry h2 h3 h4)
  have SAY1 := Lib.hid (show ox = true → oy = true → (s1 = s2 ↔ (x.p = y.p ∧ x.hs = y.hs ∧ LsLike x.bs y.bs)) from fun h1 h2 => by
    rw [hs1, hs2]
    exact rules_say (hox ▸ h1) (hoy ▸ h2))
  have SM1 := Lib.hid (fun w' h1 h2 => gSameRule d x y w' h1 h2 rx)
  clear hox hoy hs1 hs2
  obtain ⟨of, hof⟩ : ∃ o, o = fs.all fcOk := ⟨_, rfl⟩
  obtain ⟨og, hog⟩ : ∃ o, o = gs.all fcOk := ⟨_, rfl⟩
  obtain ⟨s3, hs3⟩ : ∃ s, s = mk (txt (fs.all fcOk) (factsL fs)) := ⟨_, rfl⟩
  obtain ⟨s4, hs4⟩ : ∃ s, s = mk (txt (gs.all fcOk) (factsL gs)) := ⟨_, rfl⟩
  have HPF := Lib.hid (show ∀ w', FcsAt w' q1 fs → Tabs w' → KwAt w' → Calls Tryd.prog 10 #[.slice q1 fs.length k1] w' (fun e w'' => e = .returned (.tuple #[.string s3, .int .i64 (okCode of 10)]) ∧ Below w'.heap.size w' w'') from fun w' h1 h2 h3 => by
    rw [hs3, hof]
    exact pFacts fs q1 k1 w' h1 rf nf h2 h3)
  have HPG := Lib.hid (show ∀ w', FcsAt w' q2 gs → Tabs w' → KwAt w' → Calls Tryd.prog 10 #[.slice q2 gs.length k2] w' (fun e w'' => e = .returned (.tuple #[.string s4, .int .i64 (okCode og 10)]) ∧ Below w'.heap.size w' w'') from fun w' h1 h2 h3 => by
    rw [hs4, hog]
    exact pFacts gs q2 k2 w' h1 rg ng h2 h3)
  have SAY2 := Lib.hid (show of = true → og = true → (s3 = s4 ↔ FsSame fs gs) from fun h1 h2 => by
    rw [hs3, hs4]
    exact facts_say (hof ▸ h1) (hog ▸ h2))
  have SM2 := Lib.hid (fun w' h1 h2 => gSameFacts fs gs q1 q2 k1 k2 w' h1 h2 (by omega))
  clear hof hog hs3 hs4
  obtain ⟨oa, hoa⟩ : ∃ o, o = atOk a ts := ⟨_, rfl⟩
  obtain ⟨ob, hob⟩ : ∃ o, o = atOk b us := ⟨_, rfl⟩
  obtain ⟨s5, hs5⟩ : ∃ s, s = mk (txt (atOk a ts) (atomL a ts ++ [63])) := ⟨_, rfl⟩
  obtain ⟨s6, hs6⟩ : ∃ s, s = mk (txt (atOk b us) (atomL b us ++ [63])) := ⟨_, rfl⟩
  have HPA := Lib.hid (show ∀ w', TmSl w' (.slice pa ts.length ca) ts → Tabs w' → Calls Tryd.prog 15 #[.agg #[.string a, .slice pa ts.length ca]] w' (fun e w'' => e = .returned (.tuple #[.string s5, .int .i64 (okCode oa 40)]) ∧ Below w'.heap.size w' w'') from fun w' h1 h2 => by
    rw [hs5, hoa]
    exact pQueryU a _ ts w' ha h1 rt h2)
  have HPB := Lib.hid (show ∀ w', TmSl w' (.slice pb us.length cb) us → Tabs w' → Calls Tryd.prog 15 #[.agg #[.string b, .slice pb us.length cb]] w' (fun e w'' => e = .returned (.tuple #[.string s6, .int .i64 (okCode ob 40)]) ∧ Below w'.heap.size w' w'') from fun w' h1 h2 => by
    rw [hs6, hob]
    exact pQueryU b _ us w' hb h1 ru h2)
  have SAY3 := Lib.hid (show oa = true → ob = true → (s5 = s6 ↔ (a = b ∧ ts = us)) from fun h1 h2 => by
    rw [hs5, hs6]
    exact queries_say (hoa ▸ h1) (hob ▸ h2))
  have SM3 := Lib.hid (fun w' h1 h2 => gSameAtom a b ts us (.slice pa ts.length ca) (.slice pb us.length cb) w' h1 h2)
  clear hoa hob hs5 hs6 rf rg rt ru ha hb nf ng
  obtain ⟨W, hW⟩ : ∃ W, W = (((((w.alloc (.cells #[.string x.p, .slice x.hp x.hs.length x.hc, .slice x.bp x.bs.length x.bc] 25)).alloc (.cells #[.string y.p, .slice y.hp y.hs.length y.hc, .slice y.bp y.bs.length y.bc] 25)).alloc (.cells #[.string a, .slice pa ts.length ca] 29)).alloc (.cells #[.string b, .slice pb us.length cb] 29)).alloc (.cells #[.string x.p, .slice x.hp x.hs.length x.hc, .slice x.bp x.bs.length x.bc, .string y.p, .slice y.hp y.hs.length y.hc, .slice y.bp y.bs.length y.bc] 25)) := ⟨_, rfl⟩
  have HBW := Lib.hid (show Below w.heap.size w W by
    rw [hW]
    exact (below_alloc _ _).trans (((below_alloc _ _).trans (((below_alloc _ _).trans (((below_alloc _ _).trans ((below_alloc _ _).mono (by simp))).mono (by simp))).mono (by simp))).mono (by simp)))
  have hsW : W.heap.size = w.heap.size + 5 := by rw [hW]; simp
  have HBX := Lib.hid (show W.heap[w.heap.size]? = some (.cells #[.string x.p, .slice x.hp x.hs.length x.hc, .slice x.bp x.bs.length x.bc] 25 (0, 0)) by
    rw [hW, Lib.alloc_old _ _ _ (by simp <;> omega), Lib.alloc_old _ _ _ (by simp <;> omega), Lib.alloc_old _ _ _ (by simp <;> omega), Lib.alloc_old _ _ _ (by simp)]
    exact heap_alloc_new w _)
  have HBY := Lib.hid (show W.heap[w.heap.size + 1]? = some (.cells #[.string y.p, .slice y.hp y.hs.length y.hc, .slice y.bp y.bs.length y.bc] 25 (0, 0)) by
    rw [hW, Lib.alloc_old _ _ _ (by simp <;> omega), Lib.alloc_old _ _ _ (by simp <;> omega), Lib.alloc_old _ _ _ (by simp)]
    simpa using heap_alloc_new (w.alloc _) _)
  have HBA := Lib.hid (show W.heap[w.heap.size + 2]? = some (.cells #[.string a, .slice pa ts.length ca] 29 (0, 0)) by
    rw [hW, Lib.alloc_old _ _ _ (by simp <;> omega), Lib.alloc_old _ _ _ (by simp)]
    simpa using heap_alloc_new ((w.alloc _).alloc _) _)
  have HBB := Lib.hid (show W.heap[w.heap.size + 3]? = some (.cells #[.string b, .slice pb us.length cb] 29 (0, 0)) by
    rw [hW, Lib.alloc_old _ _ _ (by simp)]
    simpa using heap_alloc_new (((w.alloc _).alloc _).alloc _) _)
  have HROW := Lib.hid (two_rows (x := x) (y := y) (n := w.heap.size + 4) (fz := (0, 0)) (show W.heap[w.heap.size + 4]? = _ by
    rw [hW]
    simpa using heap_alloc_new ((((w.alloc _).alloc _).alloc _).alloc _) _) (HX.out.up HBW.out) (HY.out.up HBW.out))
  have HBEY := Lib.hid (fun n (hn : n = w.heap.size + 4) => beyondRules d [x, y] (some ⟨n, 0, none⟩) 2 W (hn ▸ HROW.out) (fun z hz => by
    simp only [List.mem_cons, List.not_mem_nil, or_false] at hz
    rcases hz with rfl | rfl
    · exact rx
    · exact ry))
  clear rx ry
  go_enter Tryd.func5, Tryd.ntmps5
  go_wp2_with fail
  rw [← hW]
  clear hW
  refine (HBEY.out _ (by first | rfl | omega)).mono ?_
  rintro r w1 ⟨bb, rfl, _, hb1⟩
  have HK1 := Lib.hid hb1
  have H1 := Lib.hid (HBW.out.trans (hb1.mono HBW.out.size)); clear hb1
  cases bb
  case true =>
    go_wp2_with fail
    go_ret
    exact ⟨rfl, H1.out⟩
  case false =>
    obtain ⟨x0, x1, x2⟩ := three ((HK1.out.block w.heap.size (by omega)).trans HBX.out)
    obtain ⟨y0, y1, y2⟩ := three ((HK1.out.block (w.heap.size + 1) (by omega)).trans HBY.out)
    obtain ⟨a0, a1⟩ := two ((HK1.out.block (w.heap.size + 2) (by omega)).trans HBA.out)
    obtain ⟨b0, b1⟩ := two ((HK1.out.block (w.heap.size + 3) (by omega)).trans HBB.out)
    go_wp2_with fail
    refine (HPX.out _ (HX.out.up H1.out) (HT.out.at H1.out) (HRL.out.at H1.out) (HFO.out.at H1.out)).mono ?_
    rintro r w2 ⟨rfl, hb2⟩
    have HK2 := Lib.hid (HK1.out.trans (hb2.mono HK1.out.size))
    have H2 := Lib.hid (H1.out.trans (hb2.mono H1.out.size)); clear hb2
    clear x0 x1 x2 y0 y1 y2 a0 a1 b0 b1
    obtain ⟨x0, x1, x2⟩ := three ((HK2.out.block w.heap.size (by omega)).trans HBX.out)
    obtain ⟨y0, y1, y2⟩ := three ((HK2.out.block (w.heap.size + 1) (by omega)).trans HBY.out)
    obtain ⟨a0, a1⟩ := two ((HK2.out.block (w.heap.size + 2) (by omega)).trans HBA.out)
    obtain ⟨b0, b1⟩ := two ((HK2.out.block (w.heap.size + 3) (by omega)).trans HBB.out)
    go_wp2_with fail
    refine (HPY.out _ (HY.out.up H2.out) (HT.out.at H2.out) (HRL.out.at H2.out) (HFO.out.at H2.out)).mono ?_
    rintro r w3 ⟨rfl, hb3⟩
    have HK3 := Lib.hid (HK2.out.trans (hb3.mono HK2.out.size))
    have H3 := Lib.hid (H2.out.trans (hb3.mono H2.out.size)); clear hb3
    clear x0 x1 x2 y0 y1 y2 a0 a1 b0 b1
    obtain ⟨x0, x1, x2⟩ := three ((HK3.out.block w.heap.size (by omega)).trans HBX.out)
    obtain ⟨y0, y1, y2⟩ := three ((HK3.out.block (w.heap.size + 1) (by omega)).trans HBY.out)
    obtain ⟨a0, a1⟩ := two ((HK3.out.block (w.heap.size + 2) (by omega)).trans HBA.out)
    obtain ⟨b0, b1⟩ := two ((HK3.out.block (w.heap.size + 3) (by omega)).trans HBB.out)
    go_upto_region 5 with fail
    go_cut [45] from 31 to 44 (fun t wx => t = .bool false ∧ Below w3.heap.size w3 wx)
    case first =>
      cases ox <;> cases oy
      case true.true =>
        have HS := Lib.hid (SAY1.out rfl rfl)
        simp only [okT]
        by_cases hsame : s1 = s2
        · have HCS := Lib.hid (fun w' h1 h2 => (SM1.out w' h1 h2).mono fun _ _ h => SamePost.yes (HS.out.1 hsame) h)
          subst hsame
          go_wp2_with fail
          refine (HCS.out _ (HX.out.up H3.out) (HY.out.up H3.out)).mono ?_
          rintro r wy ⟨rfl, hbe⟩
          have HBE := Lib.hid hbe; clear hbe
          go_wp2_with fail
          go_meet
          exact ⟨rfl, HBE.out⟩
        · have HCS := Lib.hid (fun w' h1 h2 => (SM1.out w' h1 h2).mono fun _ _ h => SamePost.no (fun h9 => hsame (HS.out.2 h9)) h)
          obtain ⟨n1, n2, n3⟩ := no_eq hsame
          clear hsame
          go_wp2_with fail
          refine (HCS.out _ (HX.out.up H3.out) (HY.out.up H3.out)).mono ?_
          rintro r wy ⟨rfl, hbe⟩
          have HBE := Lib.hid hbe; clear hbe
          go_wp2_with fail
          go_meet
          exact ⟨rfl, HBE.out⟩
      all_goals
        simp only [okT, okF]
        go_wp2_with fail
        go_meet
        exact ⟨rfl, Below.refl _ _⟩
    case rest =>
    obtain ⟨rfl, hbc⟩ := hcut
    rename World => w4
    have HK4 := Lib.hid (HK3.out.trans (hbc.mono HK3.out.size))
    have H4 := Lib.hid (H3.out.trans (hbc.mono H3.out.size)); clear hbc
    clear x0 x1 x2 y0 y1 y2 a0 a1 b0 b1
    go_wp2_with fail
    refine (HPF.out _ (HF.out.up H4.out) (HT.out.at H4.out) (HK.out.at H4.out)).mono ?_
    rintro r w5 ⟨rfl, hb5⟩
    have HK5 := Lib.hid (HK4.out.trans (hb5.mono HK4.out.size))
    have H5 := Lib.hid (H4.out.trans (hb5.mono H4.out.size)); clear hb5
    go_wp2_with fail
    refine (HPG.out _ (HG.out.up H5.out) (HT.out.at H5.out) (HK.out.at H5.out)).mono ?_
    rintro r w6 ⟨rfl, hb6⟩
    have HK6 := Lib.hid (HK5.out.trans (hb6.mono HK5.out.size))
    have H6 := Lib.hid (H5.out.trans (hb6.mono H5.out.size)); clear hb6
    go_upto_region 9 with fail
    go_cut [70] from 56 to 69 (fun t wx => t = .bool false ∧ Below w6.heap.size w6 wx)
    case first =>
      cases of <;> cases og
      case true.true =>
        have HS := Lib.hid (SAY2.out rfl rfl)
        simp only [okT]
        by_cases hsame : s3 = s4
        · have HCS := Lib.hid (fun w' h1 h2 => (SM2.out w' h1 h2).mono fun _ _ h => SamePost.yes (HS.out.1 hsame) h)
          subst hsame
          go_wp2_with fail
          refine (HCS.out _ (HF.out.up H6.out) (HG.out.up H6.out)).mono ?_
          rintro r wy ⟨rfl, hbe⟩
          have HBE := Lib.hid hbe; clear hbe
          go_wp2_with fail
          go_meet
          exact ⟨rfl, HBE.out⟩
        · have HCS := Lib.hid (fun w' h1 h2 => (SM2.out w' h1 h2).mono fun _ _ h => SamePost.no (fun h9 => hsame (HS.out.2 h9)) h)
          obtain ⟨n1, n2, n3⟩ := no_eq hsame
          clear hsame
          go_wp2_with fail
          refine (HCS.out _ (HF.out.up H6.out) (HG.out.up H6.out)).mono ?_
          rintro r wy ⟨rfl, hbe⟩
          have HBE := Lib.hid hbe; clear hbe
          go_wp2_with fail
          go_meet
          exact ⟨rfl, HBE.out⟩
      all_goals
        simp only [okT, okF]
        go_wp2_with fail
        go_meet
        exact ⟨rfl, Below.refl _ _⟩
    case rest =>
    obtain ⟨rfl, hbc⟩ := hcut
    rename World => w7
    have HK7 := Lib.hid (HK6.out.trans (hbc.mono HK6.out.size))
    have H7 := Lib.hid (H6.out.trans (hbc.mono H6.out.size)); clear hbc
    obtain ⟨x0, x1, x2⟩ := three ((HK7.out.block w.heap.size (by omega)).trans HBX.out)
    obtain ⟨y0, y1, y2⟩ := three ((HK7.out.block (w.heap.size + 1) (by omega)).trans HBY.out)
    obtain ⟨a0, a1⟩ := two ((HK7.out.block (w.heap.size + 2) (by omega)).trans HBA.out)
    obtain ⟨b0, b1⟩ := two ((HK7.out.block (w.heap.size + 3) (by omega)).trans HBB.out)
    go_wp2_with fail
    refine (HPA.out _ (HTS.out.up H7.out) (HT.out.at H7.out)).mono ?_
    rintro r w8 ⟨rfl, hb8⟩
    have HK8 := Lib.hid (HK7.out.trans (hb8.mono HK7.out.size))
    have H8 := Lib.hid (H7.out.trans (hb8.mono H7.out.size)); clear hb8
    clear x0 x1 x2 y0 y1 y2 a0 a1 b0 b1
    obtain ⟨x0, x1, x2⟩ := three ((HK8.out.block w.heap.size (by omega)).trans HBX.out)
    obtain ⟨y0, y1, y2⟩ := three ((HK8.out.block (w.heap.size + 1) (by omega)).trans HBY.out)
    obtain ⟨a0, a1⟩ := two ((HK8.out.block (w.heap.size + 2) (by omega)).trans HBA.out)
    obtain ⟨b0, b1⟩ := two ((HK8.out.block (w.heap.size + 3) (by omega)).trans HBB.out)
    go_wp2_with fail
    refine (HPB.out _ (HUS.out.up H8.out) (HT.out.at H8.out)).mono ?_
    rintro r w9 ⟨rfl, hb9⟩
    have HK9 := Lib.hid (HK8.out.trans (hb9.mono HK8.out.size))
    have H9 := Lib.hid (H8.out.trans (hb9.mono H8.out.size)); clear hb9
    clear x0 x1 x2 y0 y1 y2 a0 a1 b0 b1
    obtain ⟨x0, x1, x2⟩ := three ((HK9.out.block w.heap.size (by omega)).trans HBX.out)
    obtain ⟨y0, y1, y2⟩ := three ((HK9.out.block (w.heap.size + 1) (by omega)).trans HBY.out)
    obtain ⟨a0, a1⟩ := two ((HK9.out.block (w.heap.size + 2) (by omega)).trans HBA.out)
    obtain ⟨b0, b1⟩ := two ((HK9.out.block (w.heap.size + 3) (by omega)).trans HBB.out)
    go_upto_region 13 with fail
    go_cut [95] from 81 to 94 (fun t wx => t = .bool false ∧ Below w9.heap.size w9 wx)
    case first =>
      cases oa <;> cases ob
      case true.true =>
        have HS := Lib.hid (SAY3.out rfl rfl)
        simp only [okT]
        by_cases hsame : s5 = s6
        · have HCS := Lib.hid (fun w' h1 h2 => (SM3.out w' h1 h2).mono fun _ _ h => SamePost.yes (HS.out.1 hsame) h)
          subst hsame
          go_wp2_with fail
          refine (HCS.out _ (HTS.out.up H9.out) (HUS.out.up H9.out)).mono ?_
          rintro r wy ⟨rfl, hbe⟩
          have HBE := Lib.hid hbe; clear hbe
          go_wp2_with fail
          go_meet
          exact ⟨rfl, HBE.out⟩
        · have HCS := Lib.hid (fun w' h1 h2 => (SM3.out w' h1 h2).mono fun _ _ h => SamePost.no (fun h9 => hsame (HS.out.2 h9)) h)
          obtain ⟨n1, n2, n3⟩ := no_eq hsame
          clear hsame
          go_wp2_with fail
          refine (HCS.out _ (HTS.out.up H9.out) (HUS.out.up H9.out)).mono ?_
          rintro r wy ⟨rfl, hbe⟩
          have HBE := Lib.hid hbe; clear hbe
          go_wp2_with fail
          go_meet
          exact ⟨rfl, HBE.out⟩
      all_goals
        simp only [okT, okF]
        go_wp2_with fail
        go_meet
        exact ⟨rfl, Below.refl _ _⟩
    case rest =>
    obtain ⟨rfl, hbc⟩ := hcut
    rename World => w10
    have H10 := Lib.hid (H9.out.trans (hbc.mono H9.out.size)); clear hbc
    clear x0 x1 x2 y0 y1 y2 a0 a1 b0 b1
    go_wp2_with fail
    refine (lives _ (HT.out.at H10.out)).mono ?_
    rintro r w11 ⟨rfl, hb11⟩
    have H11 := Lib.hid (H10.out.trans (hb11.mono H10.out.size)); clear hb11
    go_wp2_with fail
    go_ret
    exact ⟨rfl, H11.out⟩
open Go.RowKit Go.ChangeShapes Go.WideShapes

set_option maxHeartbeats 4000000 in
theorem unlikeT (d : Nat) (x y : Ru d) (q1 q2 : Option Addr) (k1 k2 : Nat) (fs gs : List Fc) (a b : ByteArray) (ts us : List Tm) (sva svb : Value) (w : World) (hx : RuAt w x) (hy : RuAt w y) (rx : RuB x) (ry : RuB y)
    (hf : FcsAt w q1 fs) (hg : FcsAt w q2 gs) (rf : ∀ f ∈ fs, FcR f) (rg : ∀ g ∈ gs, FcR g) (nf : fs.length ≤ 1048576) (ng : gs.length ≤ 1048576) (ha : a.size ≤ maxLen) (hb : b.size ≤ maxLen) (hts : TmSl w sva ts) (hus : TmSl w svb us) (rt : TmsR ts) (ru : TmsR us)
    (hT : Tabs w) (hK : KwAt w) (hRl : RelsAt w) (hFo : FoldsAt w) :
    Calls Tryd.prog 3 #[.agg #[.string x.p, .slice x.hp x.hs.length x.hc, .slice x.bp x.bs.length x.bc, .string y.p, .slice y.hp y.hs.length y.hc, .slice y.bp y.bs.length y.bc, .slice q1 fs.length k1, .slice q2 gs.length k2, .string a, sva, .string b, svb]] w
      fun r w' => r = .returned (.bool true) ∧ Below w.heap.size w w' := by
  have HTS := Lib.hid hts
  have HUS := Lib.hid hus
  obtain ⟨pa, ca, rfl, _, _⟩ := hts
  obtain ⟨pb, cb, rfl, _, _⟩ := hus
  obtain ⟨W, hW⟩ : ∃ W, W = w.alloc (.cells #[.string x.p, .slice x.hp x.hs.length x.hc, .slice x.bp x.bs.length x.bc, .string y.p, .slice y.hp y.hs.length y.hc, .slice y.bp y.bs.length y.bc, .slice q1 fs.length k1, .slice q2 gs.length k2, .string a, .slice pa ts.length ca, .string b, .slice pb us.length cb] 31) := ⟨_, rfl⟩
  have HBW := Lib.hid (show Below w.heap.size w W by rw [hW]; exact below_alloc _ _)
  have HC := Lib.hid (apartT d x y q1 q2 k1 k2 fs gs a b ts us _ _ W (hx.up HBW.out) (hy.up HBW.out) rx ry (hf.up HBW.out) (hg.up HBW.out) rf rg nf ng ha hb (HTS.out.up HBW.out) (HUS.out.up HBW.out) rt ru (hT.at HBW.out) (hK.at HBW.out) (hRl.at HBW.out) (hFo.at HBW.out))
  clear hx hy rx ry hf hg rf rg nf ng ha hb rt ru hT hK hRl hFo
  go_enter Tryd.func3, Tryd.ntmps3
  go_wp2_with fail
  rw [← hW]
  clear hW
  refine HC.out.mono ?_
  rintro r w1 ⟨rfl, hbe⟩
  have HB := Lib.hid hbe; clear hbe
  go_wp2_with fail
  go_ret
  exact ⟨rfl, HBW.out.trans (HB.out.mono HBW.out.size)⟩
/-! What the bound gives. -/
theorem bulk_one {H : Type} (d : DataW H) : 1 ≤ Rows.uptoBulk d := by
  cases d with
  | lit l => cases l <;> simp [Rows.uptoBulk]
  | nil => simp [Rows.uptoBulk]
  | ptr d => simp [Rows.uptoBulk]
  | slice elems spare => simp [Rows.uptoBulk]
  | agg parts => simp [Rows.uptoBulk]
  | iface t d => simp [Rows.uptoBulk]
  | map entries => simp [Rows.uptoBulk]
  | held h => simp [Rows.uptoBulk]
theorem bulk_len {H : Type} (l : List (DataW H)) : l.length ≤ Rows.uptoBulkAll l := by
  induction l with
  | nil => simp [Rows.uptoBulkAll]
  | cons x r ih => have := bulk_one x; simp only [Rows.uptoBulkAll, List.length_cons]; omega
section
variable {H : Type} {enc : TypeId × Value → H} {w : World} {base : Nat} {sp : Nat → Bool} {held : Bool}
theorem bulk_slice {fuel : Nat} {T E : TypeId} {cs : List Value} {x : DataW H × List MemPlace} {p : Option Addr} {n cap : Nat} (hu : Tryd.prog.underlying T = some (.slice E)) (h : DataW.trod enc Tryd.prog w base sp held fuel T cs = some x) (hc : cs = [.slice p n cap]) : n ≤ Rows.uptoBulk x.1 := by
  rcases DataW.trod_slice hu h with ⟨hs, _⟩ | ⟨a, len, cap', elems, rest, m', rfl, hs, hy2, hba, hlc, hcm, hel, hei, _⟩
  · rw [hs] at hc
    simp at hc
    omega
  · rw [hs] at hc
    simp at hc
    rw [hy2]
    simp only [Rows.uptoBulk]
    have h1 := bulk_len (elems.map fun e => e.1)
    rw [List.length_map] at h1
    omega
/-- A list of facts that reads as data. -/
theorem trod_facts {fuel : Nat} {cs : List Value} {x : DataW H × List MemPlace} (h : DataW.trod enc Tryd.prog w base sp held fuel 26 cs = some x) (hw : ∀ n ∈ x.1.weights Tryd.prog 26, n ≤ reachBytes) :
    ∃ (p : Option Addr) (cap : Nat) (fs : List Fc), cs = [.slice p fs.length cap] ∧ FcsAt w p fs ∧ (∀ f ∈ fs, FcR f) ∧ fs.length ≤ Rows.uptoBulk x.1 := by
  obtain ⟨p, fs, cap, hc, hm, hb, hrow, hR⟩ := open_list (α := Fc) Tryd.underlying26 cellsF (by decide) bytesFc (by decide) (fun f => [.string f.p, f.sv]) (fun f => FcR f ∧ VlSl w f.sv f.xs) (fun t => by simp) h hw (fun f cs' y _ hy hwy => by
    obtain ⟨g, rfl, h1, h2⟩ := trod_fact hy hwy
    exact ⟨g, rfl, h1, h2⟩)
  exact ⟨p, cap, fs, hc, ⟨hrow.imp id fun ⟨a, o, hp, ha, hc⟩ => ⟨a, o, hp, ha, fun i hi => ⟨hc i hi 0 (by omega), hc i hi 1 (by omega)⟩⟩, fun f hf => (hR f hf).2⟩, fun f hf => (hR f hf).1, bulk_slice Tryd.underlying26 h hc⟩
theorem cellsTwo : Tryd.prog.cellsOf 31 = 12 := by kernel_rfl
theorem cellsFs : Tryd.prog.cellsOf 26 = 1 := by kernel_rfl
theorem list6 {α : Type} : ∀ {l : List α}, l.length = 6 → ∃ a b c d e f, l = [a, b, c, d, e, f]
  | [a, b, c, d, e, f], _ => ⟨a, b, c, d, e, f, rfl⟩
theorem weights_two (y0 y1 y2 y3 y4 y5 : DataW H) : (DataW.agg [y0, y1, y2, y3, y4, y5]).weights Tryd.prog 31 = y0.weights Tryd.prog 25 ++ (y1.weights Tryd.prog 25 ++ (y2.weights Tryd.prog 26 ++ (y3.weights Tryd.prog 26 ++ (y4.weights Tryd.prog 29 ++ (y5.weights Tryd.prog 29 ++ []))))) := by
  simp [DataW.weights, Tryd.underlying31, DataW.weightsEach]
/-- Two of each that read as data. -/
theorem trod_two {fuel : Nat} {cs : List Value} {x : DataW H × List MemPlace} (h : DataW.trod enc Tryd.prog w base sp held fuel 31 cs = some x) (hw : ∀ n ∈ x.1.weights Tryd.prog 31, n ≤ reachBytes) (hk : Rows.uptoBulk x.1 ≤ 1048576) :
    ∃ (X Y : Ru fuel) (q1 q2 : Option Addr) (k1 k2 : Nat) (fs gs : List Fc) (a b : ByteArray) (ts us : List Tm) (sva svb : Value), cs = [.string X.p, .slice X.hp X.hs.length X.hc, .slice X.bp X.bs.length X.bc, .string Y.p, .slice Y.hp Y.hs.length Y.hc, .slice Y.bp Y.bs.length Y.bc, .slice q1 fs.length k1, .slice q2 gs.length k2, .string a, sva, .string b, svb] ∧
      RuAt w X ∧ RuAt w Y ∧ RuB X ∧ RuB Y ∧ FcsAt w q1 fs ∧ FcsAt w q2 gs ∧ (∀ f ∈ fs, FcR f) ∧ (∀ g ∈ gs, FcR g) ∧ fs.length ≤ 1048576 ∧ gs.length ≤ 1048576 ∧ a.size ≤ maxLen ∧ b.size ≤ maxLen ∧ TmSl w sva ts ∧ TmSl w svb us ∧ TmsR ts ∧ TmsR us := by
  obtain ⟨ys, m, rfl, rfl, hl, hn, hfs⟩ := DataW.trod_struct Tryd.underlying31 h
  rw [cellsTwo] at hl
  obtain ⟨y0, y1, y2, y3, y4, y5, rfl⟩ := list6 (show ys.length = 6 from hn)
  have h0 : DataW.trod enc Tryd.prog w base sp held m 25 ((cs.drop 0).take (Tryd.prog.cellsOf 25)) = some y0 := hfs 0 _ rfl
  have h1 : DataW.trod enc Tryd.prog w base sp held m 25 ((cs.drop 3).take (Tryd.prog.cellsOf 25)) = some y1 := hfs 1 _ rfl
  have h2 : DataW.trod enc Tryd.prog w base sp held m 26 ((cs.drop 6).take (Tryd.prog.cellsOf 26)) = some y2 := hfs 2 _ rfl
  have h3 : DataW.trod enc Tryd.prog w base sp held m 26 ((cs.drop 7).take (Tryd.prog.cellsOf 26)) = some y3 := hfs 3 _ rfl
  have h4 : DataW.trod enc Tryd.prog w base sp held m 29 ((cs.drop 8).take (Tryd.prog.cellsOf 29)) = some y4 := hfs 4 _ rfl
  have h5 : DataW.trod enc Tryd.prog w base sp held m 29 ((cs.drop 10).take (Tryd.prog.cellsOf 29)) = some y5 := hfs 5 _ rfl
  rw [cellsRu] at h0 h1
  rw [cellsFs] at h2 h3
  rw [cellsA] at h4 h5
  have hwa : ∀ q, q ∈ y0.1.weights Tryd.prog 25 ∨ q ∈ y1.1.weights Tryd.prog 25 ∨ q ∈ y2.1.weights Tryd.prog 26 ∨ q ∈ y3.1.weights Tryd.prog 26 ∨ q ∈ y4.1.weights Tryd.prog 29 ∨ q ∈ y5.1.weights Tryd.prog 29 → q ≤ reachBytes := by
    intro q hq
    refine hw q ?_
    show q ∈ (DataW.agg [y0.1, y1.1, y2.1, y3.1, y4.1, y5.1]).weights Tryd.prog 31
    rw [weights_two]
    simp only [List.mem_append]
    rcases hq with hq | hq | hq | hq | hq | hq
    · exact .inl hq
    · exact .inr (.inl hq)
    · exact .inr (.inr (.inl hq))
    · exact .inr (.inr (.inr (.inl hq)))
    · exact .inr (.inr (.inr (.inr (.inl hq))))
    · exact .inr (.inr (.inr (.inr (.inr (.inl hq)))))
  have hkk : Rows.uptoBulk y2.1 + Rows.uptoBulk y3.1 ≤ 1048576 := by
    have hk' : Rows.uptoBulk (DataW.agg [y0.1, y1.1, y2.1, y3.1, y4.1, y5.1]) ≤ 1048576 := hk
    simp only [Rows.uptoBulk, Rows.uptoBulkAll] at hk'
    omega
  obtain ⟨X, e0, x1, x2⟩ := trod_rule (D := m + 1) (by omega) h0 (fun q hq => hwa q (.inl hq))
  obtain ⟨Y, e1, z1, z2⟩ := trod_rule (D := m + 1) (by omega) h1 (fun q hq => hwa q (.inr (.inl hq)))
  obtain ⟨q1, k1, fs, e2, f1, f2, f3⟩ := trod_facts h2 (fun q hq => hwa q (.inr (.inr (.inl hq))))
  obtain ⟨q2, k2, gs, e3, g1, g2, g3⟩ := trod_facts h3 (fun q hq => hwa q (.inr (.inr (.inr (.inl hq)))))
  obtain ⟨a, sva, ts, e4, a1, a2, a3, _⟩ := trod_atom h4 (fun q hq => hwa q (.inr (.inr (.inr (.inr (.inl hq))))))
  obtain ⟨b, svb, us, e5, b1, b2, b3, _⟩ := trod_atom h5 (fun q hq => hwa q (.inr (.inr (.inr (.inr (.inr hq))))))
  refine ⟨X, Y, q1, q2, k1, k2, fs, gs, a, b, ts, us, sva, svb, ?_, x1, z1, x2, z2, f1, g1, f2, g2, by omega, by omega, a1, b1, a2, b2, a3, b3⟩
  have e0' : cs.take 3 = X.cells := by simpa using e0
  have e5' : cs.drop 10 = [.string b, svb] := by rwa [List.take_of_length_le (by simp [hl])] at e5
  rw [← List.take_append_drop 3 cs, ← List.take_append_drop 3 (cs.drop 3), List.drop_drop, ← List.take_append_drop 1 (cs.drop 6), List.drop_drop, ← List.take_append_drop 1 (cs.drop 7), List.drop_drop, ← List.take_append_drop 2 (cs.drop 8), List.drop_drop, e0', e1, e2, e3, e4, e5']
  rfl
set_option maxRecDepth 100000 in
theorem open_two {r : Reach} {b0 : Nat} {v : Value} {x : DataW H} {ps : List MemPlace} (hval : Value.okWide Tryd.prog w r b0 31 v) (hd : DataW.Trod enc Tryd.prog w base sp held 31 v x ps) (hw : ∀ n ∈ x.weights Tryd.prog 31, n ≤ reachBytes) (hk : Rows.uptoBulk x ≤ 1048576) :
    ∃ (d : Nat) (X Y : Ru d) (q1 q2 : Option Addr) (k1 k2 : Nat) (fs gs : List Fc) (a b : ByteArray) (ts us : List Tm) (sva svb : Value), v = .agg #[.string X.p, .slice X.hp X.hs.length X.hc, .slice X.bp X.bs.length X.bc, .string Y.p, .slice Y.hp Y.hs.length Y.hc, .slice Y.bp Y.bs.length Y.bc, .slice q1 fs.length k1, .slice q2 gs.length k2, .string a, sva, .string b, svb] ∧
      RuAt w X ∧ RuAt w Y ∧ RuB X ∧ RuB Y ∧ FcsAt w q1 fs ∧ FcsAt w q2 gs ∧ (∀ f ∈ fs, FcR f) ∧ (∀ g ∈ gs, FcR g) ∧ fs.length ≤ 1048576 ∧ gs.length ≤ 1048576 ∧ a.size ≤ maxLen ∧ b.size ≤ maxLen ∧ TmSl w sva ts ∧ TmSl w svb us ∧ TmsR ts ∧ TmsR us := by
  obtain ⟨cs, rfl, _⟩ := okWide_struct Tryd.underlying31 hval
  obtain ⟨n, hn⟩ := hd
  obtain ⟨X, Y, q1, q2, k1, k2, fs, gs, a, b, ts, us, sva, svb, hc, ht⟩ := trod_two hn hw hk
  refine ⟨n, X, Y, q1, q2, k1, k2, fs, gs, a, b, ts, us, sva, svb, ?_, ht⟩
  have h2 : cs.toList = [.string X.p, .slice X.hp X.hs.length X.hc, .slice X.bp X.bs.length X.bc, .string Y.p, .slice Y.hp Y.hs.length Y.hc, .slice Y.bp Y.bs.length Y.bc, .slice q1 fs.length k1, .slice q2 gs.length k2, .string a, sva, .string b, svb] := hc
  have h3 : cs = #[.string X.p, .slice X.hp X.hs.length X.hc, .slice X.bp X.bs.length X.bc, .string Y.p, .slice Y.hp Y.hs.length Y.hc, .slice Y.bp Y.bs.length Y.bc, .slice q1 fs.length k1, .slice q2 gs.length k2, .string a, sva, .string b, svb] := Array.toList_inj.1 h2
  rw [h3]
end
end Go.Proofs.YtdgbenadoaecoaaDoor
