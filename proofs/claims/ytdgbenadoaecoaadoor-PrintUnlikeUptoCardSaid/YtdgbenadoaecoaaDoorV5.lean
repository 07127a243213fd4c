/- The contracts of print.mayBe and print.Facts. Conditions: the facts lie in memory as they are told; they are not too many; the tables lie as the program lays them. -/
import Derived.Test.YtdgbenadoaecoaaDoorV4
import Derived.Test.YtdgbenadoaecoaaDoorV3
namespace Go.Proofs.YtdgbenadoaecoaaDoor
open Go.RowKit

set_option maxHeartbeats 2000000 in
theorem pMayBe (p : ByteArray) (sv : Value) (ts : List Vl) (w : World) (hp : p.size ≤ maxLen) (hts : VlSl w sv ts) (hK : KwAt w) :
    Calls Tryd.prog 23 #[.agg #[.string p, sv]] w fun e w' => e = .returned (.bool (fcOk ⟨p, ts, sv⟩)) ∧ Below w.heap.size w w' := by
  have HK := Lib.hid hK; clear hK
  obtain ⟨q, cap, rfl, hm, hs⟩ := hts
  have HS := Lib.hid hs; clear hs
  unfold maxLen at hm
  obtain ⟨W, hW⟩ : ∃ W, W = w.alloc (.cells #[.string p, .slice q ts.length cap] 46) := ⟨_, rfl⟩
  have HBW := Lib.hid (show Below w.heap.size w W by rw [hW]; exact below_alloc _ _)
  have hsW : W.heap.size = w.heap.size + 1 := by rw [hW]; simp
  have HBX := Lib.hid (show W.heap[w.heap.size]? = some (.cells #[.string p, .slice q ts.length cap] 46 (0, 0)) by rw [hW]; exact heap_alloc_new w _)
  go_enter Tryd.func23, Tryd.ntmps23
  go_wp2_with fail
  rw [← hW]
  clear hW
  go_loopw [8] (fun i wr => ∃ j : Nat, j ≤ ts.length ∧ i = .int .i64 j ∧ (∀ m, (h : m < ts.length) → m < j → vlOk ts[m] = true) ∧ Below W.heap.size W wr) (fun i _ => ts.length - (intOf i).toNat)
  case atStart => exact ⟨0, by omega, rfl, fun m _ h => by omega, Below.refl _ _⟩
  case round =>
    obtain ⟨j, hj, rfl, hok, hb⟩ := hrel
    have Hok := Lib.hid hok; clear hok
    have Hb := Lib.hid hb; clear hb
    by_cases hlt : j < ts.length
    · rcases HS.out with h0 | ⟨a, o, hq, hat⟩
      · omega
      subst hq
      have hck := (hat.at_ j hlt).up (HBW.out.trans (Hb.out.mono (by omega))) hat.lt
      clear hat
      obtain ⟨tk, htk⟩ : ∃ tk, tk = ts[j] := ⟨_, rfl⟩
      rw [← htk] at hck
      have HTK := Lib.hid htk; clear htk
      obtain ⟨k, n, t⟩ := tk
      obtain ⟨c0, c1, c2⟩ := hck
      rcases hx : vlOk ⟨k, n, t⟩ with _ | _
      all_goals have HX := Lib.hid hx
      all_goals clear hx
      · have HE := Lib.hid (show fcOk ⟨p, ts, .slice (some ⟨a, o, none⟩) ts.length cap⟩ = false by simp [fcOk, not_vl hlt (by rw [← HTK.out]; exact HX.out)])
        go_wp2_with fail
        refine (vCheck k n t _).mono ?_
        rintro e w1 ⟨rfl, hb1⟩
        rw [HX.out, show okCode false 10 = 10 from rfl]
        have Hb1 := Lib.hid ((below_alloc _ _).trans (hb1.mono (by simp))); clear hb1
        go_wp2_with fail
        go_ret
        exact ⟨ret_bool HE.out.symm, HBW.out.trans ((Hb.out.trans (Hb1.out.mono Hb.out.size)).mono (by omega))⟩
      · go_wp2_with fail
        refine (vCheck k n t _).mono ?_
        rintro e w1 ⟨rfl, hb1⟩
        rw [HX.out, show okCode true 10 = 0 from rfl]
        have Hb1 := Lib.hid ((below_alloc _ _).trans (hb1.mono (by simp))); clear hb1
        go_wp2_with fail
        go_roundw
        case rel => exact ⟨j + 1, by omega, by go_num, fun m hm hmj => by
                      by_cases e : m = j
                      · subst e; rw [← HTK.out]; exact HX.out
                      · exact Hok.out m hm (by omega), Hb.out.trans (Hb1.out.mono Hb.out.size)⟩
        case measure => simp [intOf]; omega
    · have HA := Lib.hid (all_vl (fun m hm => Hok.out m hm (by omega)))
      have hbx := (Hb.out.block w.heap.size (by omega)).trans HBX.out
      have x0 : wr.cell? ⟨w.heap.size, 0, none⟩ = some (.string p) := by rw [Lib.cell_of_heap hbx]; rfl
      have x1 : wr.cell? ⟨w.heap.size, 1, none⟩ = some (.slice q ts.length cap) := by rw [Lib.cell_of_heap hbx]; rfl
      clear hbx
      rcases hn : nameB (bl p) with _ | _
      all_goals have HN := Lib.hid hn
      all_goals clear hn
      · have HE := Lib.hid (show fcOk ⟨p, ts, .slice q ts.length cap⟩ = false by simp [fcOk, HN.out])
        go_wp2_with fail
        refine (lName p _ hp (HK.out.at (HBW.out.trans (Hb.out.mono (by omega))))).mono ?_
        rintro e w1 ⟨rfl, hb1⟩
        have Hb1 := Lib.hid hb1; clear hb1
        rw [HN.out]
        clear x0 x1
        go_wp2_with fail
        go_ret
        exact ⟨ret_bool HE.out.symm, HBW.out.trans ((Hb.out.trans (Hb1.out.mono Hb.out.size)).mono (by omega))⟩
      · have HE := Lib.hid (show fcOk ⟨p, ts, .slice q ts.length cap⟩ = decide (ts.length ≤ 24) by simp [fcOk, HN.out, HA.out])
        go_wp2_with fail
        refine (lName p _ hp (HK.out.at (HBW.out.trans (Hb.out.mono (by omega))))).mono ?_
        rintro e w1 ⟨rfl, hb1⟩
        have hx1 := (hb1.cell (p := ⟨w.heap.size, 1, none⟩) (by show w.heap.size < _; have := Hb.out.size; omega)).trans x1
        have Hb1 := Lib.hid hb1; clear hb1
        rw [HN.out]
        clear x0 x1
        go_wp2_with fail
        go_ret
        exact ⟨ret_bool (by rw [HE.out]; first | rfl | (rw [Bool.eq_iff_iff]; simp; omega)), HBW.out.trans ((Hb.out.trans (Hb1.out.mono Hb.out.size)).mono (by omega))⟩
theorem showL_term (x : Vl) : termL ⟨⟨#[]⟩, x⟩ = showL x := rfl
set_option maxHeartbeats 1000000 in
set_option maxRecDepth 100000 in
theorem pFactCol (b c2 i : Nat) (pre : List UInt8) (sv : Value) (ts : List Vl) (wr : World) (hi : i < ts.length) (hw : Wr 68 b pre wr) (hT : Tabs wr)
    (h2 : wr.cell? ⟨c2, 1, none⟩ = some sv) (hts : VlSl wr sv ts) (hr : VlsR ts) (hl : pre.length + (showL ts[i]).length ≤ 140737488355328) :
    Calls Tryd.prog 25 #[.int .i64 i, .pointer (some ⟨b, 0, none⟩), .pointer (some ⟨c2, 0, none⟩)] wr (Wrote b pre (showL ts[i]) wr) := by
  obtain ⟨q, cap, rfl, hm, h⟩ := hts
  rcases h with h | ⟨a, o, rfl, h⟩
  · omega
  · have hc := h.at_ i hi
    have hvr := Lib.hid (hr ts[i] (List.getElem_mem hi))
    obtain ⟨tk, htk⟩ : ∃ tk, tk = ts[i] := ⟨_, rfl⟩
    rw [← htk] at hc hvr hl ⊢
    clear htk
    obtain ⟨x, n, t⟩ := tk
    have HW := Lib.hid hw; clear hw
    have HT := Lib.hid hT; clear hT
    obtain ⟨c0, c1', c2'⟩ := hc
    go_enter Tryd.func25, Tryd.ntmps25
    go_wp2_with fail
    clear h2 c0 c1' c2' h
    refine (pTerm b pre ⟨#[]⟩ x n t _ ⟨hvr.out, by unfold maxLen; decide⟩ HT.out HW.out (by rw [showL_term]; exact hl)).mono ?_
    rintro e w1 ⟨rfl, hw1, hk1⟩
    have H1 := Lib.hid hw1; clear hw1
    have HK1 := Lib.hid hk1; clear hk1
    go_wp2_with fail
    go_end0
    exact ⟨rfl, H1.out, HK1.out⟩
theorem enterFacts (args : Array Value) (w : World) : (callFunc 25 args).run Tryd.prog w = .ok (.enter 25 args) w := by kernel_rfl
theorem len_vs (ts : List Vl) : (ts.length : Int) = ((showTs ts).length : Int) := by simp [showTs]
def PfRel (fs : List Fc) (w : World) (i : Value) (wr : World) : Prop :=
  ∃ j : Nat, i = .int .i64 j ∧ j ≤ fs.length ∧ (∀ m, (h : m < fs.length) → m < j → fcOk fs[m] = true) ∧ Wr 68 w.heap.size (factsL (fs.take j)) wr ∧ Env w w.heap.size wr
set_option maxHeartbeats 8000000 in
set_option maxRecDepth 100000 in
theorem pFacts (fs : List Fc) (p : Option Addr) (cap : Nat) (w : World) (hs : FcsAt w p fs) (hr : ∀ f ∈ fs, FcR f) (hn : fs.length ≤ 1048576) (hT : Tabs w) (hK : KwAt w) :
    Calls Tryd.prog 10 #[.slice p fs.length cap] w (FsPost fs w) := by
  have HS := Lib.hid hs; clear hs
  have HR := Lib.hid hr; clear hr
  have HT := Lib.hid hT; clear hT
  have HK := Lib.hid hK; clear hK
  go_enter Tryd.func10, Tryd.ntmps10
  go_wp2_with fail
  go_loopw [9] (fun i wr => PfRel fs w i wr) (fun i _ => fs.length - (intOf i).toNat)
  case atStart => exact ⟨0, rfl, by omega, fun m _ h => by omega, wr_fresh _ w, ⟨Nat.le_refl _, below_alloc _ _⟩⟩
  case round =>
    obtain ⟨j, rfl, hj, hok, hwr, henv⟩ := hrel
    have Hok := Lib.hid hok; clear hok
    have HW := Lib.hid hwr; clear hwr
    have HE := Lib.hid henv; clear henv
    have hlt0 := HW.out.lt
    by_cases hlt : j < fs.length
    · rcases HS.out.1 with h0 | ⟨a, o, hp, ha, hc⟩
      · omega
      subst hp
      have hck := (hc j hlt).up HE.out.bel ha
      clear hc
      have HL := Lib.hid (factsL_le fs HR.out j hj Hok.out)
      have hsl0 := (HS.out.2 fs[j] (List.getElem_mem hlt))
      have HRk := Lib.hid (HR.out fs[j] (List.getElem_mem hlt))
      obtain ⟨tk, htk⟩ : ∃ tk, tk = fs[j] := ⟨_, rfl⟩
      rw [← htk] at hck hsl0 HRk
      have HTK := Lib.hid htk; clear htk
      obtain ⟨p, xs, sv⟩ := tk
      obtain ⟨c0, c1⟩ := hck
      simp only at c0 c1 hsl0
      have HSL := Lib.hid hsl0
      obtain ⟨q, cp, hsv, hm, _⟩ := hsl0
      subst hsv
      have hmf := makeFn
      rcases hx : fcOk ⟨p, xs, .slice q xs.length cp⟩ with _ | _
      all_goals have HX := Lib.hid hx
      all_goals clear hx
      · clear hmf
        go_wp2_with fail
        refine (pMayBe p _ xs _ HRk.out.p_ (HSL.out.up (HE.out.bel.trans ((below_alloc _ _).mono HE.out.bel.size))) (HK.out.at (HE.out.bel.trans ((below_alloc _ _).mono HE.out.bel.size)))).mono ?_
        rintro e w1 ⟨rfl, hb1⟩
        rw [HX.out]
        have Hb1 := Lib.hid hb1; clear hb1
        clear c0 c1
        go_wp2_with fail
        go_ret2
        exact ⟨ret_no10 (not_fc hlt (by rw [← HTK.out]; exact HX.out)), (HE.out.bel.trans ((below_alloc _ _).mono HE.out.bel.size)).trans (Hb1.out.mono (by have := HE.out.bel.size; simp; omega))⟩
      · have HFL := Lib.hid (factL_le HRk.out HX.out)
        have h24 : xs.length ≤ 24 := by have := HX.out; simp only [fcOk, Bool.and_eq_true, decide_eq_true_eq] at this; exact this.1.2
        go_wp2_with fail
        refine (pMayBe p _ xs _ HRk.out.p_ (HSL.out.up (HE.out.bel.trans ((below_alloc _ _).mono HE.out.bel.size))) (HK.out.at (HE.out.bel.trans ((below_alloc _ _).mono HE.out.bel.size)))).mono ?_
        rintro e w1 ⟨rfl, hb1⟩
        rw [HX.out]
        clear c0 c1
        have hbx := (hb1.block wr.heap.size (by simp)).trans (heap_alloc_new wr (.cells #[.string p, .slice q xs.length cp] 46))
        obtain ⟨x0, x1⟩ := two hbx
        have HBX := Lib.hid hbx; clear hbx
        have HKA := Lib.hid ((Kp.alloc HW.out _).trans (Kp.of_below (HW.out.alloc _).lt hb1))
        have HW1 := Lib.hid ((HW.out.alloc _).up hb1)
        have hs1 : wr.heap.size < w1.heap.size := by have := hb1.size; simp at this; omega
        clear hb1
        go_wp2_with fail
        clear hmf x0 x1
        rw [len_vs]
        refine (pColumns 25 enterFacts w.heap.size wr.heap.size w.heap.size (factsL (fs.take j)) p (showTs xs) _ HW1.out (by have h1 := HL.out; have h2 : (colsL (bl p) (showTs xs)).length ≤ 20000 := HFL.out; omega) (by simpa [showTs] using h24) ?_).mono ?_
        · intro k hk p' wk hkp hwk hlen
          have hk' : k < xs.length := by simpa [showTs] using hk
          have e1 : (showTs xs)[k] = showL xs[k] := by simp [showTs]
          rw [e1] at hlen ⊢
          have henv := (HE.out.kp HKA.out).kp hkp
          refine pFactCol w.heap.size wr.heap.size k p' _ xs wk hk' hwk (HT.out.at henv.bel) ?_ (HSL.out.up henv.bel) HRk.out.r_ hlen
          have h1 := hkp.cell HBX.out (by omega) (by decide)
          rw [Lib.cell_of_heap h1]; rfl
        · rintro e w2 ⟨rfl, hw2, hk2⟩
          have H2 := Lib.hid hw2; clear hw2
          have HK2 := Lib.hid hk2; clear hk2
          have hlt2 := H2.out.lt
          go_wp2_with fail
          refine (pPut w.heap.size w2.heap.size _ [⟨#[46, 10]⟩] 1 _ (H2.out.alloc _) (by rw [catL_one, List.length_append]; have h1 := HL.out; have h2 : (colsL (bl p) (showTs xs)).length ≤ 20000 := HFL.out; have h3 : (bl (⟨#[46, 10]⟩ : ByteArray)).length = 2 := rfl; omega) (by simp) (heap_alloc_new w2 _) (by omega)).mono ?_
          rintro e w3 ⟨rfl, hw3, hk3⟩
          have H3 := Lib.hid hw3; clear hw3
          have HK3 := Lib.hid ((Kp.alloc H2.out _).trans hk3); clear hk3
          go_wp2_with fail
          go_roundw
          case rel => exact ⟨j + 1, by go_num, by omega, fun m hm hmj => by
                        by_cases e : m = j
                        · subst e; rw [← HTK.out]; exact HX.out
                        · exact Hok.out m hm (by omega), wr_eq (by rw [factsL_take fs j hlt, ← HTK.out, catL_one]; simp [bl, factL]) H3.out, ((HE.out.kp HKA.out).kp HK2.out).kp HK3.out⟩
          case measure => simp [intOf]; omega
    · obtain rfl : j = fs.length := by omega
      go_wp2_with fail
      refine (bText w.heap.size _ _ HW.out).mono ?_
      rintro e w3 ⟨rfl, hk3⟩
      have HK3 := Lib.hid hk3; clear hk3
      go_wp2_with fail
      go_ret2
      exact ⟨ret_yes10 (all_fc (fun m hm => Hok.out m hm hm)) (by simp [bl]), (HE.out.kp HK3.out).bel⟩
end Go.Proofs.YtdgbenadoaecoaaDoor
