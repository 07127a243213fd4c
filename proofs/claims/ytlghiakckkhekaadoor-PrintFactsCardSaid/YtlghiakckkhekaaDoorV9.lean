/- The walk of PrintFacts. Conditions: the facts lie in memory as they are told, no list is too long; the tables lie as the program lays them. -/
import Derived.Test.YtlghiakckkhekaaDoorV5
import Derived.Test.YtlghiakckkhekaaDoorME
import Derived.BigRegion
import Derived.RegionTactic
namespace Go.Proofs.YtlghiakckkhekaaDoor
open Go.RowKit

/-- What of a fact its text hangs on. -/
def fcKey (f : Fc) : ByteArray × List Vl := (f.p, f.xs)
theorem factsL_key : ∀ l : List Fc, factsL l = ((l.map fcKey).map fun k => colsL (bl k.1) (showTs k.2) ++ [46, 10]).flatten
  | [] => rfl
  | f :: r => by simp [factsL, factsL_key r, factL, fcKey]
theorem all_key (l : List Fc) : l.all fcOk = (l.map fcKey).all fun k => nameB (bl k.1) && decide (k.2.length ≤ 24) && k.2.all vlOk := by
  rw [List.all_map]
  rfl
theorem like_key {fs gs : List Fc} (hl : gs.length = fs.length) (h : ∀ i, (h : i < fs.length) → (h' : i < gs.length) → FcLike fs[i] gs[i]) : gs.map fcKey = fs.map fcKey := by
  refine List.ext_getElem (by simp [hl]) fun i h1 h2 => ?_
  have h3 := h i (by simpa using h2) (by simpa using h1)
  simp [fcKey, h3.p_, h3.xs_]
theorem FsPost.like {fs gs : List Fc} (h : gs.map fcKey = fs.map fcKey) {w : World} {e : Ending} {w' : World} (hp : FsPost gs w e w') : FsPost fs w e w' := by
  obtain ⟨he, hb⟩ := hp
  rw [all_key, factsL_key, h, ← all_key, ← factsL_key] at he
  exact ⟨he, hb⟩
def fc0 : Fc := ⟨⟨#[]⟩, [], .slice none 0 0⟩
/-- Where the fact stands that comes to place m when so many have been turned. -/
def swp (n j m : Nat) : Nat := if m < j ∨ n ≤ m + j then n - 1 - m else m
/-- At the head of the turning rounds. -/
def SwRel (gs : List Fc) (a : Nat) (w W : World) (i : Value) (wr : World) : Prop :=
  ∃ (j : Nat) (cs : Array Value), i = .int .i64 j ∧ j ≤ gs.length / 2 ∧ wr.heap[a]? = some (.cells cs 48 (0, 0)) ∧ cs.size = (gs.length + 1) * 2 ∧
    (∀ m, m < gs.length → FcCell wr a (m * 2) (gs.getD (swp gs.length j m) fc0)) ∧ (∀ g ∈ gs, FcTw wr (a + 1) g) ∧ Below w.heap.size w wr ∧ W.heap.size ≤ wr.heap.size
theorem swp_step {n j m : Nat} (hm : m < n) (h1 : m ≠ j) (h2 : m ≠ n - 1 - j) : swp n (j + 1) m = swp n j m := by
  unfold swp
  by_cases h : m < j ∨ n ≤ m + j
  · rw [if_pos h, if_pos (by omega)]
  · rw [if_neg h, if_neg (by omega)]
theorem sw_next {gs : List Fc} {a j k : Nat} {w W wr wq : World} {cs : Array Value} {x y : Fc} (hj : j < gs.length / 2) (hk : k = gs.length - 1 - j) (hx : x = gs.getD j fc0) (hy : y = gs.getD k fc0) (ha : w.heap.size ≤ a)
    (hbk : wr.heap[a]? = some (.cells cs 48 (0, 0))) (hcs : cs.size = (gs.length + 1) * 2) (hcell : ∀ m, m < gs.length → FcCell wr a (m * 2) (gs.getD (swp gs.length j m) fc0)) (htw : ∀ g ∈ gs, FcTw wr (a + 1) g)
    (hbe : Below w.heap.size w wr) (hW : W.heap.size ≤ wr.heap.size) (hwq : wq = (put2 (put2 wr a (j * 2) (.string y.p) y.sv) a (k * 2) (.string x.p) x.sv).drew) :
    SwRel gs a w W (.int .i64 ((j : Int) + 1)) wq := by
  have hb1 := put2_heap hbk (j * 2) (.string y.p) y.sv
  have hb2 := put2_heap hb1 (k * 2) (.string x.p) x.sv
  have hdr : ∀ p : Nat, wq.heap[p]? = (put2 (put2 wr a (j * 2) (.string y.p) y.sv) a (k * 2) (.string x.p) x.sv).heap[p]? := by rw [hwq]; exact fun _ => rfl
  have hsz : wq.heap.size = wr.heap.size := by rw [hwq]; show (put2 (put2 wr a (j * 2) (.string y.p) y.sv) a (k * 2) (.string x.p) x.sv).heap.size = _; rw [put2_size, put2_size]
  refine ⟨j + 1, _, rfl, by omega, (hdr a).trans hb2, by rw [set2_size, set2_size]; exact hcs, ?_, ?_, ?_, by rw [hsz]; exact hW⟩
  · intro m hm
    have hw : FcCell (put2 (put2 wr a (j * 2) (.string y.p) y.sv) a (k * 2) (.string x.p) x.sv) a (m * 2) (gs.getD (swp gs.length (j + 1) m) fc0) := by
      by_cases h2 : m = k
      · have e : gs.getD (swp gs.length (j + 1) m) fc0 = x := by
          rw [hx, show swp gs.length (j + 1) m = j by unfold swp; rw [if_pos (by omega)]; omega]
        rw [e, h2]
        exact put2_new hb1 (by rw [set2_size]; omega) x
      · by_cases h1 : m = j
        · have e : gs.getD (swp gs.length (j + 1) m) fc0 = y := by
            rw [hy, show swp gs.length (j + 1) m = k by unfold swp; rw [if_pos (by omega)]; omega]
          rw [e, h1]
          exact put2_keeps hb1 (put2_new hbk (by omega) y) (by omega) _ _
        · rw [swp_step hm h1 (by omega)]
          exact put2_keeps hb1 (put2_keeps hbk (hcell m hm) (by omega) _ _) (by omega) _ _
    exact hw.of_block (hdr a)
  · intro g hg
    exact (htw g hg).up (Nat.le_refl _) (by omega) (fun p hp _ => (hdr p).trans ((put2_block _ (by omega) _ _ _).trans (put2_block _ (by omega) _ _ _)))
  · rw [hwq]
    exact (put2_below (put2_below hbe ha _ _ _) ha _ _ _).drew
theorem sw_end {gs : List Fc} {a j : Nat} {wr : World} (hj : j = gs.length / 2) (hcell : ∀ m, m < gs.length → FcCell wr a (m * 2) (gs.getD (swp gs.length j m) fc0)) : ∀ i, (h : i < gs.reverse.length) → FcCell wr a (i * 2) gs.reverse[i] := by
  intro i h
  have hi : i < gs.length := by simpa using h
  have h1 := hcell i hi
  have e : gs.getD (swp gs.length j i) fc0 = gs.reverse[i] := by
    rw [List.getElem_reverse]
    have h2 : swp gs.length j i = gs.length - 1 - i := by
      unfold swp
      split
      · rfl
      · omega
    rw [h2, List.getD_eq_getElem?_getD, List.getElem?_eq_getElem (by omega)]
    rfl
  rwa [e] at h1
set_option maxHeartbeats 16000000 in
set_option maxRecDepth 100000 in
theorem printFacts (p : Option Addr) (cap : Nat) (fs : List Fc) (w : World) (hs : FcsAt w p fs) (hr : ∀ f ∈ fs, FcR f) (hn : fs.length ≤ 4398046511104) (hT : Tabs w) (hK : KwAt w) :
    Calls Tryd.prog 5 #[.slice p fs.length cap] w fun r w' => r = .returned (.bool true) ∧ Below w.heap.size w w' := by
  have HS := Lib.hid hs; clear hs
  have HR := Lib.hid hr; clear hr
  have HT := Lib.hid hT; clear hT
  have HK := Lib.hid hK; clear hK
  go_enter Tryd.func5, Tryd.ntmps5
  go_wp2_with fail
  refine (beyondFacts fs p cap _ HS.out HR.out hn).mono ?_
  rintro r w0 ⟨b, rfl, hb, rfl⟩
  cases b
  case true =>
    go_wp2_with fail
    go_ret
    exact ⟨rfl, Below.refl _ _⟩
  case false =>
    have hm := hb rfl
    clear hb
    go_wp2_with fail
    refine (twinFacts fs p cap _ HS.out HR.out hn HT.out).mono ?_
    rintro r w1 ⟨a, gs, rfl, ha, htw, hb1⟩
    have HTW := Lib.hid htw; clear htw
    have Hb1 := Lib.hid hb1; clear hb1
    go_wp2_with fail
    refine (rFacts fs p cap _ (HS.out.up Hb1.out) HR.out hn).mono ?_
    rintro r w2 ⟨rfl, hb2⟩
    have Hb2 := Lib.hid (Hb1.out.trans (hb2.mono Hb1.out.size))
    have HTW2 := Lib.hid (HTW.out.low hb2); clear hb2
    obtain ⟨s1, hs1⟩ : ∃ s : ByteArray, s = ⟨(txt (fs.all fcOk) (factsL fs)).toArray⟩ := ⟨_, rfl⟩
    obtain ⟨c1, hc1⟩ : ∃ c, c = okCode (fs.all fcOk) 10 := ⟨_, rfl⟩
    rw [← hs1, ← hc1]
    have HS1 := Lib.hid hs1; clear hs1
    have HC1 := Lib.hid hc1; clear hc1
    have HRG := Lib.hid (like_mem HTW.out.len HTW.out.like HR.out (fun _ _ h1 h2 => h1.r h2))
    have hcall := fun w' h3 h4 h5 => (pFacts gs (some ⟨a, 0, none⟩) (fs.length + 1) w' h3 HRG.out (by rw [HTW.out.len]; exact hm) h4 h5).mono fun _ _ h => h.like (like_key HTW.out.len HTW.out.like)
    rw [HTW.out.len] at hcall
    have HCALL := Lib.hid hcall; clear hcall
    go_wp2_with fail
    refine (HCALL.out _ (HTW2.out.at HR.out) (HT.out.at Hb2.out) (HK.out.at Hb2.out)).mono ?_
    rintro r w3 ⟨rfl, hb3⟩
    have Hb3 := Lib.hid (Hb2.out.trans (hb3.mono Hb2.out.size))
    have HTW3 := Lib.hid (HTW2.out.low hb3); clear hb3
    rw [← HS1.out, ← HC1.out]
    go_wp2_with fail
    refine (leftFacts fs gs a p cap _ (HS.out.up Hb3.out) HR.out hn HTW3.out (HT.out.at Hb3.out)).mono ?_
    rintro r w4 ⟨rfl, hb4⟩
    have Hb4 := Lib.hid (Hb3.out.trans (hb4.mono Hb3.out.size))
    have HTW4 := Lib.hid (HTW3.out.low hb4); clear hb4
    go_wp2_with fail
    go_loopw [8, 9] (fun i _ wr => SwRel gs a w0 w4 i wr) (fun i _ _ => fs.length - (intOf i).toNat)
    case atStart =>
      obtain ⟨cs, h1, h2⟩ := HTW4.out.row
      refine ⟨0, cs, rfl, by omega, h1, by rw [HTW.out.len]; exact h2, fun m hm => ?_, HTW4.out.kids, Hb4.out, Nat.le_refl _⟩
      have e : gs.getD (swp gs.length 0 m) fc0 = gs[m] := by
        rw [show swp gs.length 0 m = m by unfold swp; rw [if_neg (by omega)], List.getD_eq_getElem?_getD, List.getElem?_eq_getElem hm]
        rfl
      rw [e]
      exact HTW4.out.cells m hm
    case round =>
      obtain ⟨j, cs, rfl, hj, hbk, hcs, hcell, htw, hbe, hsz⟩ := hrel
      have HCELL := Lib.hid hcell; clear hcell
      have HTWR := Lib.hid htw; clear htw
      have HBE := Lib.hid hbe; clear hbe
      have hlen := HTW.out.len
      by_cases hlt : j < gs.length / 2
      · obtain ⟨k, hk⟩ : ∃ k, k = gs.length - 1 - j := ⟨_, rfl⟩
        have hcj := HCELL.out j (by omega)
        have hck := HCELL.out k (by omega)
        rw [show swp gs.length j j = j by unfold swp; rw [if_neg (by omega)]] at hcj
        rw [show swp gs.length j k = k by unfold swp; rw [if_neg (by omega)]] at hck
        have htj := HTWR.out (gs.getD j fc0) (by rw [List.getD_eq_getElem?_getD, List.getElem?_eq_getElem (by omega)]; exact List.getElem_mem (by omega))
        have htk := HTWR.out (gs.getD k fc0) (by rw [List.getD_eq_getElem?_getD, List.getElem?_eq_getElem (by omega)]; exact List.getElem_mem (by omega))
        obtain ⟨x, hx⟩ : ∃ x, x = gs.getD j fc0 := ⟨_, rfl⟩
        obtain ⟨y, hy⟩ : ∃ y, y = gs.getD k fc0 := ⟨_, rfl⟩
        rw [← hx] at hcj htj
        rw [← hy] at hck htk
        obtain ⟨ax, hvx, _, _⟩ := htj
        obtain ⟨ay, hvy, _, _⟩ := htk
        obtain ⟨c0, c1⟩ := hcj
        obtain ⟨d0, d1⟩ := hck
        have HSW := Lib.hid (fun wq h => sw_next (W := w4) (wq := wq) hlt hk hx hy ha hbk hcs HCELL.out HTWR.out HBE.out hsz h)
        rw [hvx] at c1
        rw [hvy] at d1
        rw [hvx, hvy] at HSW
        have HX := Lib.hid hvx; clear hvx
        have HY := Lib.hid hvy; clear hvy
        have HXX := Lib.hid hx; clear hx
        have HYY := Lib.hid hy; clear hy
        have f0 : wr.frozen? ⟨a, j * 2, none⟩ = false := Lib.frozen_of_heap hbk _
        have f1 : wr.frozen? ⟨a, j * 2 + 1, none⟩ = false := Lib.frozen_of_heap hbk _
        have g0 : wr.frozen? ⟨a, k * 2, none⟩ = false := Lib.frozen_of_heap hbk _
        have g1 : wr.frozen? ⟨a, k * 2 + 1, none⟩ = false := Lib.frozen_of_heap hbk _
        have HBK := Lib.hid hbk; clear hbk
        have hltf : j < fs.length / 2 := by omega
        have hkl : k < fs.length := by omega
        have hjl : j < fs.length := by omega
        have hkj : j < k := by omega
        have HKE := Lib.hid (show ((fs.length : Int) - 1 - (j : Int)) = (k : Int) by omega)
        clear hk
        go_wp2_with fail
        rw [HKE.out]
        go_region
        go_wp2_with fail
        go_roundw
        case rel => exact HSW.out _ rfl
        case measure => simp [intOf]; omega
      · have hjn : j = gs.length / 2 := by omega
        have hat : FcsAt wr (some ⟨a, 0, none⟩) gs.reverse :=
          ⟨.inr ⟨a, 0, rfl, (Array.getElem?_eq_some_iff.1 hbk).1, fun i hi => by rw [Nat.zero_add]; exact sw_end hjn HCELL.out i hi⟩, fun g hg => (HTWR.out g (List.mem_reverse.1 hg)).sl (HRG.out g (List.mem_reverse.1 hg)).n_⟩
        have HRR := Lib.hid (show ∀ g ∈ gs.reverse, FcR g from fun g hg => HRG.out g (List.mem_reverse.1 hg))
        have hlr : gs.reverse.length = fs.length := by rw [List.length_reverse]; exact hlen
        have htwin := fun w' h3 h5 => twinFacts gs.reverse (some ⟨a, 0, none⟩) (fs.length + 1) w' h3 HRR.out (by omega) h5
        have hprint := fun w' h3 h4 h5 => pFacts gs.reverse (some ⟨a, 0, none⟩) (fs.length + 1) w' h3 HRR.out (by omega) h4 h5
        rw [hlr] at htwin hprint
        have HAT := Lib.hid hat; clear hat
        have HTWIN := Lib.hid htwin; clear htwin
        have HPRINT := Lib.hid hprint; clear hprint
        have HBK := Lib.hid hbk; clear hbk
        have hltf : ¬ j < fs.length / 2 := by omega
        clear hcs hj
        go_wp2_with fail
        refine (HTWIN.out _ HAT.out (HT.out.at HBE.out)).mono ?_
        rintro r w5 ⟨a2, gs2, rfl, ha2, htw2, hb5⟩
        have HTQ := Lib.hid htw2; clear htw2
        have HAT5 := Lib.hid (HAT.out.up hb5)
        have Hb5 := Lib.hid (HBE.out.trans (hb5.mono HBE.out.size)); clear hb5
        have HRQ := Lib.hid (like_mem HTQ.out.len HTQ.out.like HRR.out (fun _ _ h1 h2 => h1.r h2))
        have hcall2 := fun w' h3 => (rFacts gs2 (some ⟨a2, 0, none⟩) (gs.reverse.length + 1) w' h3 HRQ.out (by rw [HTQ.out.len]; omega)).mono fun _ _ h => h.like (like_key HTQ.out.len HTQ.out.like)
        rw [HTQ.out.len, hlr] at hcall2
        have HCALL2 := Lib.hid hcall2; clear hcall2
        rw [hlr]
        go_wp2_with fail
        refine (HCALL2.out _ (HTQ.out.at HRR.out)).mono ?_
        rintro r w6 ⟨rfl, hb6⟩
        have HAT6 := Lib.hid (HAT5.out.up hb6)
        have Hb6 := Lib.hid (Hb5.out.trans (hb6.mono Hb5.out.size)); clear hb6
        obtain ⟨s2, hs2⟩ : ∃ s : ByteArray, s = ⟨(txt (gs.reverse.all fcOk) (factsL gs.reverse)).toArray⟩ := ⟨_, rfl⟩
        obtain ⟨c2, hc2⟩ : ∃ c, c = okCode (gs.reverse.all fcOk) 10 := ⟨_, rfl⟩
        rw [← hs2, ← hc2]
        have HS2 := Lib.hid hs2; clear hs2
        have HC2 := Lib.hid hc2; clear hc2
        go_wp2_with fail
        refine (HPRINT.out _ HAT6.out (HT.out.at Hb6.out) (HK.out.at Hb6.out)).mono ?_
        rintro r w7 ⟨rfl, hb7⟩
        have Hb7 := Lib.hid (Hb6.out.trans (hb7.mono Hb6.out.size)); clear hb7
        rw [← HS2.out, ← HC2.out]
        go_wp2_with fail
        refine (lives _ (HT.out.at Hb7.out)).mono ?_
        rintro r w8 ⟨rfl, hb8⟩
        have Hb8 := Lib.hid (Hb7.out.trans (hb8.mono Hb7.out.size)); clear hb8
        go_wp2_with fail
        go_ret
        exact ⟨rfl, Hb8.out⟩
end Go.Proofs.YtlghiakckkhekaaDoor
