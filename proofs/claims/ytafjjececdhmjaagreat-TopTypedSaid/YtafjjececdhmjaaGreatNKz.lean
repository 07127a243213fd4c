/- The map of Fits: each name and the one list of its columns: its states. Fits: do all facts fit the columns' types. Conditions: as told. the facts and the signatures lie in memory as they are told. -/
import Derived.Test.YtafjjececdhmjaaGreatNKx
import Derived.Test.YtafjjececdhmjaaGreatNKd
import Derived.Test.YtafjjececdhmjaaGreatNKy
import Derived.Deep.AppendLies
namespace Go.Proofs.YtafjjececdhmjaaGreat
open Go.RowKit Go.Maps

/-- A slice as the map's datum holds it: as it is. -/
def RV (v : Value) : Option (DataW Value × List MemPlace) := some (.held v, [])
/-- The map once j signatures have been told it. -/
structure FtS (w : World) (bm : Nat) (dd : List Sg) (j : Nat) (wr : World) : Prop where
  u_ : Below w.heap.size w wr
  bm_ : w.heap.size ≤ bm
  mp : ∃ D : DataW Value, wr.ownsMap Tryz.prog 9 RV bm j D ∧ Maps.IsMap D ∧
    (∀ i, i < j → (h : i < dd.length) → ∃ g c, (∀ z, D.atKey (.string (bl dd[i].name)) z = .held (.slice (some ⟨g, 0, none⟩) 1 c)) ∧ wr.cell? ⟨g, 0, none⟩ = some (.slice (some ⟨dd[i].cp, 0, none⟩) dd[i].cols.length dd[i].cols.length) ∧ g ≠ bm ∧ w.heap.size ≤ g ∧ g < wr.heap.size) ∧
    ∀ u, (∀ i, i < j → (h : i < dd.length) → bl dd[i].name ≠ u) → ∀ z, D.atKey (.string u) z = z
theorem FtS.start {w wr : World} (dd : List Sg) (h : Below w.heap.size w wr) : FtS w wr.heap.size dd 0 (wr.alloc (.map #[] 0)) :=
  ⟨h.alloc h.size _, h.size, .map [], World.ownsMap_made wr Tryz.prog 9 RV, ⟨[], rfl⟩, fun i hi => absurd hi (by omega), fun u _ z => rfl⟩
/-- What does not touch the map and the old blocks keeps it. -/
theorem FtS.up {w wr w' : World} {bm : Nat} {dd : List Sg} {j : Nat} (h : FtS w bm dd j wr) (hb : Below wr.heap.size wr w') : FtS w bm dd j w' := by
  obtain ⟨D, h1, h2, h3, h4⟩ := h.mp
  refine ⟨h.u_.trans (hb.mono h.u_.size), h.bm_, D, h1.kept ⟨hb.os, hb.tape, hb.output, hb.size, fun k hk _ => hb.block k hk⟩ (row := none) (by simp), h2, fun i hi hd => ?_, h4⟩
  obtain ⟨g, c, h5, h6, h7, h8, h9⟩ := h3 i hi hd
  exact ⟨g, c, h5, (hb.cell (p := ⟨g, 0, none⟩) h9).trans h6, h7, h8, Nat.lt_of_lt_of_le h9 hb.size⟩
/-- One more signature: its name is new; its one list stands in a block of its own. -/
theorem FtS.next {w wr w4 w5 : World} {bm : Nat} {dd : List Sg} {j g c : Nat} (h : FtS w bm dd j wr) (hj : j < dd.length) (hne : ∀ i, i < j → (hi : i < dd.length) → bl dd[i].name ≠ bl dd[j].name)
    (hb : Below wr.heap.size wr w4) (hg : wr.heap.size ≤ g) (hg2 : g < w4.heap.size) (hc : w4.cell? ⟨g, 0, none⟩ = some (.slice (some ⟨dd[j].cp, 0, none⟩) dd[j].cols.length dd[j].cols.length))
    (hup : ∀ D : DataW Value, w4.ownsMap Tryz.prog 9 RV bm j D → w5.ownsMap Tryz.prog 9 RV bm (j + 1) (D.put (.string (bl dd[j].name)) (.held (.slice (some ⟨g, 0, none⟩) 1 c)))) (hgr : w4.grownBy w5 (some bm)) : FtS w bm dd (j + 1) w5 := by
  have h0 := h.up hb
  obtain ⟨D, h1, h2, h3, h4⟩ := h0.mp
  have hk : WideAt.IsKeyLit (.string (bl dd[j].name)) := trivial
  have hbm : bm < wr.heap.size := by
    obtain ⟨D', h1', _⟩ := h.mp
    exact h1'.lt
  refine ⟨h0.u_.grown hgr h0.u_.size (fun k hk => by injection hk with hk; rw [← hk]; exact h.bm_), h.bm_, _, hup D h1, h2.put _ _, fun i hi hd => ?_, fun u hu z => ?_⟩
  · by_cases e : i = j
    · subst e
      exact ⟨g, c, fun z => atKey_put_same h2 hk _ _, (World.cell?_of_block (w := w4) (a := ⟨g, 0, none⟩) (hgr.block g hg2 (fun e => by injection e with e; omega))).trans hc, by omega, by have := h.u_.size; omega, Nat.lt_of_lt_of_le hg2 hgr.size⟩
    · obtain ⟨g', c', h5, h6, h7, h8, h9⟩ := h3 i (by omega) hd
      refine ⟨g', c', fun z => ?_, (World.cell?_of_block (w := w4) (a := ⟨g', 0, none⟩) (hgr.block g' h9 (fun e => by injection e with e; exact h7 e))).trans h6, h7, h8, Nat.lt_of_lt_of_le h9 hgr.size⟩
      rw [atKey_put_other (fun e2 => hne i (by omega) hd (by injection e2)), h5]
  · have hn : bl dd[j].name ≠ u := hu j (by omega) hj
    rw [atKey_put_other (fun e2 => hn (by injection e2 with e2; exact e2.symm)), h4 u (fun i hi hd => hu i (by omega) hd)]
end Go.Proofs.YtafjjececdhmjaaGreat

namespace Go.Proofs.YtafjjececdhmjaaGreat
open Go.RowKit Go.Maps

theorem infoTyl : (Tryz.prog.info? 44).map (fun i => (i.zero, i.size, i.bytes)) = some (some (.slice none 0 0), 1, 24) := by kernel_rfl
theorem zero_tyls (w : World) : (zeroValue 101).run Tryz.prog w = .ok (.slice none 0 0) w := by
  go_simp
theorem ownsMap_one {w : World} {b n m : Nat} {D D' : DataW Value} (h : w.ownsMap Tryz.prog 9 RV b n D) (g : w.ownsMap Tryz.prog 9 RV b m D') : D = D' := by
  obtain ⟨es, clock, hb, _, _, rfl⟩ := h
  obtain ⟨es', clock', hb', _, _, rfl⟩ := g
  rw [hb] at hb'
  simp only [Option.some.injEq, Obj.map.injEq] at hb'
  rw [hb'.1]
set_option maxRecDepth 100000 in
set_option maxHeartbeats 16000000 in
theorem tFits : FitsC := by
  intro fs q cap2 dd ps cs w hf hfr hfn hsm hso hdn hcn hnm
  obtain ⟨i0, hi, hzz⟩ := Option.map_eq_some_iff.1 infoTyl
  simp only [Prod.mk.injEq] at hzz
  obtain ⟨hz0, hz1, hz2⟩ := hzz
  have HI := Lib.hid hi; clear hi
  have HZ0 := Lib.hid hz0; clear hz0
  have HZ1 := Lib.hid hz1; clear hz1
  have HZ2 := Lib.hid hz2; clear hz2
  have HF := Lib.hid hf; clear hf
  have HFR := Lib.hid hfr; clear hfr
  have HSM := Lib.hid hsm; clear hsm
  have HSO := Lib.hid hso; clear hso
  have HCN := Lib.hid hcn; clear hcn
  have HNM := Lib.hid hnm; clear hnm
  have hmm := @run_makeMap Tryz.prog
  go_enter Tryz.func10, Tryz.ntmps10
  go_wp2_with fail
  have HS0 := Lib.hid (FtS.start dd (Below.refl w.heap.size w))
  clear hmm
  go_loopw [7, 17] (fun _ i wr => ∃ j : Nat, j ≤ dd.length ∧ i = .int .i64 j ∧ FtS w w.heap.size dd j wr) (fun _ i _ => dd.length - (intOf i).toNat)
  case atStart => exact ⟨0, by omega, rfl, HS0.out⟩
  case round =>
    clear HS0
    obtain ⟨j, hj, rfl, hs⟩ := hrel
    have HS := Lib.hid hs; clear hs
    rename World => wr
    by_cases hlt : j < dd.length
    · obtain ⟨blk, hps, hk⟩ := sg_at HSM.out hlt
      subst hps
      obtain ⟨k0, k1, _⟩ := hk wr HS.out.u_
      clear hk
      have HNX := Lib.hid (fun (w4 w5 : World) (g c : Nat) hb hg hg2 hc hup hgr => HS.out.next (w4 := w4) (w5 := w5) (g := g) (c := c) hlt (fun i hi hd e => by
        have h1 := HSO.out i j hd hlt hi
        rw [e] at h1
        exact absurd h1 (List.lt_irrefl _)) hb hg hg2 hc hup hgr)
      have hns := HNM.out _ (List.getElem_mem hlt)
      have HABS := Lib.hid (show ∃ D : DataW Value, wr.ownsMap Tryz.prog 9 RV w.heap.size j D ∧ ∀ z, D.atKey (.string (bl dd[j].name)) z = z from by
        obtain ⟨D, h1, _, _, h4⟩ := HS.out.mp
        exact ⟨D, h1, h4 _ fun i hi hd e => by
          have h1 := HSO.out i j hd hlt hi
          rw [e] at h1
          exact absurd h1 (List.lt_irrefl _)⟩)
      obtain ⟨s, hs⟩ : ∃ s, s = dd[j] := ⟨_, rfl⟩
      rw [← hs] at k0 k1 HNX hns HABS
      clear hs
      obtain ⟨nm, cp, cols⟩ := s
      simp only at k0 k1 HNX hns HABS
      obtain ⟨U, hU⟩ : ∃ U, U = wr.alloc (.cells #[.string nm, .slice (some ⟨cp, 0, none⟩) cols.length cols.length] 46) := ⟨_, rfl⟩
      have HBU := Lib.hid (show Below wr.heap.size wr U by rw [hU]; exact below_alloc _ _)
      have HCU := Lib.hid (show U.heap[wr.heap.size]? = some (.cells #[.string nm, .slice (some ⟨cp, 0, none⟩) cols.length cols.length] 46 (0, 0)) by rw [hU]; exact heap_alloc_new wr _)
      have hi0 : (0 : Int) ≤ (j : Int) := by omega
      have hi1 : (j : Int) < (dd.length : Int) := by omega
      go_wp2_with fail
      rw [← hU]
      clear hU k0 k1
      obtain ⟨D, hom, habs⟩ := HABS.out
      have hbm : w.heap.size < wr.heap.size := hom.lt
      have HLK := Lib.hid (show ∀ W' : World, W'.ownsMap Tryz.prog 9 RV w.heap.size j D → (Instr.lookup 100 (.map (some w.heap.size)) (.string nm) false).run Tryz.prog W' = .ok (.slice none 0 0) W' from fun W' h => by
        obtain ⟨v, ps, hrun, hv⟩ := h.lookup law_str Tryz.underlying100 (zero_tyls W') (zd := .held (.slice none 0 0)) (zp := []) rfl (WideMaps.keyOf_string_mk Tryz.underlying9 hns)
        have h1 : D.atKey (.string nm.data.toList) (.held (.slice none 0 0)) = .held (.slice none 0 0) := habs _
        rw [h1] at hv
        have h2 : v = .slice none 0 0 := by
          unfold RV at hv
          simp at hv
          exact hv.1
        rw [h2] at hrun
        exact hrun)
      have HOM := Lib.hid (show U.ownsMap Tryz.prog 9 RV w.heap.size j D from hom.kept ⟨HBU.out.os, HBU.out.tape, HBU.out.output, HBU.out.size, fun k hk _ => HBU.out.block k hk⟩ (row := none) (by simp))
      clear hom habs
      have hl1 := HLK.out U.drew HOM.out
      have hl2 := HLK.out (U.alloc (.cells #[.slice (some ⟨cp, 0, none⟩) cols.length cols.length] 44)).drew (HOM.out.alloc _)
      have hbu : wr.heap.size < U.heap.size := (Array.getElem?_eq_some_iff.1 HCU.out).1
      have HK2 := Lib.hid (show ∀ w' : World, w'.heap[wr.heap.size]? = U.heap[wr.heap.size]? → w'.cell? ⟨wr.heap.size, 0, none⟩ = some (.string nm) ∧ w'.cell? ⟨wr.heap.size, 1, none⟩ = some (.slice (some ⟨cp, 0, none⟩) cols.length cols.length) from fun w' h => by
        obtain ⟨h1, h2⟩ := two (h.trans HCU.out)
        exact ⟨h1, h2⟩)
      have HK := Lib.hid (show ∀ w', Below U.heap.size U w' → w'.cell? ⟨wr.heap.size, 0, none⟩ = some (.string nm) ∧ w'.cell? ⟨wr.heap.size, 1, none⟩ = some (.slice (some ⟨cp, 0, none⟩) cols.length cols.length) from fun w' h => HK2.out w' (h.block wr.heap.size hbu))
      have Hc := Lib.hid ((Below.refl U.heap.size U).drew)
      have hdj : j < 17825792 := by omega
      go_region_held3 (fun w' => w'.cell? ⟨wr.heap.size, 0, none⟩ = some (.string nm) ∧ w'.cell? ⟨wr.heap.size, 1, none⟩ = some (.slice (some ⟨cp, 0, none⟩) cols.length cols.length))
        (first
          | (refine HK2.out _ ?_
             with_reducible exact He.out)
          | (refine HK.out _ ?_
             repeat (with_reducible first | exact Hc.out | exact Hd.out | exact Below.refl _ _ | refine Below.drew ?_ | refine Below.alloc ?_ ?_ _)
             all_goals (with_reducible exact Nat.le_refl _)))
        (first
          | (refine step_append_lies _ (by rfl) _ _ _ (by rfl) U.heap.size 44 i0 _ 1 24 Tryz.underlying101 HI.out HZ0.out HZ1.out HZ2.out rfl (by decide) (.slice none 0 0) 0 _ (by rfl) (ownR_nil _ _ _ _) ⟨U.heap.size, 0, none⟩ 1 1 [.slice (some ⟨cp, 0, none⟩) cols.length cols.length] (by rfl) (by rfl) (World.news_of_block (cs := #[.slice (some ⟨cp, 0, none⟩) cols.length cols.length]) (t := 44) (fr := (0, 0)) (show ((U.alloc _).drew).heap[U.heap.size]? = _ from heap_alloc_new U _)) (by simp [Value.oneCell']) (by omega) (by unfold maxLen; omega) (by omega) (show U.heap.size ≤ (U.alloc _).heap.size by simp) (U.heap.size + 1) (show (U.alloc _).heap.size = U.heap.size + 1 by simp) ?_
             intro g cap w4 hown2 hgrow hat hlt2
             have hg2 : (U.alloc (.cells #[.slice (some ⟨cp, 0, none⟩) cols.length cols.length] 44)).grownBy w4 none := ⟨hgrow.os, hgrow.tape, hgrow.output, hgrow.size, hgrow.block⟩
             have Hd := Lib.hid (show Below U.heap.size U w4 from (below_alloc U _).grown hg2 (by simp) (fun k hk => by cases hk))
             have hgg : g = U.heap.size + 1 := by rcases hat with h | h; cases h; exact h
             subst hgg
             have HM4 := Lib.hid ((HOM.out.alloc (.cells #[.slice (some ⟨cp, 0, none⟩) cols.length cols.length] 44)).kept hg2 (by simp))
             obtain ⟨w5, hrun5, hown5, hgrow5⟩ := ((HOM.out.alloc (.cells #[.slice (some ⟨cp, 0, none⟩) cols.length cols.length] 44)).kept hg2 (by simp)).update (val := .slice (some ⟨U.heap.size + 1, 0, none⟩) 1 cap) (d := .held (.slice (some ⟨U.heap.size + 1, 0, none⟩) 1 cap)) (ps := []) law_str Tryz.underlying100 (by unfold maxLen; omega) (WideMaps.keyOf_string_mk Tryz.underlying9 hns) rfl
             have He := Lib.hid (show w5.heap[wr.heap.size]? = U.heap[wr.heap.size]? from (hgrow5.block wr.heap.size (by have := Hd.out.size; omega) (fun e => by injection e with e; omega)).trans (Hd.out.block wr.heap.size hbu))
             have HW5 := Lib.hid hgrow5
             have HO5 := Lib.hid hown5
             have HOW := Lib.hid hown2
             clear hat hgrow hg2 hown2 hgrow5 hown5))
      all_goals
        clear hl1 hl2 hrun5
        have HF := Lib.hid (HNX.out w4 w5 (U.heap.size + 1) cap (HBU.out.trans (Hd.out.mono HBU.out.size)) (by have := HBU.out.size; omega) hlt2 (by
          have h1 := HOW.out.cells (g := U.heap.size + 1) rfl 0 _ rfl
          rw [addr_add] at h1
          exact h1) (fun D' hD' => by
          rw [← ownsMap_one HM4.out hD']
          exact HO5.out) HW5.out)
        go_wp2_with fail
        go_roundw
        case rel => exact ⟨j + 1, by omega, by go_num, HF.out⟩
        case measure => simp [intOf]; omega
    · obtain rfl : j = dd.length := by omega
      clear hlt
      go_wp2_with fail
      go_loopw [9, 11, 13, 35] (fun _ _ _ i wm => ∃ k : Nat, k ≤ fs.length ∧ i = .int .i64 k ∧ (∀ m, (h : m < fs.length) → m < k → (∀ v ∈ fs[m].xs, vlOk v = true) ∧ ∀ s ∈ dd, s.name = fs[m].p → FitV fs[m].xs s.cols) ∧ Below wr.heap.size wr wm) (fun _ _ _ i _ => fs.length - (intOf i).toNat)
      case atStart => exact ⟨0, by omega, rfl, fun m _ h => by omega, Below.refl _ _⟩
      case round =>
        obtain ⟨k, hk, rfl, hal, hbm⟩ := hrel
        have HAL := Lib.hid hal; clear hal
        have HM := Lib.hid hbm; clear hbm
        rename World => wm
        by_cases hlt : k < fs.length
        · rcases HF.out.1 with h0 | ⟨a, o, rfl, ha, hc⟩
          · omega
          have hwm := HS.out.u_.trans (HM.out.mono HS.out.u_.size)
          have hck := (hc k hlt).up hwm ha
          have hvs := (HF.out.2 _ (List.getElem_mem hlt)).up hwm
          have hfp := (HFR.out _ (List.getElem_mem hlt)).p_
          have hfl := (HFR.out _ (List.getElem_mem hlt)).n_
          clear hc
          have HNX := Lib.hid (show ((∀ v ∈ fs[k].xs, vlOk v = true) ∧ ∀ s ∈ dd, s.name = fs[k].p → FitV fs[k].xs s.cols) → ∀ m, (h : m < fs.length) → m < k + 1 → (∀ v ∈ fs[m].xs, vlOk v = true) ∧ ∀ s ∈ dd, s.name = fs[m].p → FitV fs[m].xs s.cols from fun h0 m h1 h2 => by
            by_cases e : m = k
            · subst e; exact h0
            · exact HAL.out m h1 (by omega))
          obtain ⟨f, hf⟩ : ∃ f, f = fs[k] := ⟨_, rfl⟩
          rw [← hf] at hck hvs hfp hfl HNX
          clear hf
          obtain ⟨fp, xs, sv⟩ := f
          obtain ⟨c0, c1⟩ := hck
          simp only at c0 c1 hvs hfp hfl HNX
          obtain ⟨pv, cv, rfl, hmx, hva⟩ := hvs
          have hi0 : (0 : Int) ≤ (k : Int) := by omega
          have hi1 : (k : Int) < (fs.length : Int) := by omega
          obtain ⟨U, hU⟩ : ∃ U, U = wm.alloc (.cells #[.string fp, .slice pv xs.length cv] 104) := ⟨_, rfl⟩
          have HBU := Lib.hid (show Below wm.heap.size wm U by rw [hU]; exact below_alloc _ _)
          have HCU := Lib.hid (show U.heap[wm.heap.size]? = some (.cells #[.string fp, .slice pv xs.length cv] 104 (0, 0)) by rw [hU]; exact heap_alloc_new wm _)
          have hbu : wm.heap.size < U.heap.size := (Array.getElem?_eq_some_iff.1 HCU.out).1
          have HVA := Lib.hid hva; clear hva
          obtain ⟨t0, t1⟩ := two HCU.out
          rw [hU] at t0 t1
          go_wp2_with fail
          rw [← hU]
          clear hU t0 t1 c0 c1
          go_loopw [11, 42] (fun _ i wi => ∃ m : Nat, m ≤ xs.length ∧ i = .int .i64 m ∧ (∀ j, (h : j < xs.length) → j < m → vlOk xs[j] = true) ∧ Below U.heap.size U wi) (fun _ i _ => xs.length - (intOf i).toNat)
          case atStart => exact ⟨0, by omega, rfl, fun j _ h => by omega, Below.refl _ _⟩
          case round =>
            obtain ⟨m, hm, rfl, hok, hbi⟩ := hrel
            have HOK := Lib.hid hok; clear hok
            have HI2 := Lib.hid hbi; clear hbi
            rename World => wi
            have hUi := HBU.out.trans (HI2.out.mono HBU.out.size)
            by_cases hlm : m < xs.length
            · rcases HVA.out with h0 | ⟨a3, o3, rfl, hxa⟩
              · omega
              have hcx := (hxa.at_ m hlm).up hUi hxa.lt
              have HO1 := Lib.hid (show vlOk xs[m] = true → ∀ j, (h : j < xs.length) → j < m + 1 → vlOk xs[j] = true from fun h0 j h1 h2 => by
                by_cases e : j = m
                · subst e; exact h0
                · exact HOK.out j h1 (by omega))
              obtain ⟨y, hy⟩ : ∃ y, y = xs[m] := ⟨_, rfl⟩
              rw [← hy] at hcx HO1
              clear hy hxa
              obtain ⟨yk, yn, yt⟩ := y
              obtain ⟨e0, e1, e2⟩ := hcx
              simp only at e0 e1 e2
              have hm0 : (0 : Int) ≤ (m : Int) := by omega
              have hm1 : (m : Int) < (xs.length : Int) := by omega
              have HCH := Lib.hid (fun V' => vCheck yk yn yt V')
              go_wp2_with fail
              refine (HCH.out _).mono ?_
              rintro e w7 ⟨rfl, hb7⟩
              have H7 := Lib.hid (HI2.out.trans ((below_alloc wi _).trans (hb7.mono (by simp)) |>.mono HI2.out.size)); clear hb7
              rcases hv : vlOk ⟨yk, yn, yt⟩ with _ | _
              · have hcd : okCode false 10 = 10 := rfl
                rw [hcd]
                go_wp2_with fail
                go_ret
                exact ⟨false, rfl, (fun h => nomatch h), hwm.trans ((HBU.out.trans (H7.out.mono HBU.out.size)).mono hwm.size)⟩
              · have hcd : okCode true 10 = 0 := rfl
                rw [hcd]
                have HO2 := Lib.hid (HO1.out hv)
                go_wp2_with fail
                go_roundw
                case rel => exact ⟨m + 1, by omega, by go_num, HO2.out, H7.out⟩
                case measure => simp [intOf]; omega
            · obtain rfl : m = xs.length := by omega
              have HVO := Lib.hid (show ∀ v ∈ xs, vlOk v = true from fun v hv => by
                obtain ⟨j, hj, rfl⟩ := List.getElem_of_mem hv
                exact HOK.out j hj hj)
              clear hlm
              have HUi := Lib.hid hUi; clear hUi
              have HWI := Lib.hid (HS.out.up (HM.out.trans (HUi.out.mono HM.out.size)))
              have HBW := Lib.hid HWI.out.u_
              have hcu := (HI2.out.block wm.heap.size hbu).trans HCU.out
              have HT := Lib.hid (fun (w' : World) (hb : Below wi.heap.size wi w') => two ((hb.block wm.heap.size (Nat.lt_of_lt_of_le hbu HI2.out.size)).trans hcu))
              obtain ⟨b0, b1⟩ := two hcu
              clear hcu
              have HVW := Lib.hid (fun (w' : World) (hb : Below wi.heap.size wi w') => (show VlSl wm (.slice pv xs.length cv) xs from ⟨pv, cv, rfl, hmx, HVA.out⟩).up (HUi.out.trans (hb.mono HUi.out.size)))
              have HSW := Lib.hid (HSM.out.up HBW.out)
              obtain ⟨D, hom, _, hat, hno⟩ := HWI.out.mp
              have HAT := Lib.hid hat; clear hat
              have HNO := Lib.hid hno; clear hno
              obtain ⟨v, ps2, hrun, hv⟩ := hom.lookup law_str Tryz.underlying100 (zero_tyls wi) (zd := .held (.slice none 0 0)) (zp := []) rfl (WideMaps.keyOf_string_mk Tryz.underlying9 hfp)
              by_cases hex : ∃ i, ∃ h : i < dd.length, dd[i].name = fp
              · obtain ⟨i, hi, hin⟩ := hex
                obtain ⟨g, c, h5, h6, _, _, h9⟩ := HAT.out i hi hi
                have h5' := h5 (.held (.slice none 0 0))
                rw [hin] at h5'
                have hv2 : RV v = some (.held (.slice (some ⟨g, 0, none⟩) 1 c), ps2) := by
                  rw [← h5']; exact hv
                obtain rfl : v = .slice (some ⟨g, 0, none⟩) 1 c := by
                  unfold RV at hv2
                  simp at hv2
                  exact hv2.1
                clear hv hv2 h5 h5'
                obtain ⟨blk, hps, hk2⟩ := sg_at HSW.out hi
                have HCE := Lib.hid (fun (w' : World) (hb : Below wi.heap.size wi w') => (hb.cell (p := ⟨g, 0, none⟩) h9).trans h6)
                have HTY := Lib.hid (fun (w' : World) (hb : Below wi.heap.size wi w') => (show TysAt w' (some ⟨dd[i].cp, 0, none⟩) dd[i].cols from .inr ⟨dd[i].cp, 0, rfl, (by
                  have h1 := (HSW.out.up hb).2 _ (List.getElem_mem hi)
                  exact (Array.getElem?_eq_some_iff.1 h1).1), fun z hz => (by rw [Nat.zero_add]; exact (hk2 w' hb).2.2 z hz)⟩))
                clear hk2 hps h6
                have HNY := Lib.hid (show FitV xs dd[i].cols → (∀ v ∈ xs, vlOk v = true) ∧ ∀ s ∈ dd, s.name = fp → FitV xs s.cols from fun h0 => ⟨HVO.out, fun s hs hn => by
                  obtain ⟨i2, hi2, rfl⟩ := List.getElem_of_mem hs
                  have e : i2 = i := by
                    rcases Nat.lt_trichotomy i2 i with h | h | h
                    · have h1 := HSO.out i2 i hi2 hi h
                      rw [hn, hin] at h1
                      exact absurd h1 (List.lt_irrefl _)
                    · exact h
                    · have h1 := HSO.out i i2 hi hi2 h
                      rw [hn, hin] at h1
                      exact absurd h1 (List.lt_irrefl _)
                  subst e
                  exact h0⟩)
                obtain ⟨s, hs⟩ : ∃ s, s = dd[i] := ⟨_, rfl⟩
                rw [← hs] at HCE HTY HNY hin
                clear hs
                obtain ⟨nm, cp, cols⟩ := s
                simp only at HCE HTY HNY hin
                subst hin
                have hxl : xs.length ≤ 4398046511104 := by omega
                have HFI := Lib.hid (fun (W' : World) (hb : Below wi.heap.size wi W') => tFits1 xs cols (.slice pv xs.length cv) (some ⟨cp, 0, none⟩) cols.length W' (HVW.out W' hb) (HTY.out W' hb) hxl)
                go_wp2_with fail
                go_loopw [13, 55] (fun _ i wj => ∃ m : Nat, m ≤ 1 ∧ i = .int .i64 m ∧ (m = 1 → FitV xs cols) ∧ Below wi.heap.size wi wj) (fun _ i _ => 1 - (intOf i).toNat)
                case atStart => exact ⟨0, by omega, rfl, (fun h => nomatch h), Below.refl _ _⟩
                case round =>
                  obtain ⟨m, hm, rfl, hfv, hbj⟩ := hrel
                  have HJ := Lib.hid hbj; clear hbj
                  rename World => wj
                  by_cases hm1 : m = 1
                  · subst hm1
                    have HNZ := Lib.hid (HNX.out (HNY.out (hfv rfl)))
                    clear hfv
                    go_wp2_with fail
                    go_roundw
                    case rel => exact ⟨k + 1, by omega, by go_num, HNZ.out, HM.out.trans ((HUi.out.trans (HJ.out.mono HUi.out.size)).mono HM.out.size)⟩
                    case measure => simp [intOf]; omega
                  · obtain rfl : m = 0 := by omega
                    have g0 := HCE.out wj HJ.out
                    obtain ⟨g1, g2⟩ := HT.out wj HJ.out
                    have HFJ := Lib.hid (HFI.out wj HJ.out)
                    clear hfv
                    go_wp2_with fail
                    refine HFJ.out.mono ?_
                    rintro e w8 ⟨b, rfl, hbf, hb8⟩
                    have HBF := Lib.hid hbf; clear hbf
                    have H8 := Lib.hid (HJ.out.trans (hb8.mono HJ.out.size)); clear hb8
                    rcases b with _ | _
                    · go_wp2_with fail
                      go_ret
                      exact ⟨false, rfl, (fun h => nomatch h), HBW.out.trans (H8.out.mono HBW.out.size)⟩
                    · go_wp2_with fail
                      go_roundw
                      case rel => exact ⟨1, by omega, by go_num, (fun _ => HBF.out (by trivial)), H8.out⟩
                      case measure => simp [intOf]
              · have h5' := HNO.out (bl fp) (fun i hi hd e => hex ⟨i, hd, ByteArray.ext (Array.ext' e)⟩) (.held (.slice none 0 0))
                have hv2 : RV v = some (.held (.slice none 0 0), ps2) := by
                  rw [← h5']; exact hv
                obtain rfl : v = .slice none 0 0 := by
                  unfold RV at hv2
                  simp at hv2
                  exact hv2.1
                clear hv hv2 h5'
                have HNZ := Lib.hid (HNX.out ⟨HVO.out, fun s hs hn => by
                  obtain ⟨i2, hi2, rfl⟩ := List.getElem_of_mem hs
                  exact absurd ⟨i2, hi2, hn⟩ hex⟩)
                go_wp2_with fail
                go_loopw [13, 55] (fun _ i wj => i = .int .i64 0 ∧ Below wi.heap.size wi wj) (fun _ _ _ => 0)
                case atStart => exact ⟨rfl, Below.refl _ _⟩
                case round =>
                  obtain ⟨rfl, hbj⟩ := hrel
                  have HJ := Lib.hid hbj; clear hbj
                  rename World => wj
                  go_wp2_with fail
                  go_roundw
                  case rel => exact ⟨k + 1, by omega, by go_num, HNZ.out, HM.out.trans ((HUi.out.trans (HJ.out.mono HUi.out.size)).mono HM.out.size)⟩
                  case measure => simp [intOf]; omega
        · go_wp2_with fail
          go_ret
          exact ⟨true, rfl, fun _ => fun f hf => (by
            obtain ⟨m, hm, rfl⟩ := List.getElem_of_mem hf
            exact HAL.out m hm (by omega)), HS.out.u_.trans (HM.out.mono HS.out.u_.size)⟩
end Go.Proofs.YtafjjececdhmjaaGreat
