/- The variables of things: the contract of the function that gathers them. Conditions: the term lies in memory as it is told; at most 10000 variables are gathered. -/
import Derived.Test.YtafjjececdhmjaaGreatNS1
import Derived.Maps.OwnOps
import Derived.StringKeys
import Derived.Deep.RegionHeld3
import Derived.Deep.RegionLaw
import Derived.StillTailTactics
import Derived.BigQuiet
namespace Go.Proofs.YtafjjececdhmjaaGreat
open Go.RowKit Go.Maps

/-- What has been gathered: a map of numbers, a list. -/
structure VS (w0 : World) (bt bl : Nat) (acc : List (List UInt8)) (w : World) : Prop where
  below : Below w0.heap.size w0 w
  bt_ : w0.heap.size ≤ bt
  bl_ : w0.heap.size ≤ bl
  there : ∃ bm D, w.heap[bt]? = some (.cells #[.map (some bm)] 61 (0, 0)) ∧ w0.heap.size ≤ bm ∧ w.ownsMap Tryz.prog 9 (plainElem Tryz.prog 3) bm acc.length D ∧ ThereD D acc
  list : ∃ sv, w.heap[bl]? = some (.cells #[sv] 85 (0, 0)) ∧ w.ownsRowF w0.heap.size 9 1 sv acc.length (strVs acc)
theorem VS.drewN {w0 : World} {bt bl : Nat} {acc : List (List UInt8)} {w : World} (h : VS w0 bt bl acc w) (n : Nat) : VS w0 bt bl acc (w.drewN n) :=
  ⟨⟨h.below.os, h.below.tape, h.below.output, h.below.size, h.below.block⟩, h.bt_, h.bl_, h.there, h.list⟩
theorem law_str : Keyed Tryz.prog 9 := string_keyed Tryz.underlying9
theorem zero_int (w : World) : (zeroValue 3).run Tryz.prog w = .ok (.int .i64 0) w := by kernel_rfl
/-- What the map says of a name. -/
theorem look_c {w : World} {bm n : Nat} {D : DataW Unit} {acc : List (List UInt8)} (hm : w.ownsMap Tryz.prog 9 (plainElem Tryz.prog 3) bm n D) (hd : ThereD D acc) (v : ByteArray) (hv : v.size ≤ maxLen) :
    ∃ c : Int, (decide (0 < c) = acc.contains (bl v)) ∧ ∀ nq, (Instr.lookup 61 (.map (some bm)) (.string v) false).run Tryz.prog (w.drewN nq) = .ok (.int .i64 c) (w.drewN nq) := by
  have hk := WideMaps.keyOf_string_mk Tryz.underlying9 hv
  have hone : ∀ nq, ∃ c, (Instr.lookup 61 (.map (some bm)) (.string v) false).run Tryz.prog (w.drewN nq) = .ok (.int .i64 c) (w.drewN nq) ∧ D.atKey (.string (bl v)) (.lit (.int .i64 0)) = .lit (.int .i64 c) := fun nq => by
    obtain ⟨c, h1, h2, _⟩ := World.ownsMap.lookup_int (w := w.drewN nq) hm law_str Tryz.underlying61 Tryz.underlying3 (zero_int _) hk
    exact ⟨c, h1, h2⟩
  by_cases h : bl v ∈ acc
  · obtain ⟨c, hc, hz⟩ := hd.yes _ h
    refine ⟨c, by simp [h]; omega, fun nq => ?_⟩
    obtain ⟨c', h1, h2⟩ := hone nq
    rw [hz] at h2
    obtain rfl : c = c' := by simpa using h2
    exact h1
  · refine ⟨0, by simp [h], fun nq => ?_⟩
    obtain ⟨c', h1, h2⟩ := hone nq
    rw [hd.no _ h] at h2
    obtain rfl : 0 = c' := by simpa using h2
    exact h1
theorem new_str (w : World) (l : List Value) (t : TypeId) : ∀ j u, l[j]? = some u → ((w.alloc (.cells l.toArray t)).drew).cell? ((⟨w.heap.size, 0, none⟩ : Addr).add j) = some u := by
  intro j u hj
  have h3 : (⟨w.heap.size, 0, none⟩ : Addr).add j = ⟨w.heap.size, j, none⟩ := by unfold Addr.add; split <;> simp_all
  rw [h3, World.cell?_drew, Lib.cell_of_heap (heap_alloc_new w _)]
  simpa using hj
theorem one_str (v : ByteArray) : ∀ u ∈ [Value.string v], u.oneCell' = true := by
  intro u hu
  simp at hu
  subst hu
  rfl
/-- What the list's new row leaves of the rest. -/
theorem grow_rest {w1 w2 : World} {bt bl' bm B n : Nat} {ps : Option Addr} {cs k : Nat} {v : ByteArray} {acc : List (List UInt8)} {D : DataW Unit} {X : Value} (hg : ((w1.alloc (.cells #[.string v] 9)).drew).grownBy w2 (Value.slice ps n cs).ownBlock)
    (hr : w1.ownsRowF B 9 1 (.slice ps n cs) k (strVs acc)) (hbl : w1.heap[bl']? = some (.cells #[X] 85 (0, 0))) (hbt : w1.heap[bt]? = some (.cells #[.map (some bm)] 61 (0, 0)))
    (hom : w1.ownsMap Tryz.prog 9 (plainElem Tryz.prog 3) bm n D) :
    w2.heap[bl']? = some (.cells #[X] 85 (0, 0)) ∧ w2.heap[bt]? = some (.cells #[.map (some bm)] 61 (0, 0)) ∧ w2.ownsMap Tryz.prog 9 (plainElem Tryz.prog 3) bm n D ∧ bm ≠ bl' ∧ bt ≠ bl' ∧ bm ≠ bt ∧ w1.heap.size < w2.heap.size := by
  have h1 : some bl' ≠ (Value.slice ps n cs).ownBlock := fun e => Lib.ownBlock_neF hr hbl (by decide) e.symm
  have h2 : some bt ≠ (Value.slice ps n cs).ownBlock := fun e => Lib.ownBlock_neF hr hbt (by decide) e.symm
  have hl1 := (Array.getElem?_eq_some_iff.1 hbl).1
  have hl2 := (Array.getElem?_eq_some_iff.1 hbt).1
  have hom' := hom
  obtain ⟨es, clock, hb, _⟩ := hom'
  have hlm := (Array.getElem?_eq_some_iff.1 hb).1
  have h3 : some bm ≠ (Value.slice ps n cs).ownBlock := by
    intro e
    rcases hr.2 with ⟨hv, _⟩ | ⟨g, cap, cur, fz, hv, _, hg2, _⟩
    · rw [hv] at e; cases e
    · rw [hv] at e
      obtain rfl : bm = g := by simpa [Value.ownBlock] using e
      rw [hb] at hg2
      cases hg2
  have ha : ∀ k, k < w1.heap.size → some k ≠ (Value.slice ps n cs).ownBlock → w2.heap[k]? = w1.heap[k]? := fun k hk hne =>
    (hg.block k (by show k < (w1.alloc _).heap.size; simp; omega) hne).trans (Lib.alloc_old w1 _ k hk)
  have hsz := hg.size
  refine ⟨(ha _ hl1 h1).trans hbl, (ha _ hl2 h2).trans hbt, ?_, fun e => ?_, fun e => ?_, fun e => ?_, ?_⟩
  · obtain ⟨es, clock, hb, hF, hs, hD⟩ := hom
    exact ⟨es, clock, (ha _ hlm h3).trans hb, hF, hs, hD⟩
  · rw [e, hbl] at hb; cases hb
  · rw [e, hbl] at hbt
    simp only [Option.some.injEq, Obj.cells.injEq] at hbt
    exact absurd hbt.2.1 (by decide)
  · rw [e, hbt] at hb; cases hb
  · have : (w1.alloc (.cells #[.string v] 9)).drew.heap.size = w1.heap.size + 1 := by show (w1.alloc _).heap.size = _; simp
    omega
theorem mid_rest {w0 w1 w2 : World} {bt bl' bm n : Nat} {ps p2 : Option Addr} {cs c2 a o : Nat} {v : ByteArray} {acc : List (List UInt8)} {D : DataW Unit} {X : Value} (h : VS w0 bt bl' acc w1) (hg : ((w1.alloc (.cells #[.string v] 9)).drew).grownBy w2 (Value.slice ps n cs).ownBlock)
    (hr : w1.ownsRowF w0.heap.size 9 1 (.slice ps n cs) acc.length (strVs acc)) (hbl : w1.heap[bl']? = some (.cells #[X] 85 (0, 0))) (hbt : w1.heap[bt]? = some (.cells #[.map (some bm)] 61 (0, 0)))
    (hom : w1.ownsMap Tryz.prog 9 (plainElem Tryz.prog 3) bm n D) (hown : w2.ownsRowF w0.heap.size 9 1 (.slice p2 (n + 1) c2) (n + 1) (strVs acc ++ [.string v])) (hc : w1.cell? ⟨a, o, none⟩ = some (.string v)) (ha : a < w0.heap.size) :
    Below w0.heap.size w0 (w2.setCell ⟨bl', 0, none⟩ (.slice p2 (n + 1) c2)) ∧ (w2.setCell ⟨bl', 0, none⟩ (.slice p2 (n + 1) c2)).heap[bl']? = some (.cells #[.slice p2 (n + 1) c2] 85 (0, 0)) ∧ (w2.setCell ⟨bl', 0, none⟩ (.slice p2 (n + 1) c2)).heap[bt]? = some (.cells #[.map (some bm)] 61 (0, 0)) ∧
      (w2.setCell ⟨bl', 0, none⟩ (.slice p2 (n + 1) c2)).ownsMap Tryz.prog 9 (plainElem Tryz.prog 3) bm n D ∧ (w2.setCell ⟨bl', 0, none⟩ (.slice p2 (n + 1) c2)).ownsRowF w0.heap.size 9 1 (.slice p2 (n + 1) c2) (n + 1) (strVs acc ++ [.string v]) ∧
      (w2.setCell ⟨bl', 0, none⟩ (.slice p2 (n + 1) c2)).cell? ⟨a, o, none⟩ = some (.string v) ∧ bm ≠ bl' ∧ bm ≠ bt := by
  obtain ⟨g1, g2, g3, e1, e2, e3, hsz⟩ := grow_rest hg hr hbl hbt hom
  have hb1 : Below w0.heap.size w0 ((w1.alloc (.cells #[.string v] 9)).drew) := (h.below.alloc h.below.size _).drew
  have hb2 : Below w0.heap.size w0 w2 := hb1.grown hg (by
    have := h.below.size
    show _ ≤ (w1.alloc _).heap.size
    simp; omega) (fun g hg' => (hr.lt g hg').1)
  have hb3 : Below w0.heap.size w0 (w2.setCell ⟨bl', 0, none⟩ (.slice p2 (n + 1) c2)) := hb2.setCell (p := ⟨bl', 0, none⟩) h.bl_ _
  have hne : ∀ k, k ≠ bl' → (w2.setCell ⟨bl', 0, none⟩ (.slice p2 (n + 1) c2)).heap[k]? = w2.heap[k]? := fun k hk => Below.heap_setCell w2 ⟨bl', 0, none⟩ _ k hk
  refine ⟨hb3, ?_, (hne bt e2).trans g2, ?_, ?_, ?_, e1, e3⟩
  · simp [World.setCell, Array.getElem?_modify, g1]
  · obtain ⟨es, clock, hb, hF, hs, hD⟩ := g3
    exact ⟨es, clock, (hne bm e1).trans hb, hF, hs, hD⟩
  · have hnb : (Value.slice p2 (n + 1) c2).ownBlock ≠ some bl' := Lib.ownBlock_neF hown g1 (by decide)
    refine ⟨hown.1, ?_⟩
    rcases hown.2 with h2 | ⟨g, cap, cur, fz, hv, hB, hg2, h3⟩
    · exact .inl h2
    · exact .inr ⟨g, cap, cur, fz, hv, hB, (hne g (fun e => hnb (by rw [hv, e]; rfl))).trans hg2, h3⟩
  · have h1 := (h.below.cell (p := ⟨a, o, none⟩) ha).symm.trans hc
    exact (hb3.cell (p := ⟨a, o, none⟩) ha).trans h1
/-- What the map's new entry leaves of the rest. -/
theorem fin_rest {w0 w3 w4 : World} {bt bl' bm : Nat} {p2 : Option Addr} {c2 : Nat} {v : ByteArray} {acc : List (List UInt8)} {D : DataW Unit} (hbt : w0.heap.size ≤ bt) (hbl : w0.heap.size ≤ bl') (hBm : w0.heap.size ≤ bm) (hb : Below w0.heap.size w0 w3)
    (hl : w3.heap[bl']? = some (.cells #[.slice p2 (acc.length + 1) c2] 85 (0, 0))) (ht : w3.heap[bt]? = some (.cells #[.map (some bm)] 61 (0, 0))) (hom : w3.ownsMap Tryz.prog 9 (plainElem Tryz.prog 3) bm acc.length D)
    (hr : w3.ownsRowF w0.heap.size 9 1 (.slice p2 (acc.length + 1) c2) (acc.length + 1) (strVs acc ++ [.string v])) (hne1 : bm ≠ bl') (hne2 : bm ≠ bt) (htd : ThereD D acc)
    (hom4 : w4.ownsMap Tryz.prog 9 (plainElem Tryz.prog 3) bm (acc.length + 1) (D.put (.string (bl v)) (.lit (.int .i64 ((acc.length : Int) + 1))))) (hg : w3.drew.grownBy w4 (some bm)) : VS w0 bt bl' (acc ++ [bl v]) w4 := by
  have hsz : w0.heap.size ≤ w3.heap.size := hb.size
  have hk : ∀ k X, w3.heap[k]? = some X → k ≠ bm → w4.heap[k]? = some X := fun k X hX hne => (hg.block k (Array.getElem?_eq_some_iff.1 hX).1 (fun e => hne (by simpa using e))).trans hX
  have hbm : ∃ es clock, w3.heap[bm]? = some (.map es clock) := by
    obtain ⟨es, clock, h1, _⟩ := hom
    exact ⟨es, clock, h1⟩
  obtain ⟨es, clock, hbm⟩ := hbm
  have hlen : (acc ++ [bl v]).length = acc.length + 1 := by simp
  refine ⟨hb.drew.grown hg hsz (fun g hg' => by obtain rfl : bm = g := by simpa using hg'
                                                exact hBm), hbt, hbl, ⟨bm, _, hk _ _ ht (Ne.symm hne2), hBm, by rw [hlen]; exact hom4, htd.snoc (bl v) (by omega)⟩, ⟨_, hk _ _ hl (Ne.symm hne1), ?_⟩⟩
  rw [hlen]
  have he : strVs (acc ++ [bl v]) = strVs acc ++ [.string v] := by simp [strVs]
  rw [he]
  refine ⟨hr.1, ?_⟩
  rcases hr.2 with h2 | ⟨g, cap, cur, fz, hv, hB, hg2, h3⟩
  · exact .inl h2
  · exact .inr ⟨g, cap, cur, fz, hv, hB, hk _ _ hg2 (fun e => by rw [e, hbm] at hg2; cases hg2), h3⟩
set_option maxHeartbeats 4000000 in
set_option maxRecDepth 100000 in
theorem tVars1 (w0 : World) (bt bl' : Nat) (acc : List (List UInt8)) (t : Tm) (a o : Nat) (w : World) (h : VS w0 bt bl' acc w) (hc : w.cell? ⟨a, o, none⟩ = some (.string t.v)) (ha : a < w0.heap.size) (hv : t.v.size ≤ maxLen) (hn : acc.length ≤ 10000) :
    Calls Tryz.prog 108 #[.pointer (some ⟨a, o, none⟩), .pointer (some ⟨bt, 0, none⟩), .pointer (some ⟨bl', 0, none⟩)] w fun e w' => e = .returned (.tuple #[]) ∧ VS w0 bt bl' (addV acc t) w' := by
  obtain ⟨v, tx⟩ := t
  simp only at hc hv
  have HV := Lib.hid h
  obtain ⟨bm, D, hbt, hBm, hom, htd⟩ := h.there
  obtain ⟨sv, hbl, hor⟩ := h.list
  obtain ⟨c, hcd, hlk⟩ := look_c hom htd v hv
  have ct : w.cell? ⟨bt, 0, none⟩ = some (.map (some bm)) := by rw [Lib.cell_of_heap hbt]; rfl
  have cl : w.cell? ⟨bl', 0, none⟩ = some sv := by rw [Lib.cell_of_heap hbl]; rfl
  have HBT := Lib.hid hbt; clear hbt
  have HBL := Lib.hid hbl; clear hbl
  have HOM := Lib.hid hom; clear hom
  have HTD := Lib.hid htd; clear htd
  have HOR := Lib.hid hor; clear hor
  clear h
  by_cases h0 : v.toList.isEmpty = true
  · have HA := Lib.hid (show addV acc ⟨v, tx⟩ = acc by unfold addV; rw [if_neg]; simp [newV, bl, ← ByteArray.toList_eq, h0])
    clear hlk hcd
    go_enter Tryz.func108, Tryz.ntmps108
    go_wp2_with fail
    go_quiet (fail)
    go_wp2_with fail
    refine bodyPost_ret (results_none rfl _ _ _) rfl ?_
    exact ⟨rfl, by rw [HA.out]; exact HV.out.drewN _⟩
  · have h0' : v.toList.isEmpty = false := by simpa using h0
    clear h0
    by_cases h95 : v.toList = [95]
    · have q95 : (v.toList == [95]) = true := by simp [h95]
      have HA := Lib.hid (show addV acc ⟨v, tx⟩ = acc by unfold addV; rw [if_neg]; simp [newV, bl, ← ByteArray.toList_eq, h95])
      clear hlk hcd h95
      go_enter Tryz.func108, Tryz.ntmps108
      go_wp2_with fail
      go_quiet (fail)
      go_wp2_with fail
      refine bodyPost_ret (results_none rfl _ _ _) rfl ?_
      exact ⟨rfl, by rw [HA.out]; exact HV.out.drewN _⟩
    · have q95 : (v.toList == [95]) = false := by simpa using h95
      rcases hq : acc.contains (bl v) with _ | _
      · have HA := Lib.hid (show addV acc ⟨v, tx⟩ = acc ++ [bl v] by unfold addV; rw [if_pos]; simp only [newV, hq]; simp [bl, ← ByteArray.toList_eq, h95]; simpa using h0')
        rw [hq] at hcd
        clear hq h95
        go_enter Tryz.func108, Tryz.ntmps108
        go_wp2_with fail
        go_quiet (fail)
        go_wp2_with fail
        rename Nat => nq
        obtain ⟨w1, hw1⟩ : ∃ w1, w1 = w.drewN nq := ⟨_, rfl⟩
        have HV1 := Lib.hid (show VS w0 bt bl' acc w1 by rw [hw1]; exact HV.out.drewN nq)
        have HBL1 := Lib.hid (show w1.heap[bl']? = some (.cells #[sv] 85 (0, 0)) by rw [hw1]; exact HBL.out)
        have HBT1 := Lib.hid (show w1.heap[bt]? = some (.cells #[.map (some bm)] 61 (0, 0)) by rw [hw1]; exact HBT.out)
        have HOM1 := Lib.hid (show w1.ownsMap Tryz.prog 9 (plainElem Tryz.prog 3) bm acc.length D by rw [hw1]; exact HOM.out)
        have HOR1 := Lib.hid (show w1.ownsRowF w0.heap.size 9 1 sv acc.length (strVs acc) by rw [hw1]; exact HOR.out)
        have hc1 : w1.cell? ⟨a, o, none⟩ = some (.string v) := by rw [hw1]; exact hc
        have cl1 : w1.cell? ⟨bl', 0, none⟩ = some sv := by rw [hw1]; exact cl
        rw [← hw1]
        clear hw1 hc cl ct hlk
        have hla : a < w1.heap.size := by have := HV1.out.below.size; omega
        have hlb := (Array.getElem?_eq_some_iff.1 HBL1.out).1
        have hsl := own_slice1 HOR1.out
        obtain ⟨ps, cs, rfl⟩ := hsl
        have n1 := World.new_ne w1 ⟨a, o, none⟩ hc1
        have n2 := World.new_ne w1 ⟨bl', 0, none⟩ cl1
        obtain ⟨i0, hi, hzz⟩ := Option.map_eq_some_iff.1 infoStr
        simp only [Prod.mk.injEq] at hzz
        obtain ⟨hz0, hz1, hz2⟩ := hzz
        have HI := Lib.hid hi; clear hi
        have HZ0 := Lib.hid hz0; clear hz0
        have HZ1 := Lib.hid hz1; clear hz1
        have HZ2 := Lib.hid hz2; clear hz2
        have HORA := Lib.hid (show ((w1.alloc (.cells #[.string v] 9)).drew).ownsRowF w0.heap.size 9 1 (.slice ps acc.length cs) acc.length (strVs acc) from HOR1.out.alloc _)
        have hbase : w0.heap.size ≤ ((w1.alloc (.cells #[.string v] 9)).drew).heap.size := by
          have := HV1.out.below.size
          show _ ≤ (w1.alloc _).heap.size
          simp; omega
        go_region_law
          ((refine stepApp_row (by rfl) _ _ 85 (by rfl) w0.heap.size 9 i0 (.string ⟨#[]⟩) 1 16 Tryz.underlying85 HI.out HZ0.out HZ1.out HZ2.out rfl (by decide) (.slice ps acc.length cs) acc.length (strVs acc) (by rfl) HORA.out ⟨w1.heap.size, 0, none⟩ 1 1 [.string v] (by rfl) rfl (new_str w1 [.string v] 9) (one_str v) (by unfold maxLen; omega) (by omega) hbase ?_
            intro v' w2 hown hgrow _ hpl
            obtain ⟨p2, c2, rfl⟩ := own_slice1 hown
            have hgr := grow_rest hgrow HOR1.out HBL1.out HBT1.out HOM1.out
            have hk1 : w2.cell? ⟨bl', 0, none⟩ = some (.slice ps acc.length cs) := by rw [Lib.cell_of_heap hgr.1]; rfl
            have hfz : w2.frozen? ⟨bl', 0, none⟩ = false := Lib.frozen_of_heap hgr.1 0
            have HMR := Lib.hid (mid_rest HV1.out hgrow HOR1.out HBL1.out HBT1.out HOM1.out hown hc1 ha)
            clear hgr hown hgrow hpl))
        all_goals
          obtain ⟨w3, hw3⟩ : ∃ w3, w3 = w2.setCell ⟨bl', 0, none⟩ (.slice p2 (acc.length + 1) c2) := ⟨_, rfl⟩
          rw [← hw3] at HMR ⊢
          clear hw3 hk1 hfz
          obtain ⟨hb3, hl3, ht3, hm3, hr3, hc3, hne1, hne2⟩ := HMR.out
          have y0 : w3.cell? ⟨bl', 0, none⟩ = some (.slice p2 (acc.length + 1) c2) := by rw [Lib.cell_of_heap hl3]; rfl
          have y1 : w3.cell? ⟨bt, 0, none⟩ = some (.map (some bm)) := by rw [Lib.cell_of_heap ht3]; rfl
          have HL3 := Lib.hid hl3; clear hl3
          have HT3 := Lib.hid ht3; clear ht3
          have HM3 := Lib.hid hm3; clear hm3
          have HR3 := Lib.hid hr3; clear hr3
          have HB3 := Lib.hid hb3; clear hb3
          clear hc1 cl1 n1 n2 HMR
          have HKEY := Lib.hid (WideMaps.keyOf_string_mk (P := Tryz.prog) Tryz.underlying9 hv)
          go_wp2_with fail
          go_still_tail 7, (by kernel_rfl)
          change wpList _ _ _ _ _ w3.drew
          have HMd := Lib.hid (show w3.drew.ownsMap Tryz.prog 9 (plainElem Tryz.prog 3) bm acc.length D from HM3.out)
          refine wpList_mapUpdate_own _ rfl _ _ _ 61 rfl 9 3 law_str Tryz.underlying61 _ bm acc.length _ rfl HMd.out (by unfold maxLen; omega) _ _ _ rfl rfl HKEY.out (.lit (.int .i64 ((acc.length : Int) + 1))) [] (plainElem_int Tryz.underlying3 (WalkArith.wf_i64 (by omega))) ?_
          intro w4 hom4 hgrow4
          have HF := Lib.hid (fin_rest HV.out.bt_ HV.out.bl_ hBm HB3.out HL3.out HT3.out HM3.out HR3.out hne1 hne2 HTD.out hom4 hgrow4)
          clear hom4 hgrow4 y0 y1
          go_wp2_with fail
          go_end0
          exact ⟨rfl, by rw [HA.out]; exact HF.out⟩
      · have HA := Lib.hid (show addV acc ⟨v, tx⟩ = acc by unfold addV; rw [if_neg]; simp only [newV, hq]; simp)
        rw [hq] at hcd
        clear hq h95
        go_enter Tryz.func108, Tryz.ntmps108
        go_wp2_with fail
        go_quiet (fail)
        go_wp2_with fail
        refine bodyPost_ret (results_none rfl _ _ _) rfl ?_
        exact ⟨rfl, by rw [HA.out]; exact HV.out.drewN _⟩
end Go.Proofs.YtafjjececdhmjaaGreat
