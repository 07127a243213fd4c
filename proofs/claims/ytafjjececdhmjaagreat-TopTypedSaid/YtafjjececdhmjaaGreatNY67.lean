/- The reference's Match: the binds that it answers. Conditions: the atom and the fact lie in memory as they are told. -/
import Derived.Test.YtafjjececdhmjaaGreatNKx
import Derived.BigQuiet
import Derived.Deep.AppendLies
namespace Go.Proofs.YtafjjececdhmjaaGreat
open Go.RowKit

theorem infoBd : (Tryz.prog.info? 115).map (fun i => (i.zero, i.size, i.bytes)) = some (some (.agg #[.string ⟨#[]⟩, .int .i8 0, .int .i64 0, .string ⟨#[]⟩]), 4, 48) := by kernel_rfl
/-- A bind that comes of a column. -/
def BdC (ts : List Tm) (xs : List Vl) (b : Tm) : Prop := ∃ k, ∃ h : k < ts.length, ∃ h' : k < xs.length, Real ts[k] ∧ ts[k].v = b.v ∧ b.x = xs[k]
set_option maxRecDepth 100000 in
set_option maxHeartbeats 16000000 in
theorem rMatch (pr fp : ByteArray) (ts : List Tm) (xs : List Vl) (p q : Option Addr) (c d : Nat) (w : World) (hts : TmSl w (.slice p ts.length c) ts) (htr : TmsR ts) (hxs : VlSl w (.slice q xs.length d) xs) (hpr : pr.size ≤ maxLen) :
    Calls Tryz.prog 34 #[.agg #[.string pr, .slice p ts.length c], .agg #[.string fp, .slice q xs.length d]] w (MtPost pr fp ts xs w) := by
  obtain ⟨i0, hi, hzz⟩ := Option.map_eq_some_iff.1 infoBd
  simp only [Prod.mk.injEq] at hzz
  obtain ⟨hz0, hz1, hz2⟩ := hzz
  have HI := Lib.hid hi; clear hi
  have HZ0 := Lib.hid hz0; clear hz0
  have HZ1 := Lib.hid hz1; clear hz1
  have HZ2 := Lib.hid hz2; clear hz2
  obtain ⟨V, hV⟩ : ∃ V, V = (w.alloc (.cells #[.string pr, .slice p ts.length c] 26)).alloc (.cells #[.string fp, .slice q xs.length d] 104) := ⟨_, rfl⟩
  have HBV := Lib.hid (show Below w.heap.size w V by rw [hV]; exact (below_alloc _ _).trans ((below_alloc _ _).mono (by simp)))
  have HSV := Lib.hid (show V.heap.size = w.heap.size + 1 + 1 by rw [hV]; simp)
  have HB1 := Lib.hid (show V.heap[w.heap.size]? = some (.cells #[.string pr, .slice p ts.length c] 26 (0, 0)) by
    have h1 := heap_alloc_new w (.cells #[.string pr, .slice p ts.length c] 26)
    rw [hV]
    exact ((below_alloc (w.alloc _) _).block _ (by simp)).trans h1)
  have HB2 := Lib.hid (show V.heap[w.heap.size + 1]? = some (.cells #[.string fp, .slice q xs.length d] 104 (0, 0)) by rw [hV]; simpa using heap_alloc_new (w.alloc _) _)
  have hbk : w.heap.size < V.heap.size := by rw [HSV.out]; omega
  have hbs : w.heap.size + 1 < V.heap.size := by rw [HSV.out]; omega
  have HTS := Lib.hid hts; clear hts
  have HXS := Lib.hid hxs; clear hxs
  obtain ⟨R, hR⟩ : ∃ R : Ending → World → Prop, R = MtPost pr fp ts xs w := ⟨_, rfl⟩
  rw [← hR]
  have HNO := Lib.hid (show ∀ w', Below w.heap.size w w' → R (.returned (.tuple #[.slice none 0 0, .bool false])) w' by rw [hR]; exact fun _ h => MtPost.no h)
  have HEND := Lib.hid (show ∀ e w', MtPost pr fp ts xs w e w' → R e w' by rw [hR]; exact fun _ _ h => h)
  clear hR
  have HAT := Lib.hid (rAtomB pr _ ts V hpr (HTS.out.up HBV.out) htr)
  obtain ⟨ok, hok⟩ : ∃ ok, ok = atOk pr ts := ⟨_, rfl⟩
  rw [← hok] at HAT
  have HOK := Lib.hid hok; clear hok htr hpr
  obtain ⟨x0, x1⟩ := two HB1.out
  rw [hV] at x0 x1
  go_enter Tryz.func34, Tryz.ntmps34
  go_wp2_with fail
  rw [← hV]
  clear hV x0 x1
  refine HAT.out.mono ?_
  rintro e w1 ⟨rfl, hb1⟩
  have Hb1 := Lib.hid (show Below V.heap.size V w1 from hb1); clear hb1 HAT
  have Hw1 := Lib.hid (HBV.out.trans (Hb1.out.mono HBV.out.size))
  obtain ⟨x0, x1⟩ := two ((Hb1.out.block w.heap.size hbk).trans HB1.out)
  obtain ⟨y0, y1⟩ := two ((Hb1.out.block (w.heap.size + 1) hbs).trans HB2.out)
  cases ok
  case false =>
    go_wp2_with fail
    exact HNO.out _ Hw1.out
  case true =>
    by_cases hpf : pr = fp
    · subst hpf
      by_cases hlen : ts.length = xs.length
      · have HLE := Lib.hid hlen
        have h24 : ts.length ≤ 24 := by
          have h1 := HOK.out.symm
          unfold atOk at h1
          simp only [Bool.and_eq_true, decide_eq_true_eq, Bool.not_eq_true'] at h1
          exact h1.1.2
        rw [← hlen] at y1
        have HB2' := Lib.hid (show V.heap[w.heap.size + 1]? = some (.cells #[.string pr, .slice q ts.length d] 104 (0, 0)) by rw [hlen]; exact HB2.out)
        clear HB2
        rw [← hlen]
        obtain ⟨q', d', hsx, _, hxa⟩ := HXS.out
        obtain ⟨rfl, rfl⟩ : q = q' ∧ d = d' := by simpa using hsx
        have HXA := Lib.hid hxa; clear hxa hsx HXS
        obtain ⟨p', c', hst, _, hta⟩ := HTS.out
        obtain ⟨rfl, rfl⟩ : p = p' ∧ c = c' := by simpa using hst
        have HTA := Lib.hid hta; clear hta hst
        clear hlen
        go_wp2_with fail
        refine (rAtomVars pr ts p c w1 (HTS.out.up Hw1.out) (by omega)).mono ?_
        rintro e w2 ⟨pv, cv, rfl, hb2, hss⟩
        have Hb2 := Lib.hid (Hb1.out.trans (hb2.mono Hb1.out.size)); clear hb2 x0 x1 y0 y1 Hb1 Hw1
        have HSS := Lib.hid hss; clear hss
        have HVM := Lib.hid (show ∀ v ∈ varsL ts, ∃ k, ∃ h : k < ts.length, bl ts[k].v = v ∧ Real ts[k] from fun v hv => vars_mem hv)
        have hvl : (varsL ts).length ≤ 24 := by
          have h1 := vars_len ts []
          simp only [List.length_nil] at h1
          have h2 : (varsL ts).length ≤ 0 + ts.length := h1
          omega
        obtain ⟨vs, hvs⟩ : ∃ vs, vs = varsL ts := ⟨_, rfl⟩
        rw [← hvs] at HSS HVM hvl ⊢
        clear hvs
        go_wp2_with fail
        go_loopw [6, 8, 9] (fun vo i _ wr => ∃ (j : Nat) (bs : List Tm), j ≤ vs.length ∧ i = .int .i64 j ∧ bs.length = j ∧ wr.ownsRow w2.heap.size 115 4 vo j (bs.flatMap Tm.cells) ∧ (∀ b ∈ bs, BdC ts xs b) ∧ Below w2.heap.size w2 wr) (fun _ i _ _ => vs.length - (intOf i).toNat)
        case atStart => exact ⟨0, [], by omega, rfl, rfl, ownR_nil _ _ _ _, fun b hb => by simp at hb, Below.refl _ _⟩
        case round =>
          rename Value => vo
          rename World => wr
          obtain ⟨j, bs, hj, rfl, hbl, hrow, hall, hb⟩ := hrel
          have HR := Lib.hid hrow; clear hrow
          have HALL := Lib.hid hall; clear hall
          have Hb := Lib.hid hb; clear hb
          obtain ⟨po, co, rfl⟩ := ownR_slice HR.out
          by_cases hlt : j < vs.length
          · rcases HSS.out with hx | ⟨a2, o2, rfl, _, ha2, hs2⟩
            · omega
            obtain ⟨K, hK, hKv, hKr⟩ := HVM.out _ (List.getElem_mem hlt)
            rcases HTA.out with hx | ⟨a, o, rfl, hta⟩
            · omega
            rcases HXA.out with hx | ⟨a3, o3, rfl, hxa⟩
            · exfalso; have := HLE.out; omega
            have k0 := hs2 j hlt
            clear hs2
            obtain ⟨nm, hnm⟩ : ∃ nm : ByteArray, nm = ⟨vs[j].toArray⟩ := ⟨_, rfl⟩
            have HKV := Lib.hid (show ts[K].v = nm by rw [hnm]; exact bl_inj (by rw [hKv]))
            have HKR := Lib.hid (show ∀ t : Tm, t.v = nm → Real t from fun t ht => by
              have h1 := HKV.out
              unfold Real at hKr ⊢
              rw [ht, ← h1]
              exact hKr)
            rw [← hnm] at k0
            clear hnm hKv hKr
            have hwb := HBV.out.trans (Hb2.out.mono HBV.out.size)
            have HUP := Lib.hid (show ∀ w', Below w2.heap.size w2 w' → w'.cell? ⟨w.heap.size, 1, none⟩ = some (.slice (some ⟨a, o, none⟩) ts.length c) ∧ w'.cell? ⟨w.heap.size + 1, 1, none⟩ = some (.slice (some ⟨a3, o3, none⟩) ts.length d) ∧ w'.cell? ⟨a2, o2 + j, none⟩ = some (.string nm) from fun w' h =>
              have h2 := Hb2.out.trans (h.mono Hb2.out.size)
              ⟨(two ((h2.block w.heap.size hbk).trans HB1.out)).2, (two ((h2.block (w.heap.size + 1) hbs).trans HB2'.out)).2, (h.cell (p := ⟨a2, o2 + j, none⟩) ha2).trans k0⟩)
            clear k0
            have hk0 : (0 : Int) ≤ (j : Int) := by omega
            have hki : (j : Int) < (vs.length : Int) := by omega
            go_wp2_with fail
            go_loopw [9] (fun i wi => ∃ k : Nat, k ≤ K ∧ i = .int .i64 k ∧ Below wr.heap.size wr wi) (fun i _ => K - (intOf i).toNat)
            case atStart => exact ⟨0, by omega, rfl, Below.refl _ _⟩
            case round =>
              obtain ⟨k, hk, rfl, hbi⟩ := hrel
              have HW := Lib.hid hbi; clear hbi
              rename World => wi
              have Hwi := Lib.hid (Hb.out.trans (HW.out.mono Hb.out.size))
              have hkt : k < ts.length := by omega
              have hkx : k < xs.length := by rw [← HLE.out]; exact hkt
              obtain ⟨u0, u1, u2⟩ := HUP.out wi Hwi.out
              have hck := (hta.at_ k hkt).up (hwb.trans (Hwi.out.mono hwb.size)) hta.lt
              have hcx := (hxa.at_ k hkx).up (hwb.trans (Hwi.out.mono hwb.size)) hxa.lt
              obtain ⟨c0, _, _, _⟩ := hck
              have HNEQ := Lib.hid (show ts[k].v ≠ nm → k + 1 ≤ K from fun h => by
                by_cases e : k = K
                · subst e; exact absurd HKV.out h
                · omega)
              have HBD := Lib.hid (show ts[k].v = nm → BdC ts xs ⟨nm, xs[k]⟩ from fun h => ⟨k, hkt, hkx, HKR.out _ h, h, rfl⟩)
              obtain ⟨t, ht⟩ : ∃ t, t = ts[k].v := ⟨_, rfl⟩
              obtain ⟨y, hy⟩ : ∃ y, y = xs[k] := ⟨_, rfl⟩
              rw [← ht] at c0 HNEQ HBD
              rw [← hy] at hcx HBD
              clear ht hy
              obtain ⟨yk, yn, yt⟩ := y
              obtain ⟨e0, e1, e2⟩ := hcx
              simp only at e0 e1 e2
              have hi0 : (0 : Int) ≤ (k : Int) := by omega
              have hi1 : (k : Int) < (ts.length : Int) := by omega
              by_cases he : t = nm
              · have HB3 := Lib.hid (HBD.out he)
                subst he
                go_wp2_with fail
                go_quiet (fail)
                go_wp2_with fail
                have HBU := Lib.hid (below_drewN Hwi.out nq)
                have HRU := Lib.hid (ownR_up HR.out (below_drewN HW.out nq))
                have HKK := Lib.hid (show ∀ w', Below w2.heap.size (wi.drewN nq) w' → w'.cell? ⟨a2, o2 + j, none⟩ = some (.string t) ∧ w'.cell? ⟨w.heap.size + 1, 1, none⟩ = some (.slice (some ⟨a3, o3, none⟩) ts.length d) ∧ w'.cell? ⟨a3, o3 + k * 3, none⟩ = some (.int .i8 yk) ∧ w'.cell? ⟨a3, o3 + k * 3 + 1, none⟩ = some (.int .i64 yn) ∧ w'.cell? ⟨a3, o3 + k * 3 + 2, none⟩ = some (.string yt) from fun w' h =>
                  have h3 := HBU.out.trans h
                  have h4 := HUP.out w' h3
                  have ha3 : a3 < w2.heap.size := Nat.lt_of_lt_of_le hxa.lt hwb.size
                  ⟨h4.2.2, h4.2.1, (h.cell (p := ⟨a3, o3 + k * 3, none⟩) ha3).trans e0, (h.cell (p := ⟨a3, o3 + k * 3 + 1, none⟩) ha3).trans e1, (h.cell (p := ⟨a3, o3 + k * 3 + 2, none⟩) ha3).trans e2⟩)
                have hus : w2.heap.size ≤ (wi.drewN nq).heap.size := HBU.out.size
                obtain ⟨U, hU⟩ : ∃ U, U = wi.drewN nq := ⟨_, rfl⟩
                rw [← hU] at HBU HRU HKK hus ⊢
                clear hU u0 u1 u2 c0 e0 e1 e2
                have HRUD := Lib.hid (show ∀ o, ((U.alloc o).drew).ownsRow w2.heap.size 115 4 (.slice po j co) j (bs.flatMap Tm.cells) from fun o => ownR_alloc HRU.out o)
                have Hc := Lib.hid ((Below.refl w2.heap.size U).drew)
                go_region_held3 (fun w' => w'.cell? ⟨a2, o2 + j, none⟩ = some (.string t) ∧ w'.cell? ⟨w.heap.size + 1, 1, none⟩ = some (.slice (some ⟨a3, o3, none⟩) ts.length d) ∧ w'.cell? ⟨a3, o3 + k * 3, none⟩ = some (.int .i8 yk) ∧ w'.cell? ⟨a3, o3 + k * 3 + 1, none⟩ = some (.int .i64 yn) ∧ w'.cell? ⟨a3, o3 + k * 3 + 2, none⟩ = some (.string yt))
                  (first
                    | (refine HKK.out _ ?_
                       repeat (with_reducible first | exact Hc.out | exact Hd.out | exact Below.refl _ _ | refine Below.drew ?_ | refine Below.alloc ?_ ?_ _)
                       all_goals (with_reducible exact hus)))
                  (first
                    | (refine step_append_lies _ (by rfl) _ _ _ (by rfl) w2.heap.size 115 i0 _ 4 48 Tryz.underlying56 HI.out HZ0.out HZ1.out HZ2.out rfl (by decide) (.slice po j co) j _ (by rfl) (HRUD.out _) ⟨U.heap.size, 0, none⟩ 1 1 [.string t, .int .i8 yk, .int .i64 yn, .string yt] (by rfl) (by rfl) (World.news_of_block (cs := #[.string t, .int .i8 yk, .int .i64 yn, .string yt]) (t := 115) (fr := (0, 0)) (show ((U.alloc _).drew).heap[U.heap.size]? = _ from heap_alloc_new U _)) (by simp [Value.oneCell']) (by omega) (by unfold maxLen; omega) (by omega) (show w2.heap.size ≤ (U.alloc _).heap.size by simp; omega) (U.heap.size + 1) (show (U.alloc _).heap.size = U.heap.size + 1 by simp) ?_
                       intro g cap w4 hown2 hgrow hat hlt2
                       have hg2 : (U.alloc (.cells #[.string t, .int .i8 yk, .int .i64 yn, .string yt] 115)).grownBy w4 (Value.slice po j co).ownBlock := ⟨hgrow.os, hgrow.tape, hgrow.output, hgrow.size, hgrow.block⟩
                       have Hd := Lib.hid (show Below w2.heap.size U w4 from ap_below (Below.refl _ _) hus HRU.out hg2)
                       have HF := Lib.hid (show w4.ownsRow w2.heap.size 115 4 (.slice (some ⟨g, 0, none⟩) (j + 1) cap) (j + 1) ((bs ++ [(⟨t, ⟨yk, yn, yt⟩⟩ : Tm)]).flatMap Tm.cells) by
                         rw [List.flatMap_append, List.flatMap_cons, List.flatMap_nil, List.append_nil]
                         exact hown2)
                       clear hat hgrow hg2 hown2))
                all_goals
                  go_wp2_with fail
                  go_roundw
                  case rel => exact ⟨j + 1, _, by omega, by go_num, by simp [hbl], HF.out, fun b hb => by
                    rcases List.mem_append.1 hb with h5 | h5
                    · exact HALL.out b h5
                    · rw [List.mem_singleton.1 h5]; exact HB3.out, HBU.out.trans Hd.out⟩
                  case measure => simp [intOf]; omega
              · have hK1 := HNEQ.out he
                have q1 := toList_ne he
                have q2 : (t.toList != nm.toList) = true := by simp [bne, q1]
                clear he
                go_wp2_with fail
                go_quiet (fail)
                go_wp2_with fail
                go_roundw
                case rel => exact ⟨k + 1, hK1, by go_num, below_drewN HW.out _⟩
                case measure => simp [intOf]; omega
          · --S17 (fun w' => w'.cell? ⟨w.heap.size + 1, 1, none⟩ = some (.slice (some ⟨a3, o3, none⟩) ts.length d) ∧ w'.cell? ⟨a3, o3 + k * 3, none⟩ = some (.int .i8 yk) ∧ w'.cell? ⟨a3, o3 + k * 3 + 1, none⟩ = some (.int .i64 yn) ∧ w'.cell? ⟨a3, o3 + k * 3 + 2, none⟩ = some (.string yt) ∧ w'.cell? ⟨wm.heap.size, 0, none⟩ = some (.string tv) ∧ w'.cell? ⟨w5.heap.size, 0, none⟩ = some (.int .i8 xk) ∧ w'.cell? ⟨w5.heap.size, 1, none⟩ = some (.int .i64 xn) ∧ w'.cell? ⟨w5.heap.size, 2, none⟩ = some (.string xt))
            obtain rfl : j = vs.length := by omega
            have hwr2 := Hb2.out.trans (Hb.out.mono Hb2.out.size)
            have hwr := HBV.out.trans (hwr2.mono HBV.out.size)
            have HLS := Lib.hid (show LsAt wr po bs by
              have h1 := HR.out
              rw [← hbl] at h1
              exact bds_row h1)
            have HOB := Lib.hid (show ∀ g, (Value.slice po vs.length co).ownBlock = some g → w.heap.size ≤ g from fun g hg => by
              have := (ownR_lt HR.out hg).1
              have := Hb2.out.size
              have := HBV.out.size
              omega)
            have HEND2 := Lib.hid (show ∀ w', Below wr.heap.size wr w' → R (.returned (.tuple #[.slice po vs.length co, .bool true])) w' from fun w' h =>
              HEND.out _ _ ⟨po, co, bs, true, by rw [hbl], hwr.trans (h.mono hwr.size), by omega, HLS.out.up h, by rw [hbl]; exact HOB.out, fun _ => ⟨HOK.out.symm, rfl, HLE.out, HALL.out⟩⟩)
            have HN2 := Lib.hid (show ∀ w', Below wr.heap.size wr w' → R (.returned (.tuple #[.slice none 0 0, .bool false])) w' from fun w' h => HNO.out _ (hwr.trans (h.mono hwr.size)))
            have hb16 : bs.length ≤ 10000 := by omega
            go_wp2_with fail
            go_loopw [10, 11, 12, 13] (fun i _ _ _ wm => ∃ k : Nat, k ≤ ts.length ∧ i = .int .i64 k ∧ Below wr.heap.size wr wm) (fun i _ _ _ _ => ts.length - (intOf i).toNat)
            case atStart => exact ⟨0, by omega, rfl, Below.refl _ _⟩
            case round =>
              obtain ⟨k, hk, rfl, hbm⟩ := hrel
              have HM := Lib.hid hbm; clear hbm
              rename World => wm
              have hwm := hwr2.trans (HM.out.mono hwr2.size)
              have u1 := (two ((hwm.block w.heap.size hbk).trans HB1.out)).2
              have u2 := (two ((hwm.block (w.heap.size + 1) hbs).trans HB2'.out)).2
              by_cases hlt2 : k < ts.length
              · rcases HTA.out with hx | ⟨a, o, rfl, hta⟩
                · omega
                rcases HXA.out with hx | ⟨a3, o3, rfl, hxa⟩
                · exfalso; have := HLE.out; omega
                have hkx : k < xs.length := by rw [← HLE.out]; exact hlt2
                have hww := hwr.trans (HM.out.mono hwr.size)
                have hck := (hta.at_ k hlt2).up hww hta.lt
                have hcx := (hxa.at_ k hkx).up hww hxa.lt
                have ha3 : a3 < wm.heap.size := Nat.lt_of_lt_of_le hxa.lt hww.size
                obtain ⟨t, ht⟩ : ∃ t, t = ts[k] := ⟨_, rfl⟩
                obtain ⟨y, hy⟩ : ∃ y, y = xs[k] := ⟨_, rfl⟩
                rw [← ht] at hck
                rw [← hy] at hcx
                clear ht hy hta hxa
                obtain ⟨tv, ⟨tk, tn, tt⟩⟩ := t
                obtain ⟨yk, yn, yt⟩ := y
                obtain ⟨c0, c1, c2, c3⟩ := hck
                obtain ⟨e0, e1, e2⟩ := hcx
                simp only at c0 c1 c2 c3 e0 e1 e2
                have hi0 : (0 : Int) ≤ (k : Int) := by omega
                have hi1 : (k : Int) < (ts.length : Int) := by omega
                obtain ⟨U1, hU1⟩ : ∃ U, U = wm.alloc (.cells #[.string tv, .int .i8 tk, .int .i64 tn, .string tt] 93) := ⟨_, rfl⟩
                have HU1 := Lib.hid (show Below wm.heap.size wm U1 by rw [hU1]; exact below_alloc _ _)
                have HT1 := Lib.hid (show U1.heap[wm.heap.size]? = some (.cells #[.string tv, .int .i8 tk, .int .i64 tn, .string tt] 93 (0, 0)) by rw [hU1]; exact heap_alloc_new wm _)
                have hb1 : wm.heap.size < U1.heap.size := (Array.getElem?_eq_some_iff.1 HT1.out).1
                have HBD := Lib.hid (show Calls Tryz.prog 62 #[.slice po vs.length co, .agg #[.string tv, .int .i8 tk, .int .i64 tn, .string tt]] U1 _ by
                  rw [← hbl]
                  exact rBound bs po co tv tk tn tt U1 (HLS.out.up (HM.out.trans (HU1.out.mono HM.out.size))) hb16)
                obtain ⟨⟨xk, xn, xt⟩, hx⟩ : ∃ x, x = (bdV bs ⟨tv, ⟨tk, tn, tt⟩⟩).1 := ⟨_, rfl⟩
                obtain ⟨B, hB⟩ : ∃ b, b = (bdV bs ⟨tv, ⟨tk, tn, tt⟩⟩).2 := ⟨_, rfl⟩
                rw [← hx, ← hB] at HBD
                clear hx hB
                have HBD := Lib.hid (show Calls Tryz.prog 62 #[.slice po vs.length co, .agg #[.string tv, .int .i8 tk, .int .i64 tn, .string tt]] U1 fun e w' => e = .returned (.tuple #[.agg #[.int .i8 xk, .int .i64 xn, .string xt], .bool B]) ∧ Below U1.heap.size U1 w' from HBD.out)
                obtain ⟨t0, t1, t2, t3⟩ := four HT1.out
                rw [hU1] at t0 t1 t2 t3
                go_wp2_with fail
                rw [← hU1]
                clear hU1 t0 t1 t2 t3
                refine HBD.out.mono ?_
                rintro e w5 ⟨rfl, hb5⟩
                obtain ⟨U2, hU2⟩ : ∃ U, U = w5.alloc (.cells #[.int .i8 xk, .int .i64 xn, .string xt] 91) := ⟨_, rfl⟩
                have HU2 := Lib.hid (show Below w5.heap.size w5 U2 by rw [hU2]; exact below_alloc _ _)
                have HT2 := Lib.hid (show U2.heap[w5.heap.size]? = some (.cells #[.int .i8 xk, .int .i64 xn, .string xt] 91 (0, 0)) by rw [hU2]; exact heap_alloc_new w5 _)
                have hb6 : w5.heap.size < U2.heap.size := (Array.getElem?_eq_some_iff.1 HT2.out).1
                have h15 := HU1.out.trans ((hb5.trans (HU2.out.mono hb5.size)).mono HU1.out.size)
                have hsz5 := hb5.size
                have HS17 := Lib.hid (show ∀ w', Below U2.heap.size U2 w' → (fun w' => w'.cell? ⟨w.heap.size + 1, 1, none⟩ = some (.slice (some ⟨a3, o3, none⟩) ts.length d) ∧ w'.cell? ⟨a3, o3 + k * 3, none⟩ = some (.int .i8 yk) ∧ w'.cell? ⟨a3, o3 + k * 3 + 1, none⟩ = some (.int .i64 yn) ∧ w'.cell? ⟨a3, o3 + k * 3 + 2, none⟩ = some (.string yt) ∧ w'.cell? ⟨wm.heap.size, 0, none⟩ = some (.string tv) ∧ w'.cell? ⟨w5.heap.size, 0, none⟩ = some (.int .i8 xk) ∧ w'.cell? ⟨w5.heap.size, 1, none⟩ = some (.int .i64 xn) ∧ w'.cell? ⟨w5.heap.size, 2, none⟩ = some (.string xt)) w' from fun w' h => by
                  have h2 := h15.trans (h.mono h15.size)
                  have h3 := threeV ((h.block w5.heap.size hb6).trans HT2.out)
                  have h4 := ((h.mono (Nat.le_of_lt hb6)).block wm.heap.size (by omega)).trans ((HU2.out.block wm.heap.size (by omega)).trans ((hb5.block wm.heap.size hb1).trans HT1.out))
                  have hlw : w.heap.size + 1 < wm.heap.size := by have := hwm.size; omega
                  exact ⟨(h2.cell (p := ⟨w.heap.size + 1, 1, none⟩) hlw).trans u2, (h2.cell (p := ⟨a3, o3 + k * 3, none⟩) ha3).trans e0, (h2.cell (p := ⟨a3, o3 + k * 3 + 1, none⟩) ha3).trans e1, (h2.cell (p := ⟨a3, o3 + k * 3 + 2, none⟩) ha3).trans e2, (four h4).1, h3.1, h3.2.1, h3.2.2⟩)
                have HM2 := Lib.hid (HM.out.trans (h15.mono HM.out.size))
                have hsm2 := HM2.out.size
                clear hb5 h15 HBD u1 u2 c0 c1 c2 c3 e0 e1 e2
                go_wp2_with fail
                rw [← hU2]
                clear hU2
                have HCK := Lib.hid (fun V' => rCheck yk yn yt V')
                rcases hv : vlOk ⟨yk, yn, yt⟩ with _ | _
                · have HCH := Lib.hid (show ∀ V' : World, Calls Tryz.prog 63 #[.agg #[.int .i8 yk, .int .i64 yn, .string yt]] V' fun e w' => e = .returned (.int .i64 10) ∧ Below V'.heap.size V' w' from fun V' => by
                    have h9 := HCK.out V'
                    rw [hv] at h9
                    exact h9)
                  clear hv
                  refine wp_region_noPanic ?_
                  refine wp_region_held_drew (S := (fun w' => w'.cell? ⟨w.heap.size + 1, 1, none⟩ = some (.slice (some ⟨a3, o3, none⟩) ts.length d) ∧ w'.cell? ⟨a3, o3 + k * 3, none⟩ = some (.int .i8 yk) ∧ w'.cell? ⟨a3, o3 + k * 3 + 1, none⟩ = some (.int .i64 yn) ∧ w'.cell? ⟨a3, o3 + k * 3 + 2, none⟩ = some (.string yt) ∧ w'.cell? ⟨wm.heap.size, 0, none⟩ = some (.string tv) ∧ w'.cell? ⟨w5.heap.size, 0, none⟩ = some (.int .i8 xk) ∧ w'.cell? ⟨w5.heap.size, 1, none⟩ = some (.int .i64 xn) ∧ w'.cell? ⟨w5.heap.size, 2, none⟩ = some (.string xt))) (by kernel_rfl) ?_ (fun hHeld => ?_)
                  · exact HS17.out _ (Below.refl _ _).drew
                  refine wpAnyH_take (i := 0) (oi := _) (v := ?_) (by simp only [List.getElem?_toArray, List.getElem?_cons_zero]; rfl) (by kernel_rfl) (by kernel_rfl) (by kernel_rfl) (fun _ _ _ h => h) (Or.inl ⟨by rfl, ?_⟩) (by assumption) ?_
                  rotate_left
                  · (intro w' hSw; (try dsimp only at hSw); go_simp; (try with_reducible rfl))
                  (try simp only [Act.put, List.setIfInBounds_toArray, List.set_cons_zero, List.set_cons_succ])
                  refine wpAnyH_take (i := 1) (oi := _) (v := ?_) (by simp only [List.getElem?_toArray, List.getElem?_cons_succ, List.getElem?_cons_zero]; rfl) (by kernel_rfl) (by kernel_rfl) (by kernel_rfl) (fun _ _ _ h => h) (Or.inl ⟨by rfl, ?_⟩) (by assumption) ?_
                  rotate_left
                  · (intro w' hSw; (try dsimp only at hSw); go_simp; (try with_reducible rfl))
                  (try simp only [Act.put, List.setIfInBounds_toArray, List.set_cons_zero, List.set_cons_succ])
                  refine wpAnyH_take (i := 2) (oi := _) (v := ?_) (by simp only [List.getElem?_toArray, List.getElem?_cons_succ, List.getElem?_cons_zero]; rfl) (by kernel_rfl) (by kernel_rfl) (by kernel_rfl) (fun _ _ _ h => h) (Or.inl ⟨by rfl, ?_⟩) (by assumption) ?_
                  rotate_left
                  · (intro w' hSw; (try dsimp only at hSw); go_simp; (try with_reducible rfl))
                  (try simp only [Act.put, List.setIfInBounds_toArray, List.set_cons_zero, List.set_cons_succ])
                  refine wpAnyH_take (i := 3) (oi := _) (v := ?_) (by simp only [List.getElem?_toArray, List.getElem?_cons_succ, List.getElem?_cons_zero]; rfl) (by kernel_rfl) (by kernel_rfl) (by kernel_rfl) (fun _ _ _ h => h) (Or.inl ⟨by rfl, ?_⟩) (by assumption) ?_
                  rotate_left
                  · (intro w' hSw; (try dsimp only at hSw); go_simp; (try with_reducible rfl))
                  (try simp only [Act.put, List.setIfInBounds_toArray, List.set_cons_zero, List.set_cons_succ])
                  refine wpAnyH_take (i := 4) (oi := _) (v := ?_) (by simp only [List.getElem?_toArray, List.getElem?_cons_succ, List.getElem?_cons_zero]; rfl) (by kernel_rfl) (by kernel_rfl) (by kernel_rfl) (fun _ _ _ h => h) (Or.inl ⟨by rfl, ?_⟩) (by assumption) ?_
                  rotate_left
                  · (intro w' hSw; (try dsimp only at hSw); go_simp; (try with_reducible rfl))
                  (try simp only [Act.put, List.setIfInBounds_toArray, List.set_cons_zero, List.set_cons_succ])
                  refine wpAnyH_ready (rs := [5]) (by kernel_rfl) (by simp) ?_
                  refine AllReadyH.cons (o := _) (by simp only [List.getElem?_toArray, List.getElem?_cons_succ, List.getElem?_cons_zero]; rfl) (fun K hK => ?_) ?_
                  · go_simp
                    go_at_call 63
                    refine (HCH.out _).mono ?_
                    rintro r w7 ⟨rfl, hb7⟩
                    have H7 := Lib.hid (show Below U2.heap.size U2 w7 from ⟨hb7.os, hb7.tape, hb7.output, hb7.size, hb7.block⟩)
                    clear hb7
                    (try go_wp2_with fail)
                    refine hK.out _ _ ?_ (fun hHeld => ?_)
                    · exact HS17.out _ H7.out
                    clear hK K
                    (try simp only [Act.put, List.setIfInBounds_toArray, List.set_cons_zero, List.set_cons_succ])
                    refine wpAnyH_take (i := 6) (oi := _) (v := ?_) (by simp only [List.getElem?_toArray, List.getElem?_cons_succ, List.getElem?_cons_zero]; rfl) (by kernel_rfl) (by kernel_rfl) (by kernel_rfl) (fun _ _ _ h => h) (Or.inl ⟨by rfl, ?_⟩) (by assumption) ?_
                    rotate_left
                    · (intro w' hSw; (try dsimp only at hSw); go_simp; (try with_reducible rfl))
                    (try simp only [Act.put, List.setIfInBounds_toArray, List.set_cons_zero, List.set_cons_succ])
                    refine wpAnyH_take (i := 7) (oi := _) (v := ?_) (by simp only [List.getElem?_toArray, List.getElem?_cons_succ, List.getElem?_cons_zero]; rfl) (by kernel_rfl) (by kernel_rfl) (by kernel_rfl) (fun _ _ _ h => h) (Or.inl ⟨by rfl, ?_⟩) (by assumption) ?_
                    rotate_left
                    · (intro w' hSw; (try dsimp only at hSw); go_simp; (try with_reducible rfl))
                    (try simp only [Act.put, List.setIfInBounds_toArray, List.set_cons_zero, List.set_cons_succ])
                    refine wpAnyH_take (i := 8) (oi := _) (v := _) (by simp only [List.getElem?_toArray, List.getElem?_cons_succ, List.getElem?_cons_zero]; rfl) (by kernel_rfl) (by kernel_rfl) (by kernel_rfl) (fun _ _ _ h => h) (Or.inr ⟨by rfl, rfl⟩) (by assumption) ?_
                    (try simp only [Act.put, List.setIfInBounds_toArray, List.set_cons_zero, List.set_cons_succ])
                    refine wpAnyH_take (i := 9) (oi := _) (v := _) (by simp only [List.getElem?_toArray, List.getElem?_cons_succ, List.getElem?_cons_zero]; rfl) (by kernel_rfl) (by kernel_rfl) (by kernel_rfl) (fun _ _ _ h => h) (Or.inr ⟨by rfl, rfl⟩) (by assumption) ?_
                    (try simp only [Act.put, List.setIfInBounds_toArray, List.set_cons_zero, List.set_cons_succ])
                    refine wpAnyH_take (i := 10) (oi := _) (v := _) (by simp only [List.getElem?_toArray, List.getElem?_cons_succ, List.getElem?_cons_zero]; rfl) (by kernel_rfl) (by kernel_rfl) (by kernel_rfl) (fun _ _ _ h => h) (Or.inr ⟨by rfl, rfl⟩) (by assumption) ?_
                    (try simp only [Act.put, List.setIfInBounds_toArray, List.set_cons_zero, List.set_cons_succ])
                    refine wpAnyH_take (i := 11) (oi := _) (v := _) (by simp only [List.getElem?_toArray, List.getElem?_cons_succ, List.getElem?_cons_zero]; rfl) (by kernel_rfl) (by kernel_rfl) (by kernel_rfl) (fun _ _ _ h => h) (Or.inr ⟨by rfl, rfl⟩) (by assumption) ?_
                    (try simp only [Act.put, List.setIfInBounds_toArray, List.set_cons_zero, List.set_cons_succ])
                    refine wpAnyH_take (i := 12) (oi := _) (v := _) (by simp only [List.getElem?_toArray, List.getElem?_cons_succ, List.getElem?_cons_zero]; rfl) (by kernel_rfl) (by kernel_rfl) (by kernel_rfl) (fun _ _ _ h => h) (Or.inr ⟨by rfl, rfl⟩) (by assumption) ?_
                    (try simp only [Act.put, List.setIfInBounds_toArray, List.set_cons_zero, List.set_cons_succ])
                    refine wpAnyH_take (i := 13) (oi := _) (v := _) (by simp only [List.getElem?_toArray, List.getElem?_cons_succ, List.getElem?_cons_zero]; rfl) (by kernel_rfl) (by kernel_rfl) (by kernel_rfl) (fun _ _ _ h => h) (Or.inr ⟨by rfl, rfl⟩) (by assumption) ?_
                    (try simp only [Act.put, List.setIfInBounds_toArray, List.set_cons_zero, List.set_cons_succ])
                    refine wpAnyH_take (i := 14) (oi := _) (v := _) (by simp only [List.getElem?_toArray, List.getElem?_cons_succ, List.getElem?_cons_zero]; rfl) (by kernel_rfl) (by kernel_rfl) (by kernel_rfl) (fun _ _ _ h => h) (Or.inr ⟨by rfl, rfl⟩) (by assumption) ?_
                    (try simp only [Act.put, List.setIfInBounds_toArray, List.set_cons_zero, List.set_cons_succ])
                    refine wpAnyH_take (i := 15) (oi := _) (v := _) (by simp only [List.getElem?_toArray, List.getElem?_cons_succ, List.getElem?_cons_zero]; rfl) (by kernel_rfl) (by kernel_rfl) (by kernel_rfl) (fun _ _ _ h => h) (Or.inr ⟨by rfl, rfl⟩) (by assumption) ?_
                    (try simp only [Act.put, List.setIfInBounds_toArray, List.set_cons_zero, List.set_cons_succ])
                    refine wpAnyH_take (i := 16) (oi := _) (v := _) (by simp only [List.getElem?_toArray, List.getElem?_cons_succ, List.getElem?_cons_zero]; rfl) (by kernel_rfl) (by kernel_rfl) (by kernel_rfl) (fun _ _ _ h => h) (Or.inr ⟨by rfl, rfl⟩) (by assumption) ?_
                    (try simp only [Act.put, List.setIfInBounds_toArray, List.set_cons_zero, List.set_cons_succ])
                    refine wpAnyH_take (i := 17) (oi := _) (v := _) (by simp only [List.getElem?_toArray, List.getElem?_cons_succ, List.getElem?_cons_zero]; rfl) (by kernel_rfl) (by kernel_rfl) (by kernel_rfl) (fun _ _ _ h => h) (Or.inr ⟨by rfl, rfl⟩) (by assumption) ?_
                    (try simp only [Act.put, List.setIfInBounds_toArray, List.set_cons_zero, List.set_cons_succ])
                    refine wpAnyH_take (i := 18) (oi := _) (v := _) (by simp only [List.getElem?_toArray, List.getElem?_cons_succ, List.getElem?_cons_zero]; rfl) (by kernel_rfl) (by kernel_rfl) (by kernel_rfl) (fun _ _ _ h => h) (Or.inr ⟨by rfl, rfl⟩) (by assumption) ?_
                    (try simp only [Act.put, List.setIfInBounds_toArray, List.set_cons_zero, List.set_cons_succ])
                    refine wpAnyH_take (i := 19) (oi := _) (v := _) (by simp only [List.getElem?_toArray, List.getElem?_cons_succ, List.getElem?_cons_zero]; rfl) (by kernel_rfl) (by kernel_rfl) (by kernel_rfl) (fun _ _ _ h => h) (Or.inr ⟨by rfl, rfl⟩) (by assumption) ?_
                    (try simp only [Act.put, List.setIfInBounds_toArray, List.set_cons_zero, List.set_cons_succ])
                    refine wpAnyH_take (i := 20) (oi := _) (v := ?_) (by simp only [List.getElem?_toArray, List.getElem?_cons_succ, List.getElem?_cons_zero]; rfl) (by kernel_rfl) (by kernel_rfl) (by kernel_rfl) (fun _ _ _ h => h) (Or.inl ⟨by rfl, ?_⟩) (by assumption) ?_
                    rotate_left
                    · (intro w' hSw; (try dsimp only at hSw); go_simp; (try with_reducible rfl))
                    (try simp only [Act.put, List.setIfInBounds_toArray, List.set_cons_zero, List.set_cons_succ])
                    refine wpAnyH_done (by kernel_rfl) ?_ _
                    refine NoPanic.normal ?_
                    go_wp2_with fail
                    exact HN2.out _ (HM2.out.trans (H7.out.mono hsm2))
                  exact AllReadyH.nil
                · have HCH := Lib.hid (show ∀ V' : World, Calls Tryz.prog 63 #[.agg #[.int .i8 yk, .int .i64 yn, .string yt]] V' fun e w' => e = .returned (.int .i64 0) ∧ Below V'.heap.size V' w' from fun V' => by
                    have h9 := HCK.out V'
                    rw [hv] at h9
                    exact h9)
                  clear hv
                  by_cases h95 : tv.toList = [95]
                  · have q1 : (tv.toList != [95]) = false := by simp [h95]
                    have q2 : (tv.toList == [95]) = true := by simp [h95]
                    refine wp_region_noPanic ?_
                    refine wp_region_held_drew (S := (fun w' => w'.cell? ⟨w.heap.size + 1, 1, none⟩ = some (.slice (some ⟨a3, o3, none⟩) ts.length d) ∧ w'.cell? ⟨a3, o3 + k * 3, none⟩ = some (.int .i8 yk) ∧ w'.cell? ⟨a3, o3 + k * 3 + 1, none⟩ = some (.int .i64 yn) ∧ w'.cell? ⟨a3, o3 + k * 3 + 2, none⟩ = some (.string yt) ∧ w'.cell? ⟨wm.heap.size, 0, none⟩ = some (.string tv) ∧ w'.cell? ⟨w5.heap.size, 0, none⟩ = some (.int .i8 xk) ∧ w'.cell? ⟨w5.heap.size, 1, none⟩ = some (.int .i64 xn) ∧ w'.cell? ⟨w5.heap.size, 2, none⟩ = some (.string xt))) (by kernel_rfl) ?_ (fun hHeld => ?_)
                    · exact HS17.out _ (Below.refl _ _).drew
                    refine wpAnyH_take (i := 0) (oi := _) (v := ?_) (by simp only [List.getElem?_toArray, List.getElem?_cons_zero]; rfl) (by kernel_rfl) (by kernel_rfl) (by kernel_rfl) (fun _ _ _ h => h) (Or.inl ⟨by rfl, ?_⟩) (by assumption) ?_
                    rotate_left
                    · (intro w' hSw; (try dsimp only at hSw); go_simp; (try with_reducible rfl))
                    (try simp only [Act.put, List.setIfInBounds_toArray, List.set_cons_zero, List.set_cons_succ])
                    refine wpAnyH_take (i := 1) (oi := _) (v := ?_) (by simp only [List.getElem?_toArray, List.getElem?_cons_succ, List.getElem?_cons_zero]; rfl) (by kernel_rfl) (by kernel_rfl) (by kernel_rfl) (fun _ _ _ h => h) (Or.inl ⟨by rfl, ?_⟩) (by assumption) ?_
                    rotate_left
                    · (intro w' hSw; (try dsimp only at hSw); go_simp; (try with_reducible rfl))
                    (try simp only [Act.put, List.setIfInBounds_toArray, List.set_cons_zero, List.set_cons_succ])
                    refine wpAnyH_take (i := 2) (oi := _) (v := ?_) (by simp only [List.getElem?_toArray, List.getElem?_cons_succ, List.getElem?_cons_zero]; rfl) (by kernel_rfl) (by kernel_rfl) (by kernel_rfl) (fun _ _ _ h => h) (Or.inl ⟨by rfl, ?_⟩) (by assumption) ?_
                    rotate_left
                    · (intro w' hSw; (try dsimp only at hSw); go_simp; (try with_reducible rfl))
                    (try simp only [Act.put, List.setIfInBounds_toArray, List.set_cons_zero, List.set_cons_succ])
                    refine wpAnyH_take (i := 3) (oi := _) (v := ?_) (by simp only [List.getElem?_toArray, List.getElem?_cons_succ, List.getElem?_cons_zero]; rfl) (by kernel_rfl) (by kernel_rfl) (by kernel_rfl) (fun _ _ _ h => h) (Or.inl ⟨by rfl, ?_⟩) (by assumption) ?_
                    rotate_left
                    · (intro w' hSw; (try dsimp only at hSw); go_simp; (try with_reducible rfl))
                    (try simp only [Act.put, List.setIfInBounds_toArray, List.set_cons_zero, List.set_cons_succ])
                    refine wpAnyH_take (i := 4) (oi := _) (v := ?_) (by simp only [List.getElem?_toArray, List.getElem?_cons_succ, List.getElem?_cons_zero]; rfl) (by kernel_rfl) (by kernel_rfl) (by kernel_rfl) (fun _ _ _ h => h) (Or.inl ⟨by rfl, ?_⟩) (by assumption) ?_
                    rotate_left
                    · (intro w' hSw; (try dsimp only at hSw); go_simp; (try with_reducible rfl))
                    (try simp only [Act.put, List.setIfInBounds_toArray, List.set_cons_zero, List.set_cons_succ])
                    refine wpAnyH_ready (rs := [5]) (by kernel_rfl) (by simp) ?_
                    refine AllReadyH.cons (o := _) (by simp only [List.getElem?_toArray, List.getElem?_cons_succ, List.getElem?_cons_zero]; rfl) (fun K hK => ?_) ?_
                    · go_simp
                      go_at_call 63
                      refine (HCH.out _).mono ?_
                      rintro r w7 ⟨rfl, hb7⟩
                      have H7 := Lib.hid (show Below U2.heap.size U2 w7 from ⟨hb7.os, hb7.tape, hb7.output, hb7.size, hb7.block⟩)
                      clear hb7
                      (try go_wp2_with fail)
                      refine hK.out _ _ ?_ (fun hHeld => ?_)
                      · exact HS17.out _ H7.out
                      clear hK K
                      (try simp only [Act.put, List.setIfInBounds_toArray, List.set_cons_zero, List.set_cons_succ])
                      refine wpAnyH_take (i := 6) (oi := _) (v := ?_) (by simp only [List.getElem?_toArray, List.getElem?_cons_succ, List.getElem?_cons_zero]; rfl) (by kernel_rfl) (by kernel_rfl) (by kernel_rfl) (fun _ _ _ h => h) (Or.inl ⟨by rfl, ?_⟩) (by assumption) ?_
                      rotate_left
                      · (intro w' hSw; (try dsimp only at hSw); go_simp; (try with_reducible rfl))
                      (try simp only [Act.put, List.setIfInBounds_toArray, List.set_cons_zero, List.set_cons_succ])
                      refine wpAnyH_take (i := 7) (oi := _) (v := ?_) (by simp only [List.getElem?_toArray, List.getElem?_cons_succ, List.getElem?_cons_zero]; rfl) (by kernel_rfl) (by kernel_rfl) (by kernel_rfl) (fun _ _ _ h => h) (Or.inl ⟨by rfl, ?_⟩) (by assumption) ?_
                      rotate_left
                      · (intro w' hSw; (try dsimp only at hSw); go_simp; (try with_reducible rfl))
                      (try simp only [Act.put, List.setIfInBounds_toArray, List.set_cons_zero, List.set_cons_succ])
                      refine wpAnyH_take (i := 8) (oi := _) (v := ?_) (by simp only [List.getElem?_toArray, List.getElem?_cons_succ, List.getElem?_cons_zero]; rfl) (by kernel_rfl) (by kernel_rfl) (by kernel_rfl) (fun _ _ _ h => h) (Or.inl ⟨by rfl, ?_⟩) (by assumption) ?_
                      rotate_left
                      · (intro w' hSw; (try dsimp only at hSw); go_simp; (try with_reducible rfl))
                      (try simp only [Act.put, List.setIfInBounds_toArray, List.set_cons_zero, List.set_cons_succ])
                      refine wpAnyH_take (i := 9) (oi := _) (v := ?_) (by simp only [List.getElem?_toArray, List.getElem?_cons_succ, List.getElem?_cons_zero]; rfl) (by kernel_rfl) (by kernel_rfl) (by kernel_rfl) (fun _ _ _ h => h) (Or.inl ⟨by rfl, ?_⟩) (by assumption) ?_
                      rotate_left
                      · (intro w' hSw; (try dsimp only at hSw); go_simp; (try with_reducible rfl))
                      (try simp only [Act.put, List.setIfInBounds_toArray, List.set_cons_zero, List.set_cons_succ])
                      refine wpAnyH_take (i := 10) (oi := _) (v := ?_) (by simp only [List.getElem?_toArray, List.getElem?_cons_succ, List.getElem?_cons_zero]; rfl) (by kernel_rfl) (by kernel_rfl) (by kernel_rfl) (fun _ _ _ h => h) (Or.inl ⟨by rfl, ?_⟩) (by assumption) ?_
                      rotate_left
                      · (intro w' hSw; (try dsimp only at hSw); go_simp; (try with_reducible rfl))
                      (try simp only [Act.put, List.setIfInBounds_toArray, List.set_cons_zero, List.set_cons_succ])
                      refine wpAnyH_take (i := 11) (oi := _) (v := ?_) (by simp only [List.getElem?_toArray, List.getElem?_cons_succ, List.getElem?_cons_zero]; rfl) (by kernel_rfl) (by kernel_rfl) (by kernel_rfl) (fun _ _ _ h => h) (Or.inl ⟨by rfl, ?_⟩) (by assumption) ?_
                      rotate_left
                      · (intro w' hSw; (try dsimp only at hSw); go_simp; (try with_reducible rfl))
                      (try simp only [Act.put, List.setIfInBounds_toArray, List.set_cons_zero, List.set_cons_succ])
                      refine wpAnyH_take (i := 12) (oi := _) (v := _) (by simp only [List.getElem?_toArray, List.getElem?_cons_succ, List.getElem?_cons_zero]; rfl) (by kernel_rfl) (by kernel_rfl) (by kernel_rfl) (fun _ _ _ h => h) (Or.inr ⟨by rfl, rfl⟩) (by assumption) ?_
                      (try simp only [Act.put, List.setIfInBounds_toArray, List.set_cons_zero, List.set_cons_succ])
                      refine wpAnyH_take (i := 13) (oi := _) (v := _) (by simp only [List.getElem?_toArray, List.getElem?_cons_succ, List.getElem?_cons_zero]; rfl) (by kernel_rfl) (by kernel_rfl) (by kernel_rfl) (fun _ _ _ h => h) (Or.inr ⟨by rfl, rfl⟩) (by assumption) ?_
                      (try simp only [Act.put, List.setIfInBounds_toArray, List.set_cons_zero, List.set_cons_succ])
                      refine wpAnyH_take (i := 14) (oi := _) (v := _) (by simp only [List.getElem?_toArray, List.getElem?_cons_succ, List.getElem?_cons_zero]; rfl) (by kernel_rfl) (by kernel_rfl) (by kernel_rfl) (fun _ _ _ h => h) (Or.inr ⟨by rfl, rfl⟩) (by assumption) ?_
                      (try simp only [Act.put, List.setIfInBounds_toArray, List.set_cons_zero, List.set_cons_succ])
                      refine wpAnyH_take (i := 15) (oi := _) (v := _) (by simp only [List.getElem?_toArray, List.getElem?_cons_succ, List.getElem?_cons_zero]; rfl) (by kernel_rfl) (by kernel_rfl) (by kernel_rfl) (fun _ _ _ h => h) (Or.inr ⟨by rfl, rfl⟩) (by assumption) ?_
                      (try simp only [Act.put, List.setIfInBounds_toArray, List.set_cons_zero, List.set_cons_succ])
                      refine wpAnyH_take (i := 16) (oi := _) (v := _) (by simp only [List.getElem?_toArray, List.getElem?_cons_succ, List.getElem?_cons_zero]; rfl) (by kernel_rfl) (by kernel_rfl) (by kernel_rfl) (fun _ _ _ h => h) (Or.inr ⟨by rfl, rfl⟩) (by assumption) ?_
                      (try simp only [Act.put, List.setIfInBounds_toArray, List.set_cons_zero, List.set_cons_succ])
                      refine wpAnyH_take (i := 17) (oi := _) (v := _) (by simp only [List.getElem?_toArray, List.getElem?_cons_succ, List.getElem?_cons_zero]; rfl) (by kernel_rfl) (by kernel_rfl) (by kernel_rfl) (fun _ _ _ h => h) (Or.inr ⟨by rfl, rfl⟩) (by assumption) ?_
                      (try simp only [Act.put, List.setIfInBounds_toArray, List.set_cons_zero, List.set_cons_succ])
                      refine wpAnyH_take (i := 18) (oi := _) (v := _) (by simp only [List.getElem?_toArray, List.getElem?_cons_succ, List.getElem?_cons_zero]; rfl) (by kernel_rfl) (by kernel_rfl) (by kernel_rfl) (fun _ _ _ h => h) (Or.inr ⟨by rfl, rfl⟩) (by assumption) ?_
                      (try simp only [Act.put, List.setIfInBounds_toArray, List.set_cons_zero, List.set_cons_succ])
                      refine wpAnyH_take (i := 19) (oi := _) (v := ?_) (by simp only [List.getElem?_toArray, List.getElem?_cons_succ, List.getElem?_cons_zero]; rfl) (by kernel_rfl) (by kernel_rfl) (by kernel_rfl) (fun _ _ _ h => h) (Or.inl ⟨by rfl, ?_⟩) (by assumption) ?_
                      rotate_left
                      · (intro w' hSw; (try dsimp only at hSw); go_simp; (try with_reducible rfl))
                      (try simp only [Act.put, List.setIfInBounds_toArray, List.set_cons_zero, List.set_cons_succ])
                      refine wpAnyH_take (i := 20) (oi := _) (v := ?_) (by simp only [List.getElem?_toArray, List.getElem?_cons_succ, List.getElem?_cons_zero]; rfl) (by kernel_rfl) (by kernel_rfl) (by kernel_rfl) (fun _ _ _ h => h) (Or.inl ⟨by rfl, ?_⟩) (by assumption) ?_
                      rotate_left
                      · (intro w' hSw; (try dsimp only at hSw); go_simp; (try with_reducible rfl))
                      (try simp only [Act.put, List.setIfInBounds_toArray, List.set_cons_zero, List.set_cons_succ])
                      refine wpAnyH_done (by kernel_rfl) ?_ _
                      refine NoPanic.normal ?_
                      go_wp2_with fail
                      go_roundw
                      case rel => exact ⟨k + 1, by omega, by go_num, HM2.out.trans (H7.out.mono hsm2)⟩
                      case measure => simp [intOf]; omega
                    exact AllReadyH.nil
                  · have q1 : (tv.toList != [95]) = true := by simpa using h95
                    have q2 : (tv.toList == [95]) = false := by simpa using h95
                    rcases hq : vlSame ⟨xk, xn, xt⟩ ⟨yk, yn, yt⟩ with _ | _
                    · have hq2 : ∀ W, _ := fun W => neq_vl ⟨xk, xn, xt⟩ ⟨yk, yn, yt⟩ false hq W
                      simp only [Bool.not_false] at hq2
                      clear hq
                      refine wp_region_noPanic ?_
                      refine wp_region_held_drew (S := (fun w' => w'.cell? ⟨w.heap.size + 1, 1, none⟩ = some (.slice (some ⟨a3, o3, none⟩) ts.length d) ∧ w'.cell? ⟨a3, o3 + k * 3, none⟩ = some (.int .i8 yk) ∧ w'.cell? ⟨a3, o3 + k * 3 + 1, none⟩ = some (.int .i64 yn) ∧ w'.cell? ⟨a3, o3 + k * 3 + 2, none⟩ = some (.string yt) ∧ w'.cell? ⟨wm.heap.size, 0, none⟩ = some (.string tv) ∧ w'.cell? ⟨w5.heap.size, 0, none⟩ = some (.int .i8 xk) ∧ w'.cell? ⟨w5.heap.size, 1, none⟩ = some (.int .i64 xn) ∧ w'.cell? ⟨w5.heap.size, 2, none⟩ = some (.string xt))) (by kernel_rfl) ?_ (fun hHeld => ?_)
                      · exact HS17.out _ (Below.refl _ _).drew
                      refine wpAnyH_take (i := 0) (oi := _) (v := ?_) (by simp only [List.getElem?_toArray, List.getElem?_cons_zero]; rfl) (by kernel_rfl) (by kernel_rfl) (by kernel_rfl) (fun _ _ _ h => h) (Or.inl ⟨by rfl, ?_⟩) (by assumption) ?_
                      rotate_left
                      · (intro w' hSw; (try dsimp only at hSw); go_simp; (try with_reducible rfl))
                      (try simp only [Act.put, List.setIfInBounds_toArray, List.set_cons_zero, List.set_cons_succ])
                      refine wpAnyH_take (i := 1) (oi := _) (v := ?_) (by simp only [List.getElem?_toArray, List.getElem?_cons_succ, List.getElem?_cons_zero]; rfl) (by kernel_rfl) (by kernel_rfl) (by kernel_rfl) (fun _ _ _ h => h) (Or.inl ⟨by rfl, ?_⟩) (by assumption) ?_
                      rotate_left
                      · (intro w' hSw; (try dsimp only at hSw); go_simp; (try with_reducible rfl))
                      (try simp only [Act.put, List.setIfInBounds_toArray, List.set_cons_zero, List.set_cons_succ])
                      refine wpAnyH_take (i := 2) (oi := _) (v := ?_) (by simp only [List.getElem?_toArray, List.getElem?_cons_succ, List.getElem?_cons_zero]; rfl) (by kernel_rfl) (by kernel_rfl) (by kernel_rfl) (fun _ _ _ h => h) (Or.inl ⟨by rfl, ?_⟩) (by assumption) ?_
                      rotate_left
                      · (intro w' hSw; (try dsimp only at hSw); go_simp; (try with_reducible rfl))
                      (try simp only [Act.put, List.setIfInBounds_toArray, List.set_cons_zero, List.set_cons_succ])
                      refine wpAnyH_take (i := 3) (oi := _) (v := ?_) (by simp only [List.getElem?_toArray, List.getElem?_cons_succ, List.getElem?_cons_zero]; rfl) (by kernel_rfl) (by kernel_rfl) (by kernel_rfl) (fun _ _ _ h => h) (Or.inl ⟨by rfl, ?_⟩) (by assumption) ?_
                      rotate_left
                      · (intro w' hSw; (try dsimp only at hSw); go_simp; (try with_reducible rfl))
                      (try simp only [Act.put, List.setIfInBounds_toArray, List.set_cons_zero, List.set_cons_succ])
                      refine wpAnyH_take (i := 4) (oi := _) (v := ?_) (by simp only [List.getElem?_toArray, List.getElem?_cons_succ, List.getElem?_cons_zero]; rfl) (by kernel_rfl) (by kernel_rfl) (by kernel_rfl) (fun _ _ _ h => h) (Or.inl ⟨by rfl, ?_⟩) (by assumption) ?_
                      rotate_left
                      · (intro w' hSw; (try dsimp only at hSw); go_simp; (try with_reducible rfl))
                      (try simp only [Act.put, List.setIfInBounds_toArray, List.set_cons_zero, List.set_cons_succ])
                      refine wpAnyH_ready (rs := [5]) (by kernel_rfl) (by simp) ?_
                      refine AllReadyH.cons (o := _) (by simp only [List.getElem?_toArray, List.getElem?_cons_succ, List.getElem?_cons_zero]; rfl) (fun K hK => ?_) ?_
                      · go_simp
                        go_at_call 63
                        refine (HCH.out _).mono ?_
                        rintro r w7 ⟨rfl, hb7⟩
                        have H7 := Lib.hid (show Below U2.heap.size U2 w7 from ⟨hb7.os, hb7.tape, hb7.output, hb7.size, hb7.block⟩)
                        clear hb7
                        (try go_wp2_with fail)
                        refine hK.out _ _ ?_ (fun hHeld => ?_)
                        · exact HS17.out _ H7.out
                        clear hK K
                        (try simp only [Act.put, List.setIfInBounds_toArray, List.set_cons_zero, List.set_cons_succ])
                        refine wpAnyH_take (i := 6) (oi := _) (v := ?_) (by simp only [List.getElem?_toArray, List.getElem?_cons_succ, List.getElem?_cons_zero]; rfl) (by kernel_rfl) (by kernel_rfl) (by kernel_rfl) (fun _ _ _ h => h) (Or.inl ⟨by rfl, ?_⟩) (by assumption) ?_
                        rotate_left
                        · (intro w' hSw; (try dsimp only at hSw); go_simp; (try with_reducible rfl))
                        (try simp only [Act.put, List.setIfInBounds_toArray, List.set_cons_zero, List.set_cons_succ])
                        refine wpAnyH_take (i := 7) (oi := _) (v := ?_) (by simp only [List.getElem?_toArray, List.getElem?_cons_succ, List.getElem?_cons_zero]; rfl) (by kernel_rfl) (by kernel_rfl) (by kernel_rfl) (fun _ _ _ h => h) (Or.inl ⟨by rfl, ?_⟩) (by assumption) ?_
                        rotate_left
                        · (intro w' hSw; (try dsimp only at hSw); go_simp; (try with_reducible rfl))
                        (try simp only [Act.put, List.setIfInBounds_toArray, List.set_cons_zero, List.set_cons_succ])
                        refine wpAnyH_take (i := 8) (oi := _) (v := ?_) (by simp only [List.getElem?_toArray, List.getElem?_cons_succ, List.getElem?_cons_zero]; rfl) (by kernel_rfl) (by kernel_rfl) (by kernel_rfl) (fun _ _ _ h => h) (Or.inl ⟨by rfl, ?_⟩) (by assumption) ?_
                        rotate_left
                        · (intro w' hSw; (try dsimp only at hSw); go_simp; (try with_reducible rfl))
                        (try simp only [Act.put, List.setIfInBounds_toArray, List.set_cons_zero, List.set_cons_succ])
                        refine wpAnyH_take (i := 9) (oi := _) (v := ?_) (by simp only [List.getElem?_toArray, List.getElem?_cons_succ, List.getElem?_cons_zero]; rfl) (by kernel_rfl) (by kernel_rfl) (by kernel_rfl) (fun _ _ _ h => h) (Or.inl ⟨by rfl, ?_⟩) (by assumption) ?_
                        rotate_left
                        · (intro w' hSw; (try dsimp only at hSw); go_simp; (try with_reducible rfl))
                        (try simp only [Act.put, List.setIfInBounds_toArray, List.set_cons_zero, List.set_cons_succ])
                        refine wpAnyH_take (i := 10) (oi := _) (v := ?_) (by simp only [List.getElem?_toArray, List.getElem?_cons_succ, List.getElem?_cons_zero]; rfl) (by kernel_rfl) (by kernel_rfl) (by kernel_rfl) (fun _ _ _ h => h) (Or.inl ⟨by rfl, ?_⟩) (by assumption) ?_
                        rotate_left
                        · (intro w' hSw; (try dsimp only at hSw); go_simp; (try with_reducible rfl))
                        (try simp only [Act.put, List.setIfInBounds_toArray, List.set_cons_zero, List.set_cons_succ])
                        refine wpAnyH_take (i := 11) (oi := _) (v := ?_) (by simp only [List.getElem?_toArray, List.getElem?_cons_succ, List.getElem?_cons_zero]; rfl) (by kernel_rfl) (by kernel_rfl) (by kernel_rfl) (fun _ _ _ h => h) (Or.inl ⟨by rfl, ?_⟩) (by assumption) ?_
                        rotate_left
                        · (intro w' hSw; (try dsimp only at hSw); go_simp; (try with_reducible rfl))
                        (try simp only [Act.put, List.setIfInBounds_toArray, List.set_cons_zero, List.set_cons_succ])
                        refine wpAnyH_take (i := 12) (oi := _) (v := ?_) (by simp only [List.getElem?_toArray, List.getElem?_cons_succ, List.getElem?_cons_zero]; rfl) (by kernel_rfl) (by kernel_rfl) (by kernel_rfl) (fun _ _ _ h => h) (Or.inl ⟨by rfl, ?_⟩) (by assumption) ?_
                        rotate_left
                        · (intro w' hSw; (try dsimp only at hSw); go_simp; (try with_reducible rfl))
                        (try simp only [Act.put, List.setIfInBounds_toArray, List.set_cons_zero, List.set_cons_succ])
                        refine wpAnyH_take (i := 13) (oi := _) (v := ?_) (by simp only [List.getElem?_toArray, List.getElem?_cons_succ, List.getElem?_cons_zero]; rfl) (by kernel_rfl) (by kernel_rfl) (by kernel_rfl) (fun _ _ _ h => h) (Or.inl ⟨by rfl, ?_⟩) (by assumption) ?_
                        rotate_left
                        · (intro w' hSw; (try dsimp only at hSw); go_simp; (try with_reducible rfl))
                        (try simp only [Act.put, List.setIfInBounds_toArray, List.set_cons_zero, List.set_cons_succ])
                        refine wpAnyH_take (i := 14) (oi := _) (v := ?_) (by simp only [List.getElem?_toArray, List.getElem?_cons_succ, List.getElem?_cons_zero]; rfl) (by kernel_rfl) (by kernel_rfl) (by kernel_rfl) (fun _ _ _ h => h) (Or.inl ⟨by rfl, ?_⟩) (by assumption) ?_
                        rotate_left
                        · (intro w' hSw; (try dsimp only at hSw); go_simp; (try with_reducible rfl))
                        (try simp only [Act.put, List.setIfInBounds_toArray, List.set_cons_zero, List.set_cons_succ])
                        refine wpAnyH_take (i := 15) (oi := _) (v := ?_) (by simp only [List.getElem?_toArray, List.getElem?_cons_succ, List.getElem?_cons_zero]; rfl) (by kernel_rfl) (by kernel_rfl) (by kernel_rfl) (fun _ _ _ h => h) (Or.inl ⟨by rfl, ?_⟩) (by assumption) ?_
                        rotate_left
                        · (intro w' hSw; (try dsimp only at hSw); go_simp; (try with_reducible rfl))
                        (try simp only [Act.put, List.setIfInBounds_toArray, List.set_cons_zero, List.set_cons_succ])
                        refine wpAnyH_take (i := 16) (oi := _) (v := ?_) (by simp only [List.getElem?_toArray, List.getElem?_cons_succ, List.getElem?_cons_zero]; rfl) (by kernel_rfl) (by kernel_rfl) (by kernel_rfl) (fun _ _ _ h => h) (Or.inl ⟨by rfl, ?_⟩) (by assumption) ?_
                        rotate_left
                        · (intro w' hSw; (try dsimp only at hSw); go_simp; (try with_reducible rfl))
                        (try simp only [Act.put, List.setIfInBounds_toArray, List.set_cons_zero, List.set_cons_succ])
                        refine wpAnyH_take (i := 17) (oi := _) (v := ?_) (by simp only [List.getElem?_toArray, List.getElem?_cons_succ, List.getElem?_cons_zero]; rfl) (by kernel_rfl) (by kernel_rfl) (by kernel_rfl) (fun _ _ _ h => h) (Or.inl ⟨by rfl, ?_⟩) (by assumption) ?_
                        rotate_left
                        · (intro w' hSw; (try dsimp only at hSw); go_simp; (try with_reducible rfl))
                        (try simp only [Act.put, List.setIfInBounds_toArray, List.set_cons_zero, List.set_cons_succ])
                        refine wpAnyH_take (i := 18) (oi := _) (v := ?_) (by simp only [List.getElem?_toArray, List.getElem?_cons_succ, List.getElem?_cons_zero]; rfl) (by kernel_rfl) (by kernel_rfl) (by kernel_rfl) (fun _ _ _ h => h) (Or.inl ⟨by rfl, ?_⟩) (by assumption) ?_
                        rotate_left
                        · (intro w' hSw; (try dsimp only at hSw); go_simp; (try with_reducible rfl))
                        (try simp only [Act.put, List.setIfInBounds_toArray, List.set_cons_zero, List.set_cons_succ])
                        refine wpAnyH_take (i := 19) (oi := _) (v := ?_) (by simp only [List.getElem?_toArray, List.getElem?_cons_succ, List.getElem?_cons_zero]; rfl) (by kernel_rfl) (by kernel_rfl) (by kernel_rfl) (fun _ _ _ h => h) (Or.inl ⟨by rfl, ?_⟩) (by assumption) ?_
                        rotate_left
                        · (intro w' hSw; (try dsimp only at hSw); go_simp; (try with_reducible rfl))
                        (try simp only [Act.put, List.setIfInBounds_toArray, List.set_cons_zero, List.set_cons_succ])
                        refine wpAnyH_take (i := 20) (oi := _) (v := ?_) (by simp only [List.getElem?_toArray, List.getElem?_cons_succ, List.getElem?_cons_zero]; rfl) (by kernel_rfl) (by kernel_rfl) (by kernel_rfl) (fun _ _ _ h => h) (Or.inl ⟨by rfl, ?_⟩) (by assumption) ?_
                        rotate_left
                        · (intro w' hSw; (try dsimp only at hSw); go_simp; (try with_reducible rfl))
                        (try simp only [Act.put, List.setIfInBounds_toArray, List.set_cons_zero, List.set_cons_succ])
                        refine wpAnyH_done (by kernel_rfl) ?_ _
                        refine NoPanic.normal ?_
                        go_wp2_with fail
                        exact HN2.out _ (HM2.out.trans (H7.out.mono hsm2))
                      exact AllReadyH.nil
                    · have hq2 : ∀ W, _ := fun W => neq_vl ⟨xk, xn, xt⟩ ⟨yk, yn, yt⟩ true hq W
                      simp only [Bool.not_true] at hq2
                      clear hq
                      refine wp_region_noPanic ?_
                      refine wp_region_held_drew (S := (fun w' => w'.cell? ⟨w.heap.size + 1, 1, none⟩ = some (.slice (some ⟨a3, o3, none⟩) ts.length d) ∧ w'.cell? ⟨a3, o3 + k * 3, none⟩ = some (.int .i8 yk) ∧ w'.cell? ⟨a3, o3 + k * 3 + 1, none⟩ = some (.int .i64 yn) ∧ w'.cell? ⟨a3, o3 + k * 3 + 2, none⟩ = some (.string yt) ∧ w'.cell? ⟨wm.heap.size, 0, none⟩ = some (.string tv) ∧ w'.cell? ⟨w5.heap.size, 0, none⟩ = some (.int .i8 xk) ∧ w'.cell? ⟨w5.heap.size, 1, none⟩ = some (.int .i64 xn) ∧ w'.cell? ⟨w5.heap.size, 2, none⟩ = some (.string xt))) (by kernel_rfl) ?_ (fun hHeld => ?_)
                      · exact HS17.out _ (Below.refl _ _).drew
                      refine wpAnyH_take (i := 0) (oi := _) (v := ?_) (by simp only [List.getElem?_toArray, List.getElem?_cons_zero]; rfl) (by kernel_rfl) (by kernel_rfl) (by kernel_rfl) (fun _ _ _ h => h) (Or.inl ⟨by rfl, ?_⟩) (by assumption) ?_
                      rotate_left
                      · (intro w' hSw; (try dsimp only at hSw); go_simp; (try with_reducible rfl))
                      (try simp only [Act.put, List.setIfInBounds_toArray, List.set_cons_zero, List.set_cons_succ])
                      refine wpAnyH_take (i := 1) (oi := _) (v := ?_) (by simp only [List.getElem?_toArray, List.getElem?_cons_succ, List.getElem?_cons_zero]; rfl) (by kernel_rfl) (by kernel_rfl) (by kernel_rfl) (fun _ _ _ h => h) (Or.inl ⟨by rfl, ?_⟩) (by assumption) ?_
                      rotate_left
                      · (intro w' hSw; (try dsimp only at hSw); go_simp; (try with_reducible rfl))
                      (try simp only [Act.put, List.setIfInBounds_toArray, List.set_cons_zero, List.set_cons_succ])
                      refine wpAnyH_take (i := 2) (oi := _) (v := ?_) (by simp only [List.getElem?_toArray, List.getElem?_cons_succ, List.getElem?_cons_zero]; rfl) (by kernel_rfl) (by kernel_rfl) (by kernel_rfl) (fun _ _ _ h => h) (Or.inl ⟨by rfl, ?_⟩) (by assumption) ?_
                      rotate_left
                      · (intro w' hSw; (try dsimp only at hSw); go_simp; (try with_reducible rfl))
                      (try simp only [Act.put, List.setIfInBounds_toArray, List.set_cons_zero, List.set_cons_succ])
                      refine wpAnyH_take (i := 3) (oi := _) (v := ?_) (by simp only [List.getElem?_toArray, List.getElem?_cons_succ, List.getElem?_cons_zero]; rfl) (by kernel_rfl) (by kernel_rfl) (by kernel_rfl) (fun _ _ _ h => h) (Or.inl ⟨by rfl, ?_⟩) (by assumption) ?_
                      rotate_left
                      · (intro w' hSw; (try dsimp only at hSw); go_simp; (try with_reducible rfl))
                      (try simp only [Act.put, List.setIfInBounds_toArray, List.set_cons_zero, List.set_cons_succ])
                      refine wpAnyH_take (i := 4) (oi := _) (v := ?_) (by simp only [List.getElem?_toArray, List.getElem?_cons_succ, List.getElem?_cons_zero]; rfl) (by kernel_rfl) (by kernel_rfl) (by kernel_rfl) (fun _ _ _ h => h) (Or.inl ⟨by rfl, ?_⟩) (by assumption) ?_
                      rotate_left
                      · (intro w' hSw; (try dsimp only at hSw); go_simp; (try with_reducible rfl))
                      (try simp only [Act.put, List.setIfInBounds_toArray, List.set_cons_zero, List.set_cons_succ])
                      refine wpAnyH_ready (rs := [5]) (by kernel_rfl) (by simp) ?_
                      refine AllReadyH.cons (o := _) (by simp only [List.getElem?_toArray, List.getElem?_cons_succ, List.getElem?_cons_zero]; rfl) (fun K hK => ?_) ?_
                      · go_simp
                        go_at_call 63
                        refine (HCH.out _).mono ?_
                        rintro r w7 ⟨rfl, hb7⟩
                        have H7 := Lib.hid (show Below U2.heap.size U2 w7 from ⟨hb7.os, hb7.tape, hb7.output, hb7.size, hb7.block⟩)
                        clear hb7
                        (try go_wp2_with fail)
                        refine hK.out _ _ ?_ (fun hHeld => ?_)
                        · exact HS17.out _ H7.out
                        clear hK K
                        (try simp only [Act.put, List.setIfInBounds_toArray, List.set_cons_zero, List.set_cons_succ])
                        refine wpAnyH_take (i := 6) (oi := _) (v := ?_) (by simp only [List.getElem?_toArray, List.getElem?_cons_succ, List.getElem?_cons_zero]; rfl) (by kernel_rfl) (by kernel_rfl) (by kernel_rfl) (fun _ _ _ h => h) (Or.inl ⟨by rfl, ?_⟩) (by assumption) ?_
                        rotate_left
                        · (intro w' hSw; (try dsimp only at hSw); go_simp; (try with_reducible rfl))
                        (try simp only [Act.put, List.setIfInBounds_toArray, List.set_cons_zero, List.set_cons_succ])
                        refine wpAnyH_take (i := 7) (oi := _) (v := ?_) (by simp only [List.getElem?_toArray, List.getElem?_cons_succ, List.getElem?_cons_zero]; rfl) (by kernel_rfl) (by kernel_rfl) (by kernel_rfl) (fun _ _ _ h => h) (Or.inl ⟨by rfl, ?_⟩) (by assumption) ?_
                        rotate_left
                        · (intro w' hSw; (try dsimp only at hSw); go_simp; (try with_reducible rfl))
                        (try simp only [Act.put, List.setIfInBounds_toArray, List.set_cons_zero, List.set_cons_succ])
                        refine wpAnyH_take (i := 8) (oi := _) (v := ?_) (by simp only [List.getElem?_toArray, List.getElem?_cons_succ, List.getElem?_cons_zero]; rfl) (by kernel_rfl) (by kernel_rfl) (by kernel_rfl) (fun _ _ _ h => h) (Or.inl ⟨by rfl, ?_⟩) (by assumption) ?_
                        rotate_left
                        · (intro w' hSw; (try dsimp only at hSw); go_simp; (try with_reducible rfl))
                        (try simp only [Act.put, List.setIfInBounds_toArray, List.set_cons_zero, List.set_cons_succ])
                        refine wpAnyH_take (i := 9) (oi := _) (v := ?_) (by simp only [List.getElem?_toArray, List.getElem?_cons_succ, List.getElem?_cons_zero]; rfl) (by kernel_rfl) (by kernel_rfl) (by kernel_rfl) (fun _ _ _ h => h) (Or.inl ⟨by rfl, ?_⟩) (by assumption) ?_
                        rotate_left
                        · (intro w' hSw; (try dsimp only at hSw); go_simp; (try with_reducible rfl))
                        (try simp only [Act.put, List.setIfInBounds_toArray, List.set_cons_zero, List.set_cons_succ])
                        refine wpAnyH_take (i := 10) (oi := _) (v := ?_) (by simp only [List.getElem?_toArray, List.getElem?_cons_succ, List.getElem?_cons_zero]; rfl) (by kernel_rfl) (by kernel_rfl) (by kernel_rfl) (fun _ _ _ h => h) (Or.inl ⟨by rfl, ?_⟩) (by assumption) ?_
                        rotate_left
                        · (intro w' hSw; (try dsimp only at hSw); go_simp; (try with_reducible rfl))
                        (try simp only [Act.put, List.setIfInBounds_toArray, List.set_cons_zero, List.set_cons_succ])
                        refine wpAnyH_take (i := 11) (oi := _) (v := ?_) (by simp only [List.getElem?_toArray, List.getElem?_cons_succ, List.getElem?_cons_zero]; rfl) (by kernel_rfl) (by kernel_rfl) (by kernel_rfl) (fun _ _ _ h => h) (Or.inl ⟨by rfl, ?_⟩) (by assumption) ?_
                        rotate_left
                        · (intro w' hSw; (try dsimp only at hSw); go_simp; (try with_reducible rfl))
                        (try simp only [Act.put, List.setIfInBounds_toArray, List.set_cons_zero, List.set_cons_succ])
                        refine wpAnyH_take (i := 12) (oi := _) (v := ?_) (by simp only [List.getElem?_toArray, List.getElem?_cons_succ, List.getElem?_cons_zero]; rfl) (by kernel_rfl) (by kernel_rfl) (by kernel_rfl) (fun _ _ _ h => h) (Or.inl ⟨by rfl, ?_⟩) (by assumption) ?_
                        rotate_left
                        · (intro w' hSw; (try dsimp only at hSw); go_simp; (try with_reducible rfl))
                        (try simp only [Act.put, List.setIfInBounds_toArray, List.set_cons_zero, List.set_cons_succ])
                        refine wpAnyH_take (i := 13) (oi := _) (v := ?_) (by simp only [List.getElem?_toArray, List.getElem?_cons_succ, List.getElem?_cons_zero]; rfl) (by kernel_rfl) (by kernel_rfl) (by kernel_rfl) (fun _ _ _ h => h) (Or.inl ⟨by rfl, ?_⟩) (by assumption) ?_
                        rotate_left
                        · (intro w' hSw; (try dsimp only at hSw); go_simp; (try with_reducible rfl))
                        (try simp only [Act.put, List.setIfInBounds_toArray, List.set_cons_zero, List.set_cons_succ])
                        refine wpAnyH_take (i := 14) (oi := _) (v := ?_) (by simp only [List.getElem?_toArray, List.getElem?_cons_succ, List.getElem?_cons_zero]; rfl) (by kernel_rfl) (by kernel_rfl) (by kernel_rfl) (fun _ _ _ h => h) (Or.inl ⟨by rfl, ?_⟩) (by assumption) ?_
                        rotate_left
                        · (intro w' hSw; (try dsimp only at hSw); go_simp; (try with_reducible rfl))
                        (try simp only [Act.put, List.setIfInBounds_toArray, List.set_cons_zero, List.set_cons_succ])
                        refine wpAnyH_take (i := 15) (oi := _) (v := ?_) (by simp only [List.getElem?_toArray, List.getElem?_cons_succ, List.getElem?_cons_zero]; rfl) (by kernel_rfl) (by kernel_rfl) (by kernel_rfl) (fun _ _ _ h => h) (Or.inl ⟨by rfl, ?_⟩) (by assumption) ?_
                        rotate_left
                        · (intro w' hSw; (try dsimp only at hSw); go_simp; (try with_reducible rfl))
                        (try simp only [Act.put, List.setIfInBounds_toArray, List.set_cons_zero, List.set_cons_succ])
                        refine wpAnyH_take (i := 16) (oi := _) (v := ?_) (by simp only [List.getElem?_toArray, List.getElem?_cons_succ, List.getElem?_cons_zero]; rfl) (by kernel_rfl) (by kernel_rfl) (by kernel_rfl) (fun _ _ _ h => h) (Or.inl ⟨by rfl, ?_⟩) (by assumption) ?_
                        rotate_left
                        · (intro w' hSw; (try dsimp only at hSw); go_simp; (try with_reducible rfl))
                        (try simp only [Act.put, List.setIfInBounds_toArray, List.set_cons_zero, List.set_cons_succ])
                        refine wpAnyH_take (i := 17) (oi := _) (v := ?_) (by simp only [List.getElem?_toArray, List.getElem?_cons_succ, List.getElem?_cons_zero]; rfl) (by kernel_rfl) (by kernel_rfl) (by kernel_rfl) (fun _ _ _ h => h) (Or.inl ⟨by rfl, ?_⟩) (by assumption) ?_
                        rotate_left
                        · (intro w' hSw; (try dsimp only at hSw); go_simp; (try with_reducible rfl))
                        (try simp only [Act.put, List.setIfInBounds_toArray, List.set_cons_zero, List.set_cons_succ])
                        refine wpAnyH_take (i := 18) (oi := _) (v := ?_) (by simp only [List.getElem?_toArray, List.getElem?_cons_succ, List.getElem?_cons_zero]; rfl) (by kernel_rfl) (by kernel_rfl) (by kernel_rfl) (fun _ _ _ h => h) (Or.inl ⟨by rfl, ?_⟩) (by assumption) ?_
                        rotate_left
                        · (intro w' hSw; (try dsimp only at hSw); go_simp; (try with_reducible rfl))
                        (try simp only [Act.put, List.setIfInBounds_toArray, List.set_cons_zero, List.set_cons_succ])
                        refine wpAnyH_take (i := 19) (oi := _) (v := ?_) (by simp only [List.getElem?_toArray, List.getElem?_cons_succ, List.getElem?_cons_zero]; rfl) (by kernel_rfl) (by kernel_rfl) (by kernel_rfl) (fun _ _ _ h => h) (Or.inl ⟨by rfl, ?_⟩) (by assumption) ?_
                        rotate_left
                        · (intro w' hSw; (try dsimp only at hSw); go_simp; (try with_reducible rfl))
                        (try simp only [Act.put, List.setIfInBounds_toArray, List.set_cons_zero, List.set_cons_succ])
                        refine wpAnyH_take (i := 20) (oi := _) (v := ?_) (by simp only [List.getElem?_toArray, List.getElem?_cons_succ, List.getElem?_cons_zero]; rfl) (by kernel_rfl) (by kernel_rfl) (by kernel_rfl) (fun _ _ _ h => h) (Or.inl ⟨by rfl, ?_⟩) (by assumption) ?_
                        rotate_left
                        · (intro w' hSw; (try dsimp only at hSw); go_simp; (try with_reducible rfl))
                        (try simp only [Act.put, List.setIfInBounds_toArray, List.set_cons_zero, List.set_cons_succ])
                        refine wpAnyH_done (by kernel_rfl) ?_ _
                        refine NoPanic.normal ?_
                        go_wp2_with fail
                        go_roundw
                        case rel => exact ⟨k + 1, by omega, by go_num, HM2.out.trans (H7.out.mono hsm2)⟩
                        case measure => simp [intOf]; omega
                      exact AllReadyH.nil
              · obtain rfl : k = ts.length := by omega
                go_wp2_with fail
                exact HEND2.out _ HM.out
      · have hl3 : ¬ (ts.length : Int) = (xs.length : Int) := by omega
        have hl4 : ((ts.length : Int) != (xs.length : Int)) = true := by simpa using hl3
        clear hlen
        go_wp2_with fail
        exact HNO.out _ Hw1.out
    · have q1 := toList_ne hpf
      have q2 : (pr.toList != fp.toList) = true := by simp [bne, q1]
      clear hpf
      go_wp2_with fail
      exact HNO.out _ Hw1.out
end Go.Proofs.YtafjjececdhmjaaGreat
