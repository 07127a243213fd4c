/- The contracts of the writer's rule, and of print.Rule. Conditions: the rule lies in memory as it is told. -/
import Derived.Test.YtdgbenadoaecoaaDoorS7
namespace Go.Proofs.YtdgbenadoaecoaaDoor
open Go.RowKit

set_option maxHeartbeats 2000000 in
set_option maxRecDepth 100000 in
theorem pRuleCol (c1 c2 b i : Nat) (pre : List UInt8) (hp : Option Addr) (hc : Nat) (hs : List Ag) (wr : World) (hi : i < hs.length) (hw : Wr 68 b pre wr) (hT : Tabs wr) (hFo : FoldsAt wr)
    (h1 : wr.cell? ⟨c1, 0, none⟩ = some (.pointer (some ⟨b, 0, none⟩))) (h2 : wr.cell? ⟨c2, 1, none⟩ = some (.slice hp hs.length hc)) (hh : AgsAt wr hp hs) (hr : TmR hs[i].t.v hs[i].t.x.k hs[i].t.x.n hs[i].t.x.t) (hg : agOk hs[i] = true) (hl : pre.length + (agL hs[i]).length ≤ 140737488355328) :
    Calls Tryd.prog 39 #[.int .i64 i, .pointer (some ⟨c1, 0, none⟩), .pointer (some ⟨c2, 0, none⟩)] wr (Wrote b pre (agL hs[i]) wr) := by
  rcases hh with h | ⟨a, o, rfl, ha, h⟩
  · omega
  · obtain ⟨c0, hct⟩ := h i hi
    obtain ⟨d0, d1, d2, d3⟩ := hct
    clear h
    have HG := Lib.hid (agOk_g hg); clear hg
    have HVR := Lib.hid hr; clear hr
    have HL := Lib.hid hl; clear hl
    obtain ⟨x, hx⟩ : ∃ x, x = hs[i] := ⟨_, rfl⟩
    rw [← hx] at c0 d0 d1 d2 d3 HG HVR HL ⊢
    clear hx
    have HW := Lib.hid hw; clear hw
    have HT := Lib.hid hT; clear hT
    have HF := Lib.hid hFo; clear hFo
    have hi0 : (0 : Int) ≤ (i : Int) := by omega
    have hii : (i : Int) < (hs.length : Int) := by omega
    go_enter Tryd.func39, Tryd.ntmps39
    go_wp2_with fail
    go_still_tail 6, (by kernel_rfl)
    change wpList _ _ _ _ _ wr.drew
    have HWd := Lib.hid (Wr.drew HW.out)
    have HTd := Lib.hid (HT.out.up ((Below.refl _ wr).drew) HT.out.size)
    have HFd := Lib.hid (HF.out.at ((Below.refl _ wr).drew))
    have HKd := Lib.hid (Kp.of_below HW.out.lt ((Below.refl _ wr).drew))
    clear h1 h2 c0 d0 d1 d2 d3
    obtain ⟨wd, hwd⟩ : ∃ wd, wd = wr.drew := ⟨_, rfl⟩
    rw [← hwd] at HWd HTd HFd HKd ⊢
    clear hwd
    go_wp2_with fail
    refine (pArg b pre x _ HVR.out HTd.out HFd.out HG.out HWd.out HL.out).mono ?_
    rintro e w1 ⟨rfl, hw1, hk1⟩
    have H1 := Lib.hid hw1; clear hw1
    have HK1 := Lib.hid hk1; clear hk1
    go_wp2_with fail
    go_end0
    exact ⟨rfl, H1.out, HKd.out.trans HK1.out⟩
theorem enterRule (args : Array Value) (w : World) : (callFunc 39 args).run Tryd.prog w = .ok (.enter 39 args) w := by kernel_rfl
theorem bodL_snoc {d : Nat} : ∀ (f : Bool) (l : List (Lt d)) (x : Lt d), bodL f (l ++ [x]) = bodL f l ++ ((if f && l.isEmpty then [32, 58, 45, 32] else [44, 32]) ++ litL x)
  | true, [], x => by simp [bodL]
  | false, [], x => by simp [bodL]
  | f, y :: r, x => by
    rw [List.cons_append, bodL, bodL_snoc false r x, bodL]
    cases f <;> simp
theorem bod_next {d : Nat} (l : List (Lt d)) (k : Nat) (h : k < l.length) : bodL true (l.take (k + 1)) = bodL true (l.take k) ++ ((if k = 0 then [32, 58, 45, 32] else [44, 32]) ++ litL l[k]) := by
  rw [List.take_succ_eq_append_getElem h, bodL_snoc]
  cases k with
  | zero => simp
  | succ k =>
    have : (l.take (k + 1)).isEmpty = false := by
      rw [List.isEmpty_eq_false_iff]; intro e; have := congrArg List.length e; rw [List.length_take, List.length_nil] at this; omega
    simp [this]
theorem bod_le {d : Nat} (l : List (Lt d)) (f : Bool) (k : Nat) : (bodL f (l.take k)).length ≤ (bodL f l).length := by
  induction l generalizing f k with
  | nil => simp [bodL]
  | cons x r ih =>
    cases k with
    | zero => simp [bodL]
    | succ k => have := ih false k; simp [bodL]; omega
theorem len_ag (hs : List Ag) : (hs.length : Int) = ((hs.map agL).length : Int) := by simp
theorem ruOk_parts {d : Nat} {p : ByteArray} {hs : List Ag} {bs : List (Lt d)} (h : ruOk p hs bs = true) : hs.length ≤ 24 ∧ bs.length ≤ 16 ∧ (∀ x ∈ hs, agOk x = true) ∧ ∀ x ∈ bs, ltOk x = true := by
  simp only [ruOk, Bool.and_eq_true, decide_eq_true_eq, List.all_eq_true] at h
  exact ⟨h.1.1.1.1.2, h.1.1.1.2, h.1.1.2, h.1.2⟩
set_option maxHeartbeats 8000000 in
set_option maxRecDepth 100000 in
theorem pRule (w0 : World) (b : Nat) (pre : List UInt8) (d : Nat) (p : ByteArray) (hp : Option Addr) (hc : Nat) (hs : List Ag) (bp : Option Addr) (bc : Nat) (bs : List (Lt d)) (w : World) (hE : Env w0 b w) (hT : Tabs w0) (hRl : RelsAt w0) (hFo : FoldsAt w0)
    (hh : AgsAt w0 hp hs) (hb : LtsAt w0 d bp bs) (hr : RuR p hs bs) (ho : ruOk p hs bs = true) (hw : Wr 68 b pre w) (hl : pre.length + (ruL p hs bs).length ≤ 140737488355328) :
    Calls Tryd.prog 19 #[.pointer (some ⟨b, 0, none⟩), .agg #[.string p, .slice hp hs.length hc, .slice bp bs.length bc]] w (Wrote b pre (ruL p hs bs) w) := by
  obtain ⟨h24, h16, hao, hlo⟩ := ruOk_parts ho
  have HE := Lib.hid hE; clear hE
  have HT := Lib.hid hT; clear hT
  have HRL := Lib.hid hRl; clear hRl
  have HFO := Lib.hid hFo; clear hFo
  have HH := Lib.hid hh; clear hh
  have HB := Lib.hid hb; clear hb
  have HR := Lib.hid hr; clear hr
  have HAO := Lib.hid hao; clear hao
  have HLO := Lib.hid hlo; clear hlo ho
  have HW := Lib.hid hw
  have hlt := hw.lt; clear hw
  have hl2 : pre.length + ((colsL (bl p) (hs.map agL)).length + ((bodL true bs).length + 1)) ≤ 140737488355328 := by simpa [ruL] using hl
  have HL := Lib.hid hl2; clear hl hl2
  have hmf := makeFn
  go_enter Tryd.func19, Tryd.ntmps19
  go_wp2_with fail
  clear hmf
  rw [len_ag]
  refine (pColumns 39 enterRule w.heap.size (w.heap.size + 1) b pre p (hs.map agL) _ ((HW.out.alloc _).alloc _) (by have := HL.out; omega) (by simpa using h24) ?_).mono ?_
  · intro k hk p' wr hkp hwr hlen
    have hk' : k < hs.length := by simpa using hk
    have e1 : (hs.map agL)[k] = agL hs[k] := by simp
    rw [e1] at hlen ⊢
    have hkw := ((Kp.alloc HW.out _).trans (Kp.alloc (HW.out.alloc _) _)).trans hkp
    have henv := HE.out.kp hkw
    refine pRuleCol w.heap.size (w.heap.size + 1) b k p' hp hc hs wr hk' hwr (HT.out.at henv.bel) (HFO.out.at henv.bel) ?_ ?_ (HH.out.up henv.bel) (HR.out.h_ hs[k] (List.getElem_mem hk')).2 (HAO.out _ (List.getElem_mem hk')) hlen
    · have h1 := hkp.cell (k := w.heap.size) (c := #[.pointer (some ⟨b, 0, none⟩)]) (t := 75) (fz := (0, 0)) (by rw [Lib.alloc_old _ _ _ (by simp)]; exact heap_alloc_new w _) (by omega) (by decide)
      rw [Lib.cell_of_heap h1]; rfl
    · have h1 := hkp.cell (k := w.heap.size + 1) (c := #[.string p, .slice hp hs.length hc, .slice bp bs.length bc]) (t := 25) (fz := (0, 0)) (by simpa using heap_alloc_new (w.alloc _) _) (by omega) (by decide)
      rw [Lib.cell_of_heap h1]; rfl
  · rintro e w1 ⟨rfl, hw1, hk1⟩
    have H1 := Lib.hid hw1; clear hw1
    have hb1 := hk1.cell (k := w.heap.size) (c := #[.pointer (some ⟨b, 0, none⟩)]) (t := 75) (fz := (0, 0)) (by rw [Lib.alloc_old _ _ _ (by simp)]; exact heap_alloc_new w _) (by omega) (by decide)
    have hb2 := hk1.cell (k := w.heap.size + 1) (c := #[.string p, .slice hp hs.length hc, .slice bp bs.length bc]) (t := 25) (fz := (0, 0)) (by simpa using heap_alloc_new (w.alloc _) _) (by omega) (by decide)
    have HB1 := Lib.hid hb1
    have HB2 := Lib.hid hb2
    have y0 : w1.cell? ⟨w.heap.size, 0, none⟩ = some (.pointer (some ⟨b, 0, none⟩)) := by rw [Lib.cell_of_heap hb1]; rfl
    have y2 : w1.cell? ⟨w.heap.size + 1, 2, none⟩ = some (.slice bp bs.length bc) := by rw [Lib.cell_of_heap hb2]; rfl
    clear hb1 hb2
    have HK1 := Lib.hid (((Kp.alloc HW.out _).trans (Kp.alloc (HW.out.alloc _) _)).trans hk1); clear hk1
    have hbw : w.heap.size ≠ b := by omega
    rename World => w1
    go_wp2_with fail
    clear y0 y2
    go_loopw [4, 5, 17] (fun _ _ i wr => ∃ k : Nat, k ≤ bs.length ∧ i = .int .i64 k ∧ Wr 68 b (pre ++ colsL (bl p) (hs.map agL) ++ bodL true (bs.take k)) wr ∧ Kp b w1 wr) (fun _ _ i _ => bs.length - (intOf i).toNat)
    case atStart => exact ⟨0, by omega, rfl, by simpa [bodL] using H1.out, Kp.refl _ _⟩
    case round =>
      obtain ⟨k, hk, rfl, hwr, hkp⟩ := hrel
      rename World => wr
      have HLE := Lib.hid (bod_le bs true (k + 1))
      have Hr := Lib.hid hwr
      have hltr := hwr.lt; clear hwr
      have Hk := Lib.hid hkp; clear hkp
      have hb1 := Hk.out.cell HB1.out hbw (by decide)
      have HBR := Lib.hid hb1
      have y0 : wr.cell? ⟨w.heap.size, 0, none⟩ = some (.pointer (some ⟨b, 0, none⟩)) := by rw [Lib.cell_of_heap hb1]; rfl
      clear hb1
      have henv := Lib.hid (HE.out.kp (HK1.out.trans Hk.out))
      by_cases hlk : k < bs.length
      · have hnx := Lib.hid (bod_next bs k hlk)
        rcases HB.out.1 with h0 | ⟨a2, o2, rfl, ha2, hcs⟩
        · omega
        have hck := (hcs k hlk).up henv.out.bel ha2
        clear hcs
        have HXj := Lib.hid (HB.out.2 bs[k] (List.getElem_mem hlk))
        have HRj := Lib.hid (HR.out.b_ bs[k] (List.getElem_mem hlk))
        have HOj := Lib.hid (HLO.out bs[k] (List.getElem_mem hlk))
        obtain ⟨x, hx⟩ : ∃ x, x = bs[k] := ⟨_, rfl⟩
        rw [← hx] at hck HXj HRj HOj hnx
        clear hx
        obtain ⟨q, qc, hsv, _, _⟩ := HXj.out.at_
        obtain ⟨pl, cl, hsl⟩ := ex_sl2 HXj.out.l_
        obtain ⟨pg, cg, hsg⟩ := ex_sl2 HXj.out.g_
        have hcall := fun b pre w' h1 h2 h3 h4 h5 h6 h7 => pLitOk w0 d x b pre w' h1 h2 h3 h4 HRj.out h5 h6 h7
        obtain ⟨c0, c1, c2, c3, c4, c5, c6, c7, c8, c9, c10, c11, c12, c13, c14, c15⟩ := hck
        rw [hsv] at c2 hcall
        rw [hsl] at c9 hcall
        rw [hsg] at c15 hcall
        have HCALL := Lib.hid hcall
        clear hcall hsv hsl hsg
        have hk0' : (0 : Int) ≤ (k : Int) := by omega
        have hki : (k : Int) < (bs.length : Int) := by omega
        obtain ⟨V, hV⟩ : ∃ V, V = wr.alloc (.cells #[.int .i8 x.k, .string x.p, .slice q x.ts.length qc, .int .i8 x.r, .int .i8 (exOp d x.l), .string (exTm d x.l).v, .int .i8 (exTm d x.l).x.k, .int .i64 (exTm d x.l).x.n, .string (exTm d x.l).x.t, .slice pl (exLen d x.l) cl, .int .i8 (exOp d x.g), .string (exTm d x.g).v, .int .i8 (exTm d x.g).x.k, .int .i64 (exTm d x.g).x.n, .string (exTm d x.g).x.t, .slice pg (exLen d x.g) cg] 94) := ⟨_, rfl⟩
        have HVW := Lib.hid (show Wr 68 b (pre ++ colsL (bl p) (hs.map agL) ++ bodL true (bs.take k)) V by rw [hV]; exact Hr.out.alloc _)
        have HKV := Lib.hid (show Kp b wr V by rw [hV]; exact Kp.alloc Hr.out _)
        have HBL := Lib.hid (show V.heap[wr.heap.size]? = some (.cells #[.int .i8 x.k, .string x.p, .slice q x.ts.length qc, .int .i8 x.r, .int .i8 (exOp d x.l), .string (exTm d x.l).v, .int .i8 (exTm d x.l).x.k, .int .i64 (exTm d x.l).x.n, .string (exTm d x.l).x.t, .slice pl (exLen d x.l) cl, .int .i8 (exOp d x.g), .string (exTm d x.g).v, .int .i8 (exTm d x.g).x.k, .int .i64 (exTm d x.g).x.n, .string (exTm d x.g).x.t, .slice pg (exLen d x.g) cg] 94 (0, 0)) by rw [hV]; exact heap_alloc_new wr _)
        have hVs : V.heap.size = wr.heap.size + 1 := by rw [hV]; simp
        have HVS := Lib.hid hVs
        have y0V : V.cell? ⟨w.heap.size, 0, none⟩ = some (.pointer (some ⟨b, 0, none⟩)) := by rw [Lib.cell_of_heap (HKV.out.cell HBR.out hbw (by decide))]; rfl
        have hltV : b < V.heap.size := by omega
        have hrb : wr.heap.size ≠ b := by omega
        have hwl : w.heap.size < wr.heap.size := (Array.getElem?_eq_some_iff.1 HBR.out).1
        clear hVs
        by_cases hk0 : k = 0
        · as_aux_lemma =>
            subst hk0
            simp only [Nat.zero_mul, Nat.add_zero] at c0 c1 c2 c3 c4 c5 c6 c7 c8 c9 c10 c11 c12 c13 c14 c15
            go_wp2_with fail
            rw [← hV]
            clear hV
            refine (pPut b (wr.heap.size + 1) _ [⟨#[32, 58, 45, 32]⟩] 1 _ (HVW.out.alloc _) (by rw [catL_one]; have h1 := HL.out; have h2 := HLE.out; rw [hnx.out] at h2; simp [bl] at h1 h2 ⊢; omega) (by simp) (by rw [← HVS.out]; exact heap_alloc_new V _) (by omega)).mono ?_
            rintro e wa ⟨rfl, hwa, hka⟩
            have Ha := Lib.hid (wr_eq (by rw [catL_one]) hwa); clear hwa
            have HKa := Lib.hid ((Kp.alloc HVW.out _).trans hka); clear hka
            obtain ⟨z0, z1, z2, z3, z4, z5, z6, z7, z8, z9, z10, z11, z12, z13, z14, z15⟩ := sixteen (HKa.out.cell HBL.out hrb (by decide))
            have ya : wa.cell? ⟨w.heap.size, 0, none⟩ = some (.pointer (some ⟨b, 0, none⟩)) := by rw [Lib.cell_of_heap (HKa.out.cell (HKV.out.cell HBR.out hbw (by decide)) hbw (by decide))]; rfl
            clear y0 y0V c0 c1 c2 c3 c4 c5 c6 c7 c8 c9 c10 c11 c12 c13 c14 c15
            go_wp2_with fail
            refine (HCALL.out b _ _ (henv.out.kp (HKV.out.trans HKa.out)) HT.out HRL.out HXj.out HOj.out Ha.out (by have h1 := HL.out; have h2 := HLE.out; rw [hnx.out] at h2; simp [bl] at h1 h2 ⊢; omega)).mono ?_
            rintro e wb ⟨rfl, hwb, hkb⟩
            have Hb := Lib.hid hwb; clear hwb
            have HKb := Lib.hid (((Hk.out.trans HKV.out).trans HKa.out).trans hkb); clear hkb
            clear ya z0 z1 z2 z3 z4 z5 z6 z7 z8 z9 z10 z11 z12 z13 z14 z15
            go_wp2_with fail
            go_roundw
            case rel => exact ⟨0 + 1, by omega, by go_num, wr_eq (by rw [hnx.out]; simp [bl]) Hb.out, HKb.out⟩
            case measure => simp [intOf]; omega
        · as_aux_lemma =>
            have q0 : ((k : Int) == 0) = false := beq_eq_false_iff_ne.2 (by omega)
            have HZ := Lib.hid hk0; clear hk0
            go_wp2_with fail
            rw [← hV]
            clear hV
            refine (pPut b (wr.heap.size + 1) _ [⟨#[44, 32]⟩] 1 _ (HVW.out.alloc _) (by rw [catL_one]; have h1 := HL.out; have h2 := HLE.out; rw [hnx.out] at h2; simp [bl, HZ.out] at h1 h2 ⊢; omega) (by simp) (by rw [← HVS.out]; exact heap_alloc_new V _) (by omega)).mono ?_
            rintro e wa ⟨rfl, hwa, hka⟩
            have Ha := Lib.hid (wr_eq (by rw [catL_one]) hwa); clear hwa
            have HKa := Lib.hid ((Kp.alloc HVW.out _).trans hka); clear hka
            obtain ⟨z0, z1, z2, z3, z4, z5, z6, z7, z8, z9, z10, z11, z12, z13, z14, z15⟩ := sixteen (HKa.out.cell HBL.out hrb (by decide))
            have ya : wa.cell? ⟨w.heap.size, 0, none⟩ = some (.pointer (some ⟨b, 0, none⟩)) := by rw [Lib.cell_of_heap (HKa.out.cell (HKV.out.cell HBR.out hbw (by decide)) hbw (by decide))]; rfl
            clear y0 y0V c0 c1 c2 c3 c4 c5 c6 c7 c8 c9 c10 c11 c12 c13 c14 c15
            go_wp2_with fail
            refine (HCALL.out b _ _ (henv.out.kp (HKV.out.trans HKa.out)) HT.out HRL.out HXj.out HOj.out Ha.out (by have h1 := HL.out; have h2 := HLE.out; rw [hnx.out] at h2; simp [bl, HZ.out] at h1 h2 ⊢; omega)).mono ?_
            rintro e wb ⟨rfl, hwb, hkb⟩
            have Hb := Lib.hid hwb; clear hwb
            have HKb := Lib.hid (((Hk.out.trans HKV.out).trans HKa.out).trans hkb); clear hkb
            clear ya z0 z1 z2 z3 z4 z5 z6 z7 z8 z9 z10 z11 z12 z13 z14 z15
            go_wp2_with fail
            go_roundw
            case rel => exact ⟨k + 1, by omega, by go_num, wr_eq (by rw [hnx.out]; simp [bl, HZ.out]) Hb.out, HKb.out⟩
            case measure => simp [intOf]; omega
      · obtain rfl : k = bs.length := by omega
        have hta := Lib.hid (show bs.take bs.length = bs from List.take_of_length_le (Nat.le_refl _))
        go_wp2_with fail
        refine (pPut b wr.heap.size _ [⟨#[46]⟩] 1 _ (Hr.out.alloc _) (by rw [catL_one, hta.out]; have h1 := HL.out; simp [bl] at h1 ⊢; omega) (by simp) (heap_alloc_new wr _) (by omega)).mono ?_
        rintro e wa ⟨rfl, hwa, hka⟩
        have Ha := Lib.hid (wr_eq (by rw [catL_one]) hwa); clear hwa
        have HKa := Lib.hid ((Kp.alloc Hr.out _).trans hka); clear hka
        clear y0
        go_wp2_with fail
        go_end0
        exact ⟨rfl, wr_eq (by rw [hta.out, ruL]; simp [bl]) Ha.out, (HK1.out.trans Hk.out).trans HKa.out⟩
end Go.Proofs.YtdgbenadoaecoaaDoor
