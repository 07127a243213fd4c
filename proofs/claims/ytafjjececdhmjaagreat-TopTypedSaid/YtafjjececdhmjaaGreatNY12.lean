/- The contract of the graph's rule. Conditions: the graph and the rule lie in memory as they are told. -/
import Derived.Test.YtafjjececdhmjaaGreatNKc
import Derived.Test.YtafjjececdhmjaaGreatNS6
namespace Go.Proofs.YtafjjececdhmjaaGreat
open Go.RowKit

theorem four {w : World} {b : Nat} {x0 x1 x2 x3 : Value} {t : TypeId} {fz : Nat × Nat} (h : w.heap[b]? = some (.cells #[x0, x1, x2, x3] t fz)) : w.cell? ⟨b, 0, none⟩ = some x0 ∧ w.cell? ⟨b, 1, none⟩ = some x1 ∧ w.cell? ⟨b, 2, none⟩ = some x2 ∧ w.cell? ⟨b, 3, none⟩ = some x3 :=
  ⟨by rw [Lib.cell_of_heap h]; rfl, by rw [Lib.cell_of_heap h]; rfl, by rw [Lib.cell_of_heap h]; rfl, by rw [Lib.cell_of_heap h]; rfl⟩
theorem fiveC {w : World} {b : Nat} {x0 x1 x2 x3 x4 : Value} {t : TypeId} {fz : Nat × Nat} (h : w.heap[b]? = some (.cells #[x0, x1, x2, x3, x4] t fz)) : w.cell? ⟨b, 0, none⟩ = some x0 ∧ w.cell? ⟨b, 1, none⟩ = some x1 ∧ w.cell? ⟨b, 2, none⟩ = some x2 ∧ w.cell? ⟨b, 3, none⟩ = some x3 ∧ w.cell? ⟨b, 4, none⟩ = some x4 :=
  ⟨by rw [Lib.cell_of_heap h]; rfl, by rw [Lib.cell_of_heap h]; rfl, by rw [Lib.cell_of_heap h]; rfl, by rw [Lib.cell_of_heap h]; rfl, by rw [Lib.cell_of_heap h]; rfl⟩
theorem Gst.apart_new {b0 g m : Nat} {Kn : Pl → Prop} {cs : List Cn} {s : Gs} {w w' : World} (h : Gst b0 g m Kn cs s w) (hs : w'.heap.size = w.heap.size + 1) : Apart g m s.N w' w.heap.size :=
  ⟨by omega, fun hn => by have := h.nlt hn; omega, by have := h.size; omega, by have := h.size; omega⟩
theorem agCn1 {n : Int} {p : ByteArray} {k : Nat} {x : Ag} (h : x.g = 1) : agCn n p k x = [.say ⟨-1, p, k⟩ 1] := by unfold agCn; rw [if_pos h]
theorem agCn2 {n : Int} {p : ByteArray} {k : Nat} {x : Ag} (h : x.g = 2) : agCn n p k x = [.say ⟨-1, p, k⟩ 1] ++ saySr (tmSr n x.t) 1 := by unfold agCn; rw [if_neg (by omega), if_pos h]; rfl
theorem agCn0 {n : Int} {p : ByteArray} {k : Nat} {x : Ag} (h1 : x.g ≠ 1) (h2 : x.g ≠ 2) : agCn n p k x = joinSr (tmSr n x.t) (.pl ⟨-1, p, k⟩) := by unfold agCn; rw [if_neg h1, if_neg h2]
set_option maxHeartbeats 16000000 in
set_option maxRecDepth 100000 in
theorem gRule (w0 : World) {b0 g m : Nat} {Kn : Pl → Prop} (hkv : KnV Kn) (n : Int) (hn : 0 ≤ n) (hwb : w0.heap.size ≤ b0) (d : Nat) (p : ByteArray) (hp : Option Addr) (hc : Nat) (hs : List Ag) (bp : Option Addr) (bc : Nat) (bs : List (Lt d)) {cs : List Cn} {s : Gs} {w : World}
    (h : Gst b0 g m Kn cs s w) (hb : Below w0.heap.size w0 w) (hh : AgsAt w0 hp hs) (hbs : LtsAt w0 d bp bs) (hr : RuR p hs bs) (hkh : ∀ i : Nat, i < hs.length → Kn ⟨-1, p, i⟩) (hkb : ∀ x ∈ bs, ∀ i : Nat, i < x.ts.length → Kn ⟨-1, x.p, i⟩) :
    Calls Tryz.prog 18 #[.pointer (some ⟨g, 0, none⟩), .int .i64 n, .agg #[.string p, .slice hp hs.length hc, .slice bp bs.length bc]] w (GPost b0 g m Kn (cs ++ ruCn n p hs bs) (fun _ => False) s w isUnit) := by
  obtain ⟨W, hW⟩ : ∃ W, W = w.alloc (.cells #[.string p, .slice hp hs.length hc, .slice bp bs.length bc] 41) := ⟨_, rfl⟩
  have HBW := Lib.hid (show Below w.heap.size w W by rw [hW]; exact below_alloc _ _)
  have hsW : W.heap.size = w.heap.size + 1 := by rw [hW]; simp
  have HAP := Lib.hid (h.apart_new hsW)
  obtain ⟨x0, x1, x2⟩ := three (show W.heap[w.heap.size]? = some (.cells #[.string p, .slice hp hs.length hc, .slice bp bs.length bc] 41 (0, 0)) by rw [hW]; exact heap_alloc_new w _)
  have HGW := Lib.hid (h.off (w' := W) HBW.out.block)
  have HZ := Lib.hid h.size
  have hl1 := hr.hl
  have hl2 := hr.bl
  unfold maxLen at hl1 hl2
  have HB := Lib.hid hb; clear hb
  have HH := Lib.hid hh; clear hh
  have HBS := Lib.hid hbs; clear hbs
  have HKV := Lib.hid hkv; clear hkv
  have HN := Lib.hid hn; clear hn
  have HWB := Lib.hid hwb; clear hwb
  have HKH := Lib.hid hkh; clear hkh
  have HKB := Lib.hid hkb; clear hkb
  clear h hr
  have HWS := Lib.hid hsW; clear hsW
  have HRU := Lib.hid (show cs ++ ruCn n p hs bs = (cs ++ idxd (agCn n p) 0 hs) ++ bs.flatMap (ltCn n) by unfold ruCn; rw [List.append_assoc])
  obtain ⟨cz, hcz⟩ : ∃ cz, cz = cs ++ ruCn n p hs bs := ⟨_, rfl⟩
  rw [← hcz] at HRU ⊢
  clear hcz
  go_enter Tryz.func18, Tryz.ntmps18
  go_wp2_with fail
  rw [← hW]
  clear hW
  go_loopw [6, 7, 8, 16] (fun _ _ _ i wr => ∃ k : Nat, k ≤ hs.length ∧ i = .int .i64 k ∧ GRel b0 g m Kn (cs ++ idxd (agCn n p) 0 (hs.take k)) s W wr) (fun _ _ _ i _ => hs.length - (intOf i).toNat)
  case atStart => exact ⟨0, by omega, rfl, s, by simpa [idxd] using HGW.out, Keeps.refl _ _, Below.refl _ _, Gfr.refl _ _ _ _⟩
  case round =>
    obtain ⟨k, hkk, rfl, s', hg, hkp, hbk, hgf⟩ := hrel
    have HG := Lib.hid hg; clear hg
    have HKP := Lib.hid hkp; clear hkp
    have HBK := Lib.hid hbk; clear hbk
    have HGF := Lib.hid hgf; clear hgf
    by_cases hlt : k < hs.length
    · rcases HH.out with h0 | ⟨a2, o2, rfl, ha2, hck⟩
      · omega
      · have hk0 : (0 : Int) ≤ (k : Int) := by omega
        have hki : (k : Int) < (hs.length : Int) := by omega
        have hbw : Below w0.heap.size w0 wr := HB.out.trans ((HBW.out.mono (Nat.le_trans HWB.out HZ.out.1)).trans (HBK.out.mono HWB.out))
        have HQ := Lib.hid (idxd_snoc0 (agCn n p) hs k hlt cs)
        have HKk := Lib.hid (HKH.out k hlt)
        have hck' := hck k hlt
        clear hck
        obtain ⟨x, hx⟩ : ∃ x, x = hs[k] := ⟨_, rfl⟩
        rw [← hx] at hck' HQ
        clear hx
        obtain ⟨z0, zt⟩ := hck'
        have y0 := (hbw.cell (p := ⟨a2, o2 + k * 5, none⟩) ha2).trans z0
        obtain ⟨y1, y2, y3, y4⟩ := zt.up hbw ha2
        clear z0 zt
        have r0 : wr.cell? ⟨w.heap.size, 0, none⟩ = some (.string p) := by rw [World.cell?_of_block (w := W) ((HGF.out.apart HAP.out).2)]; exact x0
        obtain ⟨V, hV⟩ : ∃ V, V = wr.alloc (.cells #[.int .i8 x.g, .string x.t.v, .int .i8 x.t.x.k, .int .i64 x.t.x.n, .string x.t.x.t] 99) := ⟨_, rfl⟩
        have HBV := Lib.hid (show Below wr.heap.size wr V by rw [hV]; exact below_alloc _ _)
        have hsV : V.heap.size = wr.heap.size + 1 := by rw [hV]; simp
        have hsr := HGF.out.size
        have hws := HWS.out
        have r0' : V.cell? ⟨w.heap.size, 0, none⟩ = some (.string p) := (HBV.out.cell (p := ⟨w.heap.size, 0, none⟩) (show w.heap.size < wr.heap.size by omega)).trans r0
        have HAV := Lib.hid (HG.out.apart_new hsV)
        have HV5 := Lib.hid (fiveC (show V.heap[wr.heap.size]? = some (.cells #[.int .i8 x.g, .string x.t.v, .int .i8 x.t.x.k, .int .i64 x.t.x.n, .string x.t.x.t] 99 (0, 0)) by rw [hV]; exact heap_alloc_new wr _))
        have HVs := Lib.hid hsV; clear hsV
        have HVr := Lib.hid hsr; clear hsr hws
        have HVz := Lib.hid hbw; clear hbw
        rw [hV] at r0'
        go_wp2_with fail
        rw [← hV]
        clear hV r0' r0 y0 y1 y2 y3 y4
        refine (gFind (HG.out.off HBV.out.block) (-1) p k HKk.out).mono ?_
        rintro e w1 ⟨_, s1, rfl, ⟨c, rfl, hc, hup⟩, hg1, hkp1, hb1, hgf1⟩
        obtain ⟨c0, c1, c2, c3, c4⟩ := HV5.out
        have hcell : ∀ o, w1.cell? ⟨wr.heap.size, o, none⟩ = V.cell? ⟨wr.heap.size, o, none⟩ := fun o => World.cell?_of_block (w := V) (a := ⟨wr.heap.size, o, none⟩) ((hgf1.apart HAV.out).2)
        rw [← hcell] at c0 c1 c2 c3 c4
        have HA1 := Lib.hid (hgf1.apart HAV.out).1
        have HK1 := Lib.hid (HKP.out.trans hkp1 (fun _ h => h))
        have HB1 := Lib.hid (HBK.out.trans ((HBV.out.mono HG.out.size.1).trans hb1))
        have HF1 := Lib.hid (HGF.out.trans ((Gfr.of_below HBV.out).trans hgf1))
        have HG1 := Lib.hid hg1
        have HC := Lib.hid hc
        clear hcell hup hg1 hkp1 hb1 hgf1 hc
        unfold ptrOf
        by_cases h1 : x.g = 1
        · have HAG := Lib.hid (agCn1 (n := n) (p := p) (k := k) h1)
          have q1 : (x.g == 1) = true := by simp [h1]
          clear h1
          go_wp2_with fail
          refine (gTell HG1.out HC.out).mono ?_
          rintro e w2 ⟨ok, rfl, k1, k2, hp2⟩
          have HP2 := Lib.hid (show ∀ b, b = (!ok || s1.tn) → GRel b0 g m Kn (cs ++ idxd (agCn n p) 0 (hs.take (k + 1))) s W (w2.setCell ⟨g, 1, none⟩ (.bool b)) from fun b hb => by
            rw [← HQ.out, HAG.out]
            exact (hp2 b hb).rel HK1.out HB1.out HF1.out fun i hi e => (HK1.out.iso i id hi).1.off _ _ HC.out e.symm)
          clear hp2
          cases ok with
          | true =>
            go_wp2_with fail
            go_roundw
            case rel => exact ⟨k + 1, by omega, by go_num, HP2.out _ (by simp)⟩
            case measure => simp [intOf]; omega
          | false =>
            go_wp2_with fail
            go_roundw
            case rel => exact ⟨k + 1, by omega, by go_num, HP2.out _ (by simp)⟩
            case measure => simp [intOf]; omega
        · by_cases h2 : x.g = 2
          · have HAG := Lib.hid (agCn2 (n := n) (p := p) (k := k) h2)
            have q1 : (x.g == 1) = false := beq_eq_false_iff_ne.2 h1
            have q2 : (x.g == 2) = true := by simp [h2]
            clear h1 h2
            go_wp2_with fail
            refine (gTell HG1.out HC.out).mono ?_
            rintro e w2 ⟨ok, rfl, k1, k2, hp2⟩
            have HT : Hid (∀ W2, (∃ b, b = (!ok || s1.tn) ∧ W2 = w2.setCell ⟨g, 1, none⟩ (.bool b)) → (∀ o, W2.cell? ⟨wr.heap.size, o, none⟩ = w1.cell? ⟨wr.heap.size, o, none⟩) ∧
                Calls Tryz.prog 45 #[.pointer (some ⟨g, 0, none⟩), .int .i64 n, .agg #[.string x.t.v, .int .i8 x.t.x.k, .int .i64 x.t.x.n, .string x.t.x.t]] W2 (fun e w' => ∃ a, e = .returned (.pointer (some ⟨a, 0, none⟩)) ∧
                  Calls Tryz.prog 44 #[.pointer (some ⟨g, 0, none⟩), .pointer (some ⟨a, 0, none⟩), .int .i8 1] w' (fun e w'' => e = .returned (.tuple #[]) ∧ GRel b0 g m Kn (cs ++ idxd (agCn n p) 0 (hs.take (k + 1))) s W w''))) := Lib.hid (by
              rintro W2 ⟨b, hb, rfl⟩
              obtain ⟨_, s2, _, _, j1, j2, j3, j4⟩ := hp2 b hb
              refine ⟨fun o => World.cell?_of_block (w := w1) (a := ⟨wr.heap.size, o, none⟩) ((j4.apart HA1.out).2), (gTerm j1 HKV.out n HN.out x.t.v x.t.x.k x.t.x.n x.t.x.t).mono ?_⟩
              rintro e w3 ⟨_, s3, rfl, ⟨⟨a, rfl, ha, hfr⟩, _⟩, l1, l2, l3, l4⟩
              have K2 : Keeps (fun _ => False) s s2 := HK1.out.used (a := c) (fun i hi e => (HK1.out.iso i id hi).1.off _ _ HC.out e.symm) j2
              refine ⟨a, rfl, (gSay l1 ha (.inl rfl)).mono ?_⟩
              intro e w4 hp4
              refine ⟨?_, ?_⟩
              · obtain ⟨v, _, he, hv, _⟩ := hp4
                rw [he, hv]
              · rw [← HQ.out, HAG.out, ← List.append_assoc]
                exact hp4.rel (K2.trans l2 (fun _ h => h)) (HB1.out.trans (j3.trans l3)) (HF1.out.trans (j4.trans l4)) fun i hi e => hfr i (K2.iso i id hi).1 e)
            clear hp2
            have HTT := fun b hb => HT.out _ ⟨b, hb, rfl⟩
            clear HT
            cases ok with
            | true =>
              obtain ⟨HCC, HCALL⟩ := HTT s1.tn (by simp)
              clear HTT
              have HCALL := Lib.hid HCALL
              rw [← HCC] at c1 c2 c3 c4
              clear HCC
              go_wp2_with fail
              refine HCALL.out.mono ?_
              rintro e w3 ⟨a, rfl, hcall⟩
              have HC2 := Lib.hid hcall; clear hcall
              go_wp2_with fail
              refine HC2.out.mono ?_
              rintro e w4 ⟨rfl, hrel⟩
              have HR := Lib.hid hrel; clear hrel
              go_wp2_with fail
              go_roundw
              case rel => exact ⟨k + 1, by omega, by go_num, HR.out⟩
              case measure => simp [intOf]; omega
            | false =>
              obtain ⟨HCC, HCALL⟩ := HTT true (by simp)
              clear HTT
              have HCALL := Lib.hid HCALL
              rw [← HCC] at c1 c2 c3 c4
              clear HCC
              go_wp2_with fail
              refine HCALL.out.mono ?_
              rintro e w3 ⟨a, rfl, hcall⟩
              have HC2 := Lib.hid hcall; clear hcall
              go_wp2_with fail
              refine HC2.out.mono ?_
              rintro e w4 ⟨rfl, hrel⟩
              have HR := Lib.hid hrel; clear hrel
              go_wp2_with fail
              go_roundw
              case rel => exact ⟨k + 1, by omega, by go_num, HR.out⟩
              case measure => simp [intOf]; omega
          · have HAG := Lib.hid (agCn0 (n := n) (p := p) (k := k) h1 h2)
            have q1 : (x.g == 1) = false := beq_eq_false_iff_ne.2 h1
            have q2 : (x.g == 2) = false := beq_eq_false_iff_ne.2 h2
            clear h1 h2
            have HS0 : G21 b0 g m Kn (cs ++ idxd (agCn n p) 0 (hs.take k)) (tmSr n x.t) ⟨-1, p, k⟩ s1 w1 none (some c) none w1 := ⟨s1, HG1.out, Keeps.refl _ _, Below.refl _ _, Gfr.refl _ _ _ _, (fun a h => nomatch h), (fun a h => by cases h; exact HC.out), (fun a h => nomatch h)⟩
            have HS := Lib.hid HS0.drew; clear HS0
            go_wp2_with fail
            go_region_held3 (fun w' => w'.cell? ⟨wr.heap.size, 1, none⟩ = w1.cell? ⟨wr.heap.size, 1, none⟩ ∧ w'.cell? ⟨wr.heap.size, 2, none⟩ = w1.cell? ⟨wr.heap.size, 2, none⟩ ∧ w'.cell? ⟨wr.heap.size, 3, none⟩ = w1.cell? ⟨wr.heap.size, 3, none⟩ ∧ w'.cell? ⟨wr.heap.size, 4, none⟩ = w1.cell? ⟨wr.heap.size, 4, none⟩)
              (first | exact ⟨HE.out.cell HA1.out 1, HE.out.cell HA1.out 2, HE.out.cell HA1.out 3, HE.out.cell HA1.out 4⟩ | exact ⟨HS.out.cell HA1.out 1, HS.out.cell HA1.out 2, HS.out.cell HA1.out 3, HS.out.cell HA1.out 4⟩)
              (first
                | (go_at_call 45
                   refine (g21_T (t := x.t) HKV.out HN.out HS.out).mono ?_
                   rintro e w2 ⟨a, rfl, hs2⟩
                   have HS := Lib.hid hs2
                   clear hs2
                   unfold ptrOf)
                | (go_at_call 24
                   refine (g21_P HS.out).mono ?_
                   rintro e w2 ⟨b, rfl, hs2⟩
                   have HS := Lib.hid hs2
                   clear hs2
                   unfold ptrOf)
                | (go_at_call 46
                   refine (g21_J HS.out).mono ?_
                   rintro e w2 ⟨rfl, hs2⟩
                   have HE := Lib.hid hs2
                   clear hs2))
            all_goals
              have HR := Lib.hid (show GRel b0 g m Kn (cs ++ idxd (agCn n p) 0 (hs.take (k + 1))) s W w2 from by
                rw [← HQ.out, HAG.out]
                exact HE.out.then HK1.out HB1.out HF1.out)
              go_wp2_with fail
              go_roundw
              case rel => exact ⟨k + 1, by omega, by go_num, HR.out⟩
              case measure => simp [intOf]; omega
    · obtain rfl : k = hs.length := by omega
      have HE0 := Lib.hid (show (hs.take hs.length) = hs from List.take_of_length_le (Nat.le_refl _))
      obtain ⟨c1, hc1⟩ : ∃ c1, c1 = cs ++ idxd (agCn n p) 0 hs := ⟨_, rfl⟩
      have HRU2 : Hid (cz = c1 ++ bs.flatMap (ltCn n)) := Lib.hid (by rw [hc1]; exact HRU.out)
      have HG1 : Hid (Gst b0 g m Kn c1 s' wr) := Lib.hid (by rw [hc1]; have h9 := HG.out; rw [HE0.out] at h9; exact h9)
      clear hc1 HG HE0 HRU
      have r2 : wr.cell? ⟨w.heap.size, 2, none⟩ = some (.slice bp bs.length bc) := by rw [World.cell?_of_block (w := W) ((HGF.out.apart HAP.out).2)]; exact x2
      obtain ⟨wo, rfl⟩ : ∃ wo, wo = wr := ⟨_, rfl⟩
      clear x0 x1 x2
      go_wp2_with fail
      clear r2
      go_loopw [10, 11, 12, 83] (fun _ _ _ i wr => ∃ k : Nat, k ≤ bs.length ∧ i = .int .i64 k ∧ GRel b0 g m Kn (c1 ++ (bs.take k).flatMap (ltCn n)) s W wr) (fun _ _ _ i _ => bs.length - (intOf i).toNat)
      case atStart => exact ⟨0, by omega, rfl, s', by simpa using HG1.out, HKP.out, HBK.out, HGF.out⟩
      case round =>
        clear HG1 HKP HBK HGF
        obtain ⟨k, hkk, rfl, s', hg, hkp, hbk, hgf⟩ := hrel
        have HG := Lib.hid hg; clear hg
        have HKP := Lib.hid hkp; clear hkp
        have HBK := Lib.hid hbk; clear hbk
        have HGF := Lib.hid hgf; clear hgf
        by_cases hlt : k < bs.length
        · rcases HBS.out.1 with h0 | ⟨a2, o2, rfl, ha2, hck⟩
          · omega
          · have hk0 : (0 : Int) ≤ (k : Int) := by omega
            have hki : (k : Int) < (bs.length : Int) := by omega
            obtain ⟨wb, rfl⟩ : ∃ wb, wb = wr := ⟨_, rfl⟩
            have hbw : Below w0.heap.size w0 wb := HB.out.trans ((HBW.out.mono (Nat.le_trans HWB.out HZ.out.1)).trans (HBK.out.mono HWB.out))
            have HQ := Lib.hid (flat_snoc (ltCn n) bs k hlt c1)
            have HKk := Lib.hid (HKB.out _ (List.getElem_mem hlt))
            have HXA := Lib.hid (HBS.out.2 _ (List.getElem_mem hlt))
            have hck' := (hck k hlt).up hbw ha2
            clear hck
            obtain ⟨x, hx⟩ : ∃ x, x = bs[k] := ⟨_, rfl⟩
            rw [← hx] at hck' HQ HKk HXA
            clear hx
            obtain ⟨y0, y1, y2, y3, y4, y5, y6, y7, y8, y9, y10, y11, y12, y13, y14, y15⟩ := hck'
            obtain ⟨q, cq, hsv, hm, hts⟩ := HXA.out.at_
            unfold maxLen at hm
            rw [hsv] at y2
            clear hsv
            obtain ⟨pl, cl, hsl⟩ := ex_sl2 HXA.out.l_
            obtain ⟨pg, cg, hsg⟩ := ex_sl2 HXA.out.g_
            rw [hsl] at y9
            rw [hsg] at y15
            have HSL := Lib.hid hsl; clear hsl
            have HSG := Lib.hid hsg; clear hsg
            have HTS := Lib.hid hts; clear hts
            obtain ⟨V, hV⟩ : ∃ V, V = wb.alloc (.cells #[.int .i8 x.k, .string x.p, .slice q x.ts.length cq, .int .i8 x.r, .int .i8 (exOp d x.l), .string (exTm d x.l).v, .int .i8 (exTm d x.l).x.k, .int .i64 (exTm d x.l).x.n, .string (exTm d x.l).x.t, .slice pl (exLen d x.l) cl, .int .i8 (exOp d x.g), .string (exTm d x.g).v, .int .i8 (exTm d x.g).x.k, .int .i64 (exTm d x.g).x.n, .string (exTm d x.g).x.t, .slice pg (exLen d x.g) cg] 114) := ⟨_, rfl⟩
            have HBV := Lib.hid (show Below wb.heap.size wb V by rw [hV]; exact below_alloc _ _)
            have hsV : V.heap.size = wb.heap.size + 1 := by rw [hV]; simp
            have HAV := Lib.hid (HG.out.apart_new hsV)
            obtain ⟨v0, v1, v2, v3, v4, v5, v6, v7, v8, v9, v10, v11, v12, v13, v14, v15⟩ := sixteen (show V.heap[wb.heap.size]? = some (.cells #[.int .i8 x.k, .string x.p, .slice q x.ts.length cq, .int .i8 x.r, .int .i8 (exOp d x.l), .string (exTm d x.l).v, .int .i8 (exTm d x.l).x.k, .int .i64 (exTm d x.l).x.n, .string (exTm d x.l).x.t, .slice pl (exLen d x.l) cl, .int .i8 (exOp d x.g), .string (exTm d x.g).v, .int .i8 (exTm d x.g).x.k, .int .i64 (exTm d x.g).x.n, .string (exTm d x.g).x.t, .slice pg (exLen d x.g) cg] 114 (0, 0)) by rw [hV]; exact heap_alloc_new wb _)
            have HVz := Lib.hid (show Below w0.heap.size w0 V from hbw.trans (HBV.out.mono hbw.size))
            have HBKV := Lib.hid (HBK.out.trans (HBV.out.mono HG.out.size.1))
            have HGFV := Lib.hid (HGF.out.trans (.of_below HBV.out))
            have HGV := Lib.hid (HG.out.off (w' := V) HBV.out.block)
            have HVs := Lib.hid hsV; clear hsV hbw
            have hor : (x.k == 3) = true ∨ (x.k == 3) = false := by cases (x.k == 3) <;> simp
            have V1 := Lib.hid v1
            have V2 := Lib.hid v2
            clear v1 v2 v3
            rcases hor with q3 | q3
            · have HLT : Hid (ltCn n x = (exCn n d x.l ++ (exCn n d x.g ++ joinSr (exSr n d x.l) (exSr n d x.g))) ++ idxd (tsCn n x.p) 0 x.ts) := Lib.hid (by
                unfold ltCn
                rw [if_pos (by simpa using q3)])
              have HS0 : G17 b0 g m Kn (c1 ++ (bs.take k).flatMap (ltCn n)) (exCn n d x.l) (exCn n d x.g) (exSr n d x.l) (exSr n d x.g) s' V none none V := ⟨s', by simpa [opt] using HGV.out, Keeps.refl _ _, Below.refl _ _, Gfr.refl _ _ _ _, (fun a h => nomatch h), (fun a h => nomatch h)⟩
              have HS := Lib.hid HS0.drew; clear HS0
              go_wp2_with fail
              rw [← hV]
              clear hV y0 y1 y2 y3 y4 y5 y6 y7 y8 y9 y10 y11 y12 y13 y14 y15
              go_region_held3 (fun w' => w'.cell? ⟨wb.heap.size, 4, none⟩ = V.cell? ⟨wb.heap.size, 4, none⟩ ∧ w'.cell? ⟨wb.heap.size, 5, none⟩ = V.cell? ⟨wb.heap.size, 5, none⟩ ∧ w'.cell? ⟨wb.heap.size, 6, none⟩ = V.cell? ⟨wb.heap.size, 6, none⟩ ∧ w'.cell? ⟨wb.heap.size, 7, none⟩ = V.cell? ⟨wb.heap.size, 7, none⟩ ∧ w'.cell? ⟨wb.heap.size, 8, none⟩ = V.cell? ⟨wb.heap.size, 8, none⟩ ∧ w'.cell? ⟨wb.heap.size, 9, none⟩ = V.cell? ⟨wb.heap.size, 9, none⟩ ∧ w'.cell? ⟨wb.heap.size, 10, none⟩ = V.cell? ⟨wb.heap.size, 10, none⟩ ∧ w'.cell? ⟨wb.heap.size, 11, none⟩ = V.cell? ⟨wb.heap.size, 11, none⟩ ∧ w'.cell? ⟨wb.heap.size, 12, none⟩ = V.cell? ⟨wb.heap.size, 12, none⟩ ∧ w'.cell? ⟨wb.heap.size, 13, none⟩ = V.cell? ⟨wb.heap.size, 13, none⟩ ∧ w'.cell? ⟨wb.heap.size, 14, none⟩ = V.cell? ⟨wb.heap.size, 14, none⟩ ∧ w'.cell? ⟨wb.heap.size, 15, none⟩ = V.cell? ⟨wb.heap.size, 15, none⟩)
                (first | exact ⟨HF.out.cell HAV.out 4, HF.out.cell HAV.out 5, HF.out.cell HAV.out 6, HF.out.cell HAV.out 7, HF.out.cell HAV.out 8, HF.out.cell HAV.out 9, HF.out.cell HAV.out 10, HF.out.cell HAV.out 11, HF.out.cell HAV.out 12, HF.out.cell HAV.out 13, HF.out.cell HAV.out 14, HF.out.cell HAV.out 15⟩ | exact ⟨HS.out.cell HAV.out 4, HS.out.cell HAV.out 5, HS.out.cell HAV.out 6, HS.out.cell HAV.out 7, HS.out.cell HAV.out 8, HS.out.cell HAV.out 9, HS.out.cell HAV.out 10, HS.out.cell HAV.out 11, HS.out.cell HAV.out 12, HS.out.cell HAV.out 13, HS.out.cell HAV.out 14, HS.out.cell HAV.out 15⟩)
                (first
                  | (go_at_call 47
                     have HC := g17_L (e := x.l) HKV.out HN.out HWB.out HVz.out HXA.out.l_ HS.out
                     unfold exV at HC
                     rw [HSL.out] at HC
                     refine HC.mono ?_
                     clear HC
                     rintro e w2 ⟨a, rfl, hs2⟩
                     have HS := Lib.hid hs2
                     clear hs2
                     unfold ptrOf)
                  | (go_at_call 47
                     have HC := g17_G (e := x.g) HKV.out HN.out HWB.out HVz.out HXA.out.g_ HS.out
                     unfold exV at HC
                     rw [HSG.out] at HC
                     refine HC.mono ?_
                     clear HC
                     rintro e w2 ⟨b, rfl, hs2⟩
                     have HS := Lib.hid hs2
                     clear hs2
                     unfold ptrOf)
                  | (go_at_call 46
                     refine (g17_J HS.out).mono ?_
                     rintro e w2 ⟨rfl, hs2⟩
                     have HF := Lib.hid hs2
                     clear hs2))
              all_goals
                clear v4 v5 v6 v7 v8 v9 v10 v11 v12 v13 v14 v15
                have r2 := (HF.out.cell HAV.out 2).trans V2.out
                go_wp2_with fail
                clear r2
                obtain ⟨cF, hcF⟩ : ∃ cF, cF = (c1 ++ (bs.take k).flatMap (ltCn n)) ++ (exCn n d x.l ++ (exCn n d x.g ++ joinSr (exSr n d x.l) (exSr n d x.g))) := ⟨_, rfl⟩
                rw [← hcF] at HF
                have HCF := Lib.hid hcF; clear hcF
                go_loopw [11, 12, 106] (fun _ _ i wr => ∃ j : Nat, j ≤ x.ts.length ∧ i = .int .i64 j ∧ GRel b0 g m Kn (cF ++ idxd (tsCn n x.p) 0 (x.ts.take j)) s' V wr) (fun _ _ i _ => x.ts.length - (intOf i).toNat)
                case atStart => exact ⟨0, by omega, rfl, by simpa [idxd] using HF.out⟩
                case round =>
                  clear HF
                  obtain ⟨j, hj, rfl, s2, hg, hkp, hbk, hgf⟩ := hrel
                  have HG2 := Lib.hid hg; clear hg
                  have HKP2 := Lib.hid hkp; clear hkp
                  have HBK2 := Lib.hid hbk; clear hbk
                  have HGF2 := Lib.hid hgf; clear hgf
                  by_cases hlt2 : j < x.ts.length
                  · rcases HTS.out with h0 | ⟨a3, o3, rfl, hta⟩
                    · omega
                    · have hj0 : (0 : Int) ≤ (j : Int) := by omega
                      have hji : (j : Int) < (x.ts.length : Int) := by omega
                      have hbw2 : Below w0.heap.size w0 wr := HVz.out.trans (HBK2.out.mono HWB.out)
                      have HQ2 := Lib.hid (idxd_snoc0 (tsCn n x.p) x.ts j hlt2 cF)
                      have HKj := Lib.hid (HKk.out j hlt2)
                      have hct := (hta.at_ j hlt2).up hbw2 hta.lt
                      obtain ⟨t, ht⟩ : ∃ t, t = x.ts[j] := ⟨_, rfl⟩
                      rw [← ht] at hct HQ2
                      clear ht hta hbw2
                      obtain ⟨t0, t1, t2, t3⟩ := hct
                      obtain ⟨U, hU⟩ : ∃ U, U = wr.alloc (.cells #[.string t.v, .int .i8 t.x.k, .int .i64 t.x.n, .string t.x.t] 93) := ⟨_, rfl⟩
                      have HBU := Lib.hid (show Below wr.heap.size wr U by rw [hU]; exact below_alloc _ _)
                      have hsU : U.heap.size = wr.heap.size + 1 := by rw [hU]; simp
                      have HAU := Lib.hid (HG2.out.apart_new hsU)
                      obtain ⟨u0, u1, u2, u3⟩ := four (show U.heap[wr.heap.size]? = some (.cells #[.string t.v, .int .i8 t.x.k, .int .i64 t.x.n, .string t.x.t] 93 (0, 0)) by rw [hU]; exact heap_alloc_new wr _)
                      have HGU := Lib.hid (HGF2.out.trans (.of_below HBU.out))
                      have HAL := Lib.hid (HGU.out.apart HAV.out).1
                      have b1 : U.cell? ⟨wb.heap.size, 1, none⟩ = some (.string x.p) := by rw [World.cell?_of_block (w := V) ((HGU.out.apart HAV.out).2)]; exact V1.out
                      have HS0 : G21 b0 g m Kn (cF ++ idxd (tsCn n x.p) 0 (x.ts.take j)) (tmSr n t) ⟨-1, x.p, j⟩ s2 U none none none U := ⟨s2, HG2.out.off HBU.out.block, Keeps.refl _ _, Below.refl _ _, Gfr.refl _ _ _ _, (fun a h => nomatch h), (fun a h => nomatch h), (fun a h => nomatch h)⟩
                      have HS := Lib.hid HS0.drew; clear HS0 hsU
                      go_wp2_with fail
                      rw [← hU]
                      clear hU t0 t1 t2 t3
                      go_region_held3 (fun w' => w'.cell? ⟨wr.heap.size, 0, none⟩ = U.cell? ⟨wr.heap.size, 0, none⟩ ∧ w'.cell? ⟨wr.heap.size, 1, none⟩ = U.cell? ⟨wr.heap.size, 1, none⟩ ∧ w'.cell? ⟨wr.heap.size, 2, none⟩ = U.cell? ⟨wr.heap.size, 2, none⟩ ∧ w'.cell? ⟨wr.heap.size, 3, none⟩ = U.cell? ⟨wr.heap.size, 3, none⟩ ∧ w'.cell? ⟨wb.heap.size, 1, none⟩ = U.cell? ⟨wb.heap.size, 1, none⟩)
                        (first | exact ⟨HE.out.cell HAU.out 0, HE.out.cell HAU.out 1, HE.out.cell HAU.out 2, HE.out.cell HAU.out 3, HE.out.cell HAL.out 1⟩ | exact ⟨HS.out.cell HAU.out 0, HS.out.cell HAU.out 1, HS.out.cell HAU.out 2, HS.out.cell HAU.out 3, HS.out.cell HAL.out 1⟩)
                        (first
                          | (go_at_call 45
                             refine (g21_T (t := t) HKV.out HN.out HS.out).mono ?_
                             rintro e w3 ⟨a, rfl, hs2⟩
                             have HS := Lib.hid hs2
                             clear hs2
                             unfold ptrOf)
                          | (go_at_call 42
                             refine (g21_F HKj.out HS.out).mono ?_
                             rintro e w3 ⟨c, rfl, hs2⟩
                             have HS := Lib.hid hs2
                             clear hs2
                             unfold ptrOf)
                          | (go_at_call 24
                             refine (g21_P HS.out).mono ?_
                             rintro e w3 ⟨b, rfl, hs2⟩
                             have HS := Lib.hid hs2
                             clear hs2
                             unfold ptrOf)
                          | (go_at_call 46
                             refine (g21_J HS.out).mono ?_
                             rintro e w3 ⟨rfl, hs2⟩
                             have HE := Lib.hid hs2
                             clear hs2))
                      all_goals
                        clear u0 u1 u2 u3 b1
                        have HR := Lib.hid (show GRel b0 g m Kn (cF ++ idxd (tsCn n x.p) 0 (x.ts.take (j + 1))) s' V _ from by
                          rw [← HQ2.out]
                          exact HE.out.then HKP2.out (HBK2.out.trans (HBU.out.mono HG2.out.size.1)) HGU.out)
                        go_wp2_with fail
                        go_roundw
                        case rel => exact ⟨j + 1, by omega, by go_num, HR.out⟩
                        case measure => simp [intOf]; omega
                  · obtain rfl : j = x.ts.length := by omega
                    have HR : Hid (GRel b0 g m Kn (c1 ++ (bs.take (k + 1)).flatMap (ltCn n)) s W wr) := Lib.hid (by
                      rw [← HQ.out, HLT.out, ← List.append_assoc, ← HCF.out]
                      have h9 : GRel b0 g m Kn (cF ++ idxd (tsCn n x.p) 0 (x.ts.take x.ts.length)) s' V wr := ⟨s2, HG2.out, HKP2.out, HBK2.out, HGF2.out⟩
                      rw [List.take_of_length_le (Nat.le_refl _)] at h9
                      exact h9.then HKP.out HBKV.out HGFV.out)
                    go_wp2_with fail
                    go_roundw
                    case rel => exact ⟨k + 1, by omega, by go_num, HR.out⟩
                    case measure => simp [intOf]; omega
            · have HLT : Hid (ltCn n x = [] ++ idxd (tsCn n x.p) 0 x.ts) := Lib.hid (by
                unfold ltCn
                rw [if_neg (by simpa using q3)])
              have HF0 : GRel b0 g m Kn ((c1 ++ (bs.take k).flatMap (ltCn n)) ++ []) s' V V := ⟨s', by simpa using HGV.out, Keeps.refl _ _, Below.refl _ _, Gfr.refl _ _ _ _⟩
              have HF := Lib.hid HF0; clear HF0
              have r2 := (HF.out.cell HAV.out 2).trans V2.out
              rw [hV] at r2
              go_wp2_with fail
              rw [← hV]
              clear hV y0 y1 y2 y3 y4 y5 y6 y7 y8 y9 y10 y11 y12 y13 y14 y15 v0 v4 v5 v6 v7 v8 v9 v10 v11 v12 v13 v14 v15
              clear r2
              obtain ⟨cF, hcF⟩ : ∃ cF, cF = (c1 ++ (bs.take k).flatMap (ltCn n)) ++ [] := ⟨_, rfl⟩
              rw [← hcF] at HF
              have HCF := Lib.hid hcF; clear hcF
              go_loopw [11, 12, 106] (fun _ _ i wr => ∃ j : Nat, j ≤ x.ts.length ∧ i = .int .i64 j ∧ GRel b0 g m Kn (cF ++ idxd (tsCn n x.p) 0 (x.ts.take j)) s' V wr) (fun _ _ i _ => x.ts.length - (intOf i).toNat)
              case atStart => exact ⟨0, by omega, rfl, by simpa [idxd] using HF.out⟩
              case round =>
                clear HF
                obtain ⟨j, hj, rfl, s2, hg, hkp, hbk, hgf⟩ := hrel
                have HG2 := Lib.hid hg; clear hg
                have HKP2 := Lib.hid hkp; clear hkp
                have HBK2 := Lib.hid hbk; clear hbk
                have HGF2 := Lib.hid hgf; clear hgf
                by_cases hlt2 : j < x.ts.length
                · rcases HTS.out with h0 | ⟨a3, o3, rfl, hta⟩
                  · omega
                  · have hj0 : (0 : Int) ≤ (j : Int) := by omega
                    have hji : (j : Int) < (x.ts.length : Int) := by omega
                    have hbw2 : Below w0.heap.size w0 wr := HVz.out.trans (HBK2.out.mono HWB.out)
                    have HQ2 := Lib.hid (idxd_snoc0 (tsCn n x.p) x.ts j hlt2 cF)
                    have HKj := Lib.hid (HKk.out j hlt2)
                    have hct := (hta.at_ j hlt2).up hbw2 hta.lt
                    obtain ⟨t, ht⟩ : ∃ t, t = x.ts[j] := ⟨_, rfl⟩
                    rw [← ht] at hct HQ2
                    clear ht hta hbw2
                    obtain ⟨t0, t1, t2, t3⟩ := hct
                    obtain ⟨U, hU⟩ : ∃ U, U = wr.alloc (.cells #[.string t.v, .int .i8 t.x.k, .int .i64 t.x.n, .string t.x.t] 93) := ⟨_, rfl⟩
                    have HBU := Lib.hid (show Below wr.heap.size wr U by rw [hU]; exact below_alloc _ _)
                    have hsU : U.heap.size = wr.heap.size + 1 := by rw [hU]; simp
                    have HAU := Lib.hid (HG2.out.apart_new hsU)
                    obtain ⟨u0, u1, u2, u3⟩ := four (show U.heap[wr.heap.size]? = some (.cells #[.string t.v, .int .i8 t.x.k, .int .i64 t.x.n, .string t.x.t] 93 (0, 0)) by rw [hU]; exact heap_alloc_new wr _)
                    have HGU := Lib.hid (HGF2.out.trans (.of_below HBU.out))
                    have HAL := Lib.hid (HGU.out.apart HAV.out).1
                    have b1 : U.cell? ⟨wb.heap.size, 1, none⟩ = some (.string x.p) := by rw [World.cell?_of_block (w := V) ((HGU.out.apart HAV.out).2)]; exact V1.out
                    have HS0 : G21 b0 g m Kn (cF ++ idxd (tsCn n x.p) 0 (x.ts.take j)) (tmSr n t) ⟨-1, x.p, j⟩ s2 U none none none U := ⟨s2, HG2.out.off HBU.out.block, Keeps.refl _ _, Below.refl _ _, Gfr.refl _ _ _ _, (fun a h => nomatch h), (fun a h => nomatch h), (fun a h => nomatch h)⟩
                    have HS := Lib.hid HS0.drew; clear HS0 hsU
                    go_wp2_with fail
                    rw [← hU]
                    clear hU t0 t1 t2 t3
                    go_region_held3 (fun w' => w'.cell? ⟨wr.heap.size, 0, none⟩ = U.cell? ⟨wr.heap.size, 0, none⟩ ∧ w'.cell? ⟨wr.heap.size, 1, none⟩ = U.cell? ⟨wr.heap.size, 1, none⟩ ∧ w'.cell? ⟨wr.heap.size, 2, none⟩ = U.cell? ⟨wr.heap.size, 2, none⟩ ∧ w'.cell? ⟨wr.heap.size, 3, none⟩ = U.cell? ⟨wr.heap.size, 3, none⟩ ∧ w'.cell? ⟨wb.heap.size, 1, none⟩ = U.cell? ⟨wb.heap.size, 1, none⟩)
                      (first | exact ⟨HE.out.cell HAU.out 0, HE.out.cell HAU.out 1, HE.out.cell HAU.out 2, HE.out.cell HAU.out 3, HE.out.cell HAL.out 1⟩ | exact ⟨HS.out.cell HAU.out 0, HS.out.cell HAU.out 1, HS.out.cell HAU.out 2, HS.out.cell HAU.out 3, HS.out.cell HAL.out 1⟩)
                      (first
                        | (go_at_call 45
                           refine (g21_T (t := t) HKV.out HN.out HS.out).mono ?_
                           rintro e w3 ⟨a, rfl, hs2⟩
                           have HS := Lib.hid hs2
                           clear hs2
                           unfold ptrOf)
                        | (go_at_call 42
                           refine (g21_F HKj.out HS.out).mono ?_
                           rintro e w3 ⟨c, rfl, hs2⟩
                           have HS := Lib.hid hs2
                           clear hs2
                           unfold ptrOf)
                        | (go_at_call 24
                           refine (g21_P HS.out).mono ?_
                           rintro e w3 ⟨b, rfl, hs2⟩
                           have HS := Lib.hid hs2
                           clear hs2
                           unfold ptrOf)
                        | (go_at_call 46
                           refine (g21_J HS.out).mono ?_
                           rintro e w3 ⟨rfl, hs2⟩
                           have HE := Lib.hid hs2
                           clear hs2))
                    all_goals
                      clear u0 u1 u2 u3 b1
                      have HR := Lib.hid (show GRel b0 g m Kn (cF ++ idxd (tsCn n x.p) 0 (x.ts.take (j + 1))) s' V _ from by
                        rw [← HQ2.out]
                        exact HE.out.then HKP2.out (HBK2.out.trans (HBU.out.mono HG2.out.size.1)) HGU.out)
                      go_wp2_with fail
                      go_roundw
                      case rel => exact ⟨j + 1, by omega, by go_num, HR.out⟩
                      case measure => simp [intOf]; omega
                · obtain rfl : j = x.ts.length := by omega
                  have HR : Hid (GRel b0 g m Kn (c1 ++ (bs.take (k + 1)).flatMap (ltCn n)) s W wr) := Lib.hid (by
                    rw [← HQ.out, HLT.out, ← List.append_assoc, ← HCF.out]
                    have h9 : GRel b0 g m Kn (cF ++ idxd (tsCn n x.p) 0 (x.ts.take x.ts.length)) s' V wr := ⟨s2, HG2.out, HKP2.out, HBK2.out, HGF2.out⟩
                    rw [List.take_of_length_le (Nat.le_refl _)] at h9
                    exact h9.then HKP.out HBKV.out HGFV.out)
                  go_wp2_with fail
                  go_roundw
                  case rel => exact ⟨k + 1, by omega, by go_num, HR.out⟩
                  case measure => simp [intOf]; omega
        · obtain rfl : k = bs.length := by omega
          have HE := Lib.hid (show (bs.take bs.length) = bs from List.take_of_length_le (Nat.le_refl _))
          have HP := Lib.hid (show GPost b0 g m Kn cz (fun _ => False) s w isUnit (.returned (.tuple #[])) wr from by
            have h9 := HG.out
            rw [HE.out, ← HRU2.out] at h9
            exact ⟨_, s', rfl, rfl, h9, HKP.out, (HBW.out.mono HZ.out.1).trans HBK.out, (Gfr.of_below HBW.out).trans HGF.out⟩)
          go_wp2_with fail
          go_end0
          exact HP.out
end Go.Proofs.YtafjjececdhmjaaGreat
