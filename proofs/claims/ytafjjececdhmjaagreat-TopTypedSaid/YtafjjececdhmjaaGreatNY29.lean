/- The contract of types.Infer. Conditions: the rules lie in memory as they are told. -/
import Derived.Test.YtafjjececdhmjaaGreatNKj
import Derived.Deep.RegionHeld3
namespace Go.Proofs.YtafjjececdhmjaaGreat
open Go.RowKit Go.Maps

theorem take_snocP {α : Type} {P : α → Prop} {l : List α} {k : Nat} (hk : k < l.length) (h : ∀ x ∈ l.take k, P x) (hx : P l[k]) : ∀ x ∈ l.take (k + 1), P x := fun x hxm => (take_mem hk).1 hxm |>.elim (h x) (fun e => by rw [e]; exact hx)
/-- A list of rules in memory, read at a later world. -/
theorem RusAt.get {w wr : World} {d : Nat} {p : Option Addr} {xs : List (Ru d)} (h : RusAt w d p xs) (hb : Below w.heap.size w wr) {k : Nat} (hk : k < xs.length) : ∃ a o, p = some ⟨a, o, none⟩ ∧ RuCell wr a (o + k * 3) xs[k] ∧ RuAt wr xs[k] := by
  rcases h.1 with h0 | ⟨a, o, hp, ha, hc⟩
  · omega
  · exact ⟨a, o, hp, (hc k hk).up hb ha, (h.2 _ (List.getElem_mem hk)).up hb⟩
theorem cns_pre {d : Nat} {xs : List (Ru d)} (k : Nat) (h : Cns (proPr xs)) : Cns (proPr (xs.take k)) := fun v n m h1 h2 => by
  have hs : ∀ y, y ∈ proPr (xs.take k) → y ∈ proPr xs := fun y hy => by
    obtain ⟨x, hx, h3⟩ := List.mem_flatMap.1 hy
    exact List.mem_flatMap.2 ⟨x, List.mem_of_mem_take hx, h3⟩
  exact h v n m (hs _ h1) (hs _ h2)
theorem torn_pre {d : Nat} {xs : List (Ru d)} (k : Nat) (h : Torn (idxd ruCnI 0 (xs.take k))) : Torn (proCn xs) := h.mono fun c hc => by
  obtain ⟨j, hj, h1⟩ := mem_idxd.1 hc
  rw [List.getElem_take] at h1
  exact mem_idxd.2 ⟨j, by rw [List.length_take] at hj; omega, h1⟩
/-- The state of Infer's work on arities. -/
structure InA {d : Nat} (xs : List (Ru d)) (k : Nat) (w : World) (p : Option Addr) (cap bm : Nat) (wr : World) : Prop where
  bw : Below w.heap.size w wr
  x0 : wr.cell? ⟨w.heap.size, 0, none⟩ = some (.slice p xs.length cap)
  bl : w.heap.size < bm
  map_ : ∃ D, wr.ownsMap Tryz.prog 9 (plainElem Tryz.prog 3) bm (17 * k) D ∧ Ar (proPr (xs.take k)) true D
theorem InA.below {d : Nat} {xs : List (Ru d)} {k : Nat} {w : World} {p : Option Addr} {cap bm : Nat} {wr w' : World} (h : InA xs k w p cap bm wr) (hb : Below wr.heap.size wr w') : InA xs k w p cap bm w' := by
  obtain ⟨D, ⟨es, clock, h1, h2⟩, h3⟩ := h.map_
  exact ⟨h.bw.trans (hb.mono h.bw.size), (hb.cell (p := ⟨w.heap.size, 0, none⟩) (World.block_lt_of_cell? wr ⟨w.heap.size, 0, none⟩ h.x0)).trans h.x0, h.bl, D, ⟨es, clock, (hb.block bm (Array.getElem?_eq_some_iff.1 h1).1).trans h1, h2⟩, h3⟩
theorem proPr_snoc {d : Nat} (xs : List (Ru d)) (k : Nat) (h : k < xs.length) : proPr (xs.take (k + 1)) = proPr (xs.take k) ++ rpr xs[k].p xs[k].hs xs[k].bs := by
  have := flat_snoc' prOf xs k h []
  simpa [proPr, prOf] using this.symm
/-- A rule's arities have been told. -/
theorem InA.step {d : Nat} {xs : List (Ru d)} {k : Nat} {w : World} {p : Option Addr} {cap bm : Nat} {wr w' : World} (h : InA xs k w p cap bm wr) (hk : k < xs.length) (hu : UseOk xs[k]) {ok : Bool} (hg : wr.grownBy w' (some bm)) (hm : ∃ D, w'.ownsMap Tryz.prog 9 (plainElem Tryz.prog 3) bm (17 * k + 1 + xs[k].bs.length) D ∧ Ar (proPr (xs.take k) ++ rpr xs[k].p xs[k].hs xs[k].bs) ok D) :
    Below w.heap.size w w' ∧ (ok = true → InA xs (k + 1) w p cap bm w') ∧ (ok = false → ¬ Good xs) := by
  obtain ⟨D, h1, h2⟩ := hm
  rw [← proPr_snoc xs k hk] at h2
  have hbw := h.bw.grown hg h.bw.size (fun g hg' => by have := h.bl; have : bm = g := by simpa using hg'
                                                       omega)
  refine ⟨hbw, fun ho => ⟨hbw, ?_, h.bl, D, h1.mono ?_, by rw [ho] at h2; exact h2⟩, fun ho hG => ?_⟩
  · exact (World.cell?_of_block (w := wr) (a := ⟨w.heap.size, 0, none⟩) (hg.block w.heap.size (World.block_lt_of_cell? wr ⟨w.heap.size, 0, none⟩ h.x0) (fun e => by
      have h8 := h.bl
      have h9 : w.heap.size = bm := by simpa using e
      omega))).trans h.x0
  · have hb := hu.1
    unfold ruOk at hb
    simp only [Bool.and_eq_true, decide_eq_true_eq] at hb
    omega
  · have := h2.2.2.2 (cns_pre (k + 1) hG.2.1)
    rw [ho] at this
    cases this
/-- A new graph. -/
theorem gst_new {Kn : Pl → Prop} {wr V3 : World} {m : Nat} (hm : m = wr.heap.size) (hV : V3 = (wr.alloc (.map #[] 0)).alloc (.cells #[.map (some m), .bool false] 66)) : Gst m (m + 1) m Kn [] ⟨fun _ => False, fun _ => none, fun _ => 0, [], false⟩ V3 := by
  refine ⟨⟨66, ?_⟩, ⟨#[], 0, ?_, rfl, by simp [MapKept.Stamped]⟩, ⟨by omega, by omega, fun a h => h.elim⟩, ⟨fun a h => h.elim, fun a b h _ => h.elim⟩, ⟨fun _ => 0, fun a b h => by cases h⟩, fun _ _ => rfl, fun a h => h.elim, fun x hx => by simp at hx, fun p a b h => by simp at h, fun _ => ⟨fun p t h => by simp at h, fun p q h => by simp at h, by simp, fun p a q b r h => by simp at h, fun p a r h => by simp at h⟩, fun h => nomatch h⟩
  · rw [hV, hm]
    have h := heap_alloc_new (wr.alloc (.map #[] 0)) (.cells #[.map (some wr.heap.size), .bool false] 66)
    simpa using h
  · rw [hV, hm, Lib.alloc_old _ _ _ (by simp)]
    exact heap_alloc_new wr _
theorem InA.belowM {d : Nat} {xs : List (Ru d)} {k : Nat} {w : World} {p : Option Addr} {cap bm m : Nat} {wr w' : World} (h : InA xs k w p cap bm wr) (hb : Below m wr w') (h1 : w.heap.size ≤ m) (h2 : w.heap.size < m) (h3 : bm < m) : InA xs k w p cap bm w' := by
  obtain ⟨D, ⟨es, clock, h4, h5⟩, h6⟩ := h.map_
  exact ⟨h.bw.trans (hb.mono h1), (hb.cell (p := ⟨w.heap.size, 0, none⟩) h2).trans h.x0, h.bl, D, ⟨es, clock, (hb.block bm h3).trans h4, h5⟩, h6⟩
/-- The state of Infer's work on the graph. -/
structure InG {d : Nat} (xs : List (Ru d)) (k m : Nat) (V3 wr : World) : Prop where
  gs : ∃ s', Gst m (m + 1) m (KnP (proPr xs)) (idxd ruCnI 0 (xs.take k)) s' wr ∧ s'.tn = false
  bw : Below m V3 wr
/-- How many entries are still to come. -/
def rangeN (r : Nat) (es : Array MapEntry) (w : World) : Nat := match w.heap[r]? with
  | some (.mapIter _ _ seen _) => (leftOf es seen).size
  | _ => 0
theorem rangeN_of {r m since c0 : Nat} {es : Array MapEntry} {seen : Array Nat} {w : World} (h : w.heap[r]? = some (.mapIter (some m) since seen c0)) : rangeN r es w = (leftOf es seen).size := by
  unfold rangeN
  rw [h]
theorem mem_leftOf {es : Array MapEntry} {seen : Array Nat} {e : MapEntry} (h : e ∈ (leftOf es seen).toList) : e ∈ es.toList ∧ e.born ∉ seen := by
  unfold leftOf at h
  simp at h
  simpa using h
theorem left_less {es : Array MapEntry} {seen : Array Nat} {e : MapEntry} (h : e ∈ (leftOf es seen).toList) : (leftOf es (seen.push e.born)).size < (leftOf es seen).size := left_shrinks es seen e h
/-- What Infer refuses. -/
def InfBad (w : World) (e : Ending) (w' : World) : Prop := ∃ i c : Int, e = .returned (.tuple #[.slice none 0 0, .int .i64 i, .int .i64 c]) ∧ c ≠ 0 ∧ Below w.heap.size w w'
set_option maxHeartbeats 16000000 in
set_option maxRecDepth 100000 in
theorem tInfer (d : Nat) (p : Option Addr) (cap : Nat) (xs : List (Ru d)) (w : World) (hx : RusAt w d p xs) (hr : ∀ x ∈ xs, RuB x) (hn : xs.length ≤ 1048576) :
    Calls Tryz.prog 6 #[.agg #[.slice p xs.length cap]] w (fun e w' => (¬ Good xs ∧ InfBad w e w') ∨ (Good xs ∧ InfGood xs w e w')) := by
  obtain ⟨W, hW⟩ : ∃ W, W = w.alloc (.cells #[.slice p xs.length cap] 36) := ⟨_, rfl⟩
  have HBW := Lib.hid (show Below w.heap.size w W by rw [hW]; exact below_alloc _ _)
  have HSW := Lib.hid (show W.heap.size = w.heap.size + 1 by rw [hW]; simp)
  have x0 : W.cell? ⟨w.heap.size, 0, none⟩ = some (.slice p xs.length cap) := by rw [hW, Lib.cell_of_heap (heap_alloc_new w _)]; rfl
  have HX := Lib.hid hx; clear hx
  have HR := Lib.hid hr; clear hr
  have HBAD := Lib.hid (show ∀ (i c : Int) w', Below w.heap.size w w' → c ≠ 0 → ¬ Good xs → ((¬ Good xs ∧ InfBad w (.returned (.tuple #[.slice none 0 0, .int .i64 i, .int .i64 c])) w') ∨ (Good xs ∧ InfGood xs w (.returned (.tuple #[.slice none 0 0, .int .i64 i, .int .i64 c])) w')) from fun i c w' h1 h2 h3 => .inl ⟨h3, i, c, rfl, h2, h1⟩)
  obtain ⟨R, hR⟩ : ∃ R : Ending → World → Prop, R = fun e w' => (¬ Good xs ∧ InfBad w e w') ∨ (Good xs ∧ InfGood xs w e w') := ⟨_, rfl⟩
  have HBAD := Lib.hid (show ∀ (i c : Int) w', Below w.heap.size w w' → c ≠ 0 → ¬ Good xs → R (.returned (.tuple #[.slice none 0 0, .int .i64 i, .int .i64 c])) w' by rw [hR]; exact HBAD.out)
  have HGOOD := Lib.hid (show ∀ e w', Good xs → InfGood xs w e w' → R e w' by rw [hR]; exact fun e w' h1 h2 => .inr ⟨h1, h2⟩)
  rw [← hR]
  have HRR := Lib.hid hR; clear hR
  have hmm := @run_makeMap Tryz.prog
  obtain ⟨i0, hi, hzz⟩ := Option.map_eq_some_iff.1 infoSg
  simp only [Prod.mk.injEq] at hzz
  obtain ⟨hz0, hz1, hz2⟩ := hzz
  have HI0 := Lib.hid hi; clear hi
  have HZ0 := Lib.hid hz0; clear hz0
  have HZ1 := Lib.hid hz1; clear hz1
  have HZ2 := Lib.hid hz2; clear hz2
  go_enter Tryz.func6, Tryz.ntmps6
  go_wp2_with fail
  rw [← hW]
  clear hW
  go_loopw [5, 6, 7, 24] (fun _ _ _ i wr => ∃ k : Nat, k ≤ xs.length ∧ i = .int .i64 k ∧ Below w.heap.size w wr ∧ (∀ x ∈ xs.take k, UseOk x) ∧ wr.cell? ⟨w.heap.size, 0, none⟩ = some (.slice p xs.length cap)) (fun _ _ _ i _ => xs.length - (intOf i).toNat)
  case atStart => exact ⟨0, by omega, rfl, HBW.out, by simp, x0⟩
  case round =>
    clear x0
    obtain ⟨k, hk, rfl, hb, hu, x0⟩ := hrel
    have HB := Lib.hid hb; clear hb
    have HU := Lib.hid hu; clear hu
    by_cases hlt : k < xs.length
    · have hk0 : (0 : Int) ≤ (k : Int) := by omega
      have hki : (k : Int) < (xs.length : Int) := by omega
      obtain ⟨a2, o2, rfl, ⟨y0, y1, y2⟩, hra⟩ := HX.out.get HB.out hlt
      have HRA := Lib.hid hra; clear hra
      have HRB := Lib.hid (HR.out _ (List.getElem_mem hlt))
      have HMEM := Lib.hid (List.getElem_mem hlt)
      have HSN := Lib.hid (fun h => take_snocP (P := UseOk) hlt HU.out h)
      obtain ⟨x, hxx⟩ : ∃ x, x = xs[k] := ⟨_, rfl⟩
      rw [← hxx] at y0 y1 y2 HRA HRB HMEM
      simp only [← hxx] at HSN
      clear hxx
      obtain ⟨V, hV⟩ : ∃ V, V = wr.alloc (.cells #[.string x.p, .slice x.hp x.hs.length x.hc, .slice x.bp x.bs.length x.bc] 41) := ⟨_, rfl⟩
      have HBV := Lib.hid (show Below wr.heap.size wr V by rw [hV]; exact below_alloc _ _)
      have HCK := Lib.hid (tRuleCk d x.p x.hp x.hc x.hs x.bp x.bc x.bs V (HRA.out.up HBV.out).h_ (HRA.out.up HBV.out).b_ HRB.out.r_)
      have hlt0 : w.heap.size < wr.heap.size := World.block_lt_of_cell? wr ⟨w.heap.size, 0, none⟩ x0
      obtain ⟨v0, v1, v2⟩ := three (show V.heap[wr.heap.size]? = some (.cells #[.string x.p, .slice x.hp x.hs.length x.hc, .slice x.bp x.bs.length x.bc] 41 (0, 0)) by rw [hV]; exact heap_alloc_new wr _)
      rw [hV] at v0 v1 v2
      go_wp2_with fail
      rw [← hV]
      clear hV v0 v1 v2 y0 y1 y2
      refine HCK.out.mono ?_
      rintro e w1 ⟨c, rfl, hb1, hc⟩
      have HB1 := Lib.hid (HBV.out.trans (hb1.mono HBV.out.size))
      have HC := Lib.hid hc
      clear hb1 hc
      have x0' := (HB1.out.cell (p := ⟨w.heap.size, 0, none⟩) hlt0).trans x0
      clear x0 hlt0
      have HBB := Lib.hid (HB.out.trans (HB1.out.mono HB.out.size))
      by_cases hc0 : c = 0
      · have HU2 := Lib.hid (HSN.out (HC.out.1 hc0))
        subst hc0
        go_wp2_with fail
        go_roundw
        case rel => exact ⟨k + 1, by omega, by go_num, HBB.out, HU2.out, x0'⟩
        case measure => simp [intOf]; omega
      · have HE := Lib.hid (HBAD.out k c w1 HBB.out hc0 (fun hg => hc0 (HC.out.2 (hg.1 x HMEM.out))))
        go_wp2_with fail
        refine bodyPost_ret (results_tmp3 rfl _ _ _) rfl ?_
        exact HE.out
    · obtain rfl : k = xs.length := by omega
      have HUSE := Lib.hid (show ∀ x ∈ xs, UseOk x from fun x hx => HU.out x (by rw [List.take_of_length_le (Nat.le_refl _)]; exact hx))
      have hlt0 : w.heap.size < wr.heap.size := World.block_lt_of_cell? wr ⟨w.heap.size, 0, none⟩ x0
      obtain ⟨bm, hbm⟩ : ∃ bm, bm = wr.heap.size := ⟨_, rfl⟩
      have HA0 : Hid (InA xs 0 w p cap bm (wr.alloc (.map #[] 0))) := Lib.hid ⟨HB.out.alloc HB.out.size _, (World.cell?_of_block (w := wr) (a := ⟨w.heap.size, 0, none⟩) (Lib.alloc_old wr _ _ hlt0)).trans x0, by omega, .map [], by rw [hbm]; exact World.ownsMap_made wr Tryz.prog 9 (plainElem Tryz.prog 3), Ar.nil⟩
      have x0' := HA0.out.x0
      clear HB HU hlt0 x0
      obtain ⟨V2, hV2⟩ : ∃ V2, V2 = wr.alloc (.map #[] 0) := ⟨_, rfl⟩
      rw [← hV2] at HA0
      rw [hbm] at HA0
      go_wp2_with fail
      rw [← hV2]
      rw [← hbm] at HA0 ⊢
      clear hV2 hbm x0'
      go_loopw [9, 10, 40] (fun _ _ i wr => ∃ k : Nat, k ≤ xs.length ∧ i = .int .i64 k ∧ InA xs k w p cap bm wr) (fun _ _ i _ => xs.length - (intOf i).toNat)
      case atStart => exact ⟨0, by omega, rfl, HA0.out⟩
      case round =>
        clear HA0
        obtain ⟨k, hk, rfl, hia⟩ := hrel
        have HI := Lib.hid hia; clear hia
        by_cases hlt : k < xs.length
        · have hk0 : (0 : Int) ≤ (k : Int) := by omega
          have hki : (k : Int) < (xs.length : Int) := by omega
          obtain ⟨a2, o2, rfl, ⟨y0, y1, y2⟩, hra⟩ := HX.out.get HI.out.bw hlt
          have HRA := Lib.hid hra; clear hra
          have HRB := Lib.hid (HR.out _ (List.getElem_mem hlt))
          have HSH := Lib.hid (ruOk_short (HUSE.out _ (List.getElem_mem hlt)).1)
          have HST := Lib.hid (fun (V : World) (h : InA xs k w (some ⟨a2, o2, none⟩) cap bm V) w' ok hg hm => h.step (w' := w') hlt (HUSE.out _ (List.getElem_mem hlt)) (ok := ok) hg hm)
          obtain ⟨x, hxx⟩ : ∃ x, x = xs[k] := ⟨_, rfl⟩
          rw [← hxx] at y0 y1 y2 HRA HRB HSH
          simp only [← hxx] at HST
          clear hxx
          obtain ⟨V, hV⟩ : ∃ V, V = wr.alloc (.cells #[.string x.p, .slice x.hp x.hs.length x.hc, .slice x.bp x.bs.length x.bc] 41) := ⟨_, rfl⟩
          have HBV := Lib.hid (show Below wr.heap.size wr V by rw [hV]; exact below_alloc _ _)
          have HIV := Lib.hid (HI.out.below HBV.out)
          obtain ⟨D, hm, hA⟩ := HIV.out.map_
          have HAR := Lib.hid (tArities d x.p x.hp x.hc x.hs x.bp x.bc x.bs bm (17 * k) _ D V hm hA (HRA.out.up HBV.out).b_ HRB.out.r_ (by omega) (by have := HSH.out.1; omega) (by have := HSH.out.2.1; omega) (fun f hf => by have := HSH.out.2.2 f hf; omega))
          clear hm hA
          obtain ⟨v0, v1, v2⟩ := three (show V.heap[wr.heap.size]? = some (.cells #[.string x.p, .slice x.hp x.hs.length x.hc, .slice x.bp x.bs.length x.bc] 41 (0, 0)) by rw [hV]; exact heap_alloc_new wr _)
          rw [hV] at v0 v1 v2
          go_wp2_with fail
          rw [← hV]
          clear hV v0 v1 v2 y0 y1 y2
          refine HAR.out.mono ?_
          rintro e w1 ⟨ok, rfl, hg, hm⟩
          obtain ⟨h1, h2, h3⟩ := HST.out V HIV.out w1 ok hg hm
          clear hg hm
          cases ok with
          | true =>
            have HI2 := Lib.hid (h2 rfl)
            clear h1 h2 h3
            go_wp2_with fail
            go_roundw
            case rel => exact ⟨k + 1, by omega, by go_num, HI2.out⟩
            case measure => simp [intOf]; omega
          | false =>
            have HE := Lib.hid (HBAD.out k 72 w1 h1 (by omega) (h3 rfl))
            clear h1 h2 h3
            go_wp2_with fail
            refine bodyPost_ret (results_tmp3 rfl _ _ _) rfl ?_
            exact HE.out
        · obtain rfl : k = xs.length := by omega
          have hAr : ∃ D, wr.ownsMap Tryz.prog 9 (plainElem Tryz.prog 3) bm (17 * xs.length) D ∧ Ar (proPr xs) true D := by
            obtain ⟨D, h1, h2⟩ := HI.out.map_
            rw [List.take_of_length_le (Nat.le_refl _)] at h2
            exact ⟨D, h1, h2⟩
          have HAR := Lib.hid hAr; clear hAr
          have HAR4 : ∀ {w' : World}, InA xs xs.length w p cap bm w' → ∃ D, w'.ownsMap Tryz.prog 9 (plainElem Tryz.prog 3) bm (17 * xs.length) D ∧ Ar (proPr xs) true D := fun h => by
            obtain ⟨D, h1, h2⟩ := h.map_
            rw [List.take_of_length_le (Nat.le_refl _)] at h2
            exact ⟨D, h1, h2⟩
          have HCNS := Lib.hid (show Cns (proPr xs) by
            obtain ⟨D, _, h2⟩ := HAR.out
            exact h2.2.2.1 rfl)
          obtain ⟨m, hm⟩ : ∃ m, m = wr.heap.size := ⟨_, rfl⟩
          obtain ⟨V3, hV3⟩ : ∃ V3, V3 = (wr.alloc (.map #[] 0)).alloc (.cells #[.map (some m), .bool false] 66) := ⟨_, rfl⟩
          have HG0 := Lib.hid (gst_new (Kn := KnP (proPr xs)) hm hV3)
          have HB3 := Lib.hid (show Below wr.heap.size wr V3 by rw [hV3]; exact (below_alloc wr _).alloc (by simp) _)
          have HI3 := Lib.hid (HI.out.below HB3.out)
          have HML := Lib.hid (show w.heap.size ≤ m by rw [hm]; exact HI.out.bw.size)
          have HML2 := Lib.hid (show w.heap.size < m by rw [hm]; exact World.block_lt_of_cell? wr ⟨w.heap.size, 0, none⟩ HI.out.x0)
          have HBML := Lib.hid (show bm < m by
            rw [hm]
            obtain ⟨D, h1, _⟩ := HI.out.map_
            exact h1.lt)
          have x0 := HI.out.x0
          have x0' := HI3.out.x0
          rw [hV3, hm] at x0'
          rw [hm] at hV3
          go_wp2_with fail
          rw [← hV3]
          rw [← hm] at ⊢
          clear hV3 hm x0 x0' HI
          go_loopw [12, 13, 57] (fun _ _ i wr => ∃ k : Nat, k ≤ xs.length ∧ i = .int .i64 k ∧ InG xs k m V3 wr) (fun _ _ i _ => xs.length - (intOf i).toNat)
          case atStart => exact ⟨0, by omega, rfl, ⟨_, HG0.out, rfl⟩, Below.refl _ _⟩
          case round =>
            clear HG0
            obtain ⟨k, hk, rfl, hig⟩ := hrel
            have HI := Lib.hid (HI3.out.belowM hig.bw HML.out HML2.out HBML.out)
            have HG := Lib.hid hig; clear hig
            by_cases hlt : k < xs.length
            · have hk0 : (0 : Int) ≤ (k : Int) := by omega
              have hki : (k : Int) < (xs.length : Int) := by omega
              obtain ⟨a2, o2, rfl, ⟨y0, y1, y2⟩, hra⟩ := HX.out.get HI.out.bw hlt
              have HRA := Lib.hid (HX.out.2 _ (List.getElem_mem hlt)); clear hra
              have HRB := Lib.hid (HR.out _ (List.getElem_mem hlt))
              have HUk := Lib.hid (HUSE.out _ (List.getElem_mem hlt))
              have HKH := Lib.hid (knp_head (List.getElem_mem hlt))
              have HKB := Lib.hid (fun y hy h3 => knp_body (List.getElem_mem hlt) (y := y) hy h3)
              have HSN := Lib.hid (idxd_snoc ruCnI xs 0 k hlt)
              obtain ⟨x, hxx⟩ : ∃ x, x = xs[k] := ⟨_, rfl⟩
              rw [← hxx] at y0 y1 y2 HRA HRB HUk HKH HSN
              simp only [← hxx] at HKB
              clear hxx
              obtain ⟨V, hV⟩ : ∃ V, V = wr.alloc (.cells #[.string x.p, .slice x.hp x.hs.length x.hc, .slice x.bp x.bs.length x.bc] 41) := ⟨_, rfl⟩
              have HBV := Lib.hid (show Below wr.heap.size wr V by rw [hV]; exact below_alloc _ _)
              obtain ⟨s1, hg1, ht1⟩ := HG.out.gs
              have HSZ := Lib.hid hg1.size
              have HRU := Lib.hid (gRule w (KnP.kv _) k (by omega) HML.out d x.p x.hp x.hc x.hs x.bp x.bc x.bs (hg1.off HBV.out.block) (HI.out.bw.trans (HBV.out.mono HI.out.bw.size)) HRA.out.h_ HRA.out.b_ HRB.out.r_ HKH.out (fun y hy i hi => by
                refine HKB.out y hy (fun h3 => ?_) i hi
                have h4 := HUk.out.1
                unfold ruOk at h4
                simp only [Bool.and_eq_true, List.all_eq_true] at h4
                have h5 := h4.1.2 y hy
                unfold ltOk at h5
                rw [if_neg (by omega), if_pos h3] at h5
                simp only [Bool.and_eq_true, decide_eq_true_eq] at h5
                omega))
              clear hg1 ht1
              obtain ⟨v0, v1, v2⟩ := three (show V.heap[wr.heap.size]? = some (.cells #[.string x.p, .slice x.hp x.hs.length x.hc, .slice x.bp x.bs.length x.bc] 41 (0, 0)) by rw [hV]; exact heap_alloc_new wr _)
              rw [hV] at v0 v1 v2
              go_wp2_with fail
              rw [← hV]
              clear hV v0 v1 v2 y0 y1 y2
              refine HRU.out.mono ?_
              rintro e w1 ⟨_, s2, rfl, rfl, hg2, _, hb2, _⟩
              have HG2 := Lib.hid (show Gst m (m + 1) m (KnP (proPr xs)) (idxd ruCnI 0 (xs.take (k + 1))) s2 w1 by
                rw [HSN.out, Nat.zero_add]
                exact hg2)
              have HBB := Lib.hid (HG.out.bw.trans ((HBV.out.mono HSZ.out.1).trans hb2))
              have c1 : w1.cell? ⟨m + 1, 1, none⟩ = some (.bool s2.tn) := by
                obtain ⟨t, hgb⟩ := hg2.gb
                rw [Lib.cell_of_heap hgb]
                rfl
              clear hg2 hb2
              rcases htn : s2.tn with _ | _
              · have HN := Lib.hid (show InG xs (k + 1) m V3 w1 from ⟨⟨s2, HG2.out, htn⟩, HBB.out⟩)
                rw [htn] at c1
                clear htn
                go_wp2_with fail
                go_roundw
                case rel => exact ⟨k + 1, by omega, by go_num, HN.out⟩
                case measure => simp [intOf]; omega
              · have HE := Lib.hid (HBAD.out k 80 w1 (HI3.out.belowM HBB.out HML.out HML2.out HBML.out).bw (by omega) (fun hG => hG.2.2 (torn_pre (k + 1) (HG2.out.sm1 htn))))
                rw [htn] at c1
                clear htn
                go_wp2_with fail
                refine bodyPost_ret (results_tmp3 rfl _ _ _) rfl ?_
                exact HE.out
            · obtain rfl : k = xs.length := by omega
              have HGG := Lib.hid (show InG xs xs.length m V3 wr from HG.out)
              clear HG HI3 HB3
              obtain ⟨V4, hV4⟩ : ∃ V4, V4 = wr := ⟨_, rfl⟩
              obtain ⟨D, hmD, hAD⟩ := HAR4 HI.out
              have HSD := Lib.hid (hAD.2.1 rfl)
              have HA24 := Lib.hid (ar24 HUSE.out)
              clear hAD
              obtain ⟨w5, hrun5, hrg5, hg5, hs5⟩ := hmD.range law_str Tryz.underlying61
              have HBM4 := Lib.hid hmD.lt
              clear hmD
              have HO5 := Lib.hid (OutS.start HSD.out hrg5 hg5 hs5)
              clear hrg5 hg5 hs5
              rw [← hV4] at HO5 HI HGG HBM4
              have HNR := Lib.hid (show V4.heap.size = wr.heap.size by rw [hV4])
              go_wp2_with fail
              rw [← HNR.out]
              clear hrun5 hV4 HNR
              go_loopw [14, 15, 16, 75] (fun v _ _ _ wr => ∃ sg left cnt, OutS V4 bm V4.heap.size (17 * xs.length) D (proPr xs) sg left cnt v wr) (fun _ _ _ _ wr => wr.rangeLeft bm V4.heap.size)
              case atStart => exact ⟨_, _, _, HO5.out⟩
              case round =>
                clear HO5
                obtain ⟨sg, left, cnt, ho⟩ := hrel
                obtain ⟨ps, cs, rfl⟩ := ownR_slice ho.ow
                have HO := Lib.hid ho
                rcases ho.rg.next law_str 0 with ⟨h0, hall, hrun⟩ | ⟨key, val, kl, y, w6, cnt', hkey, hl, hRR, hat, hrun, hrg, hcnt, hg6, hs6, hent⟩
                · have HALL := Lib.hid hall
                  have HSORT := Lib.hid (tSortOut HO.out HALL.out (by omega))
                  have HWB := Lib.hid ho.bw
                  clear ho h0 hall
                  obtain ⟨n, hnn⟩ : ∃ n, n = sg.length := ⟨_, rfl⟩
                  rw [← hnn] at HSORT ⊢
                  have HNB := Lib.hid (show n ≤ 100000000 by have := HO.out.le; omega)
                  clear hnn HO HALL
                  go_wp2_with fail
                  refine HSORT.out.mono ?_
                  rintro e w6 ⟨rfl, dd, blk, hdl, hpv, hblk, hb6, hrow, hco, hnd, hnb, hsok, hz⟩
                  obtain ⟨s', hgs, htn⟩ := HGG.out.gs
                  rw [List.take_of_length_le (Nat.le_refl _)] at hgs
                  have HGOODX := Lib.hid (show Good xs from ⟨HUSE.out, HCNS.out, (hgs.sm0 htn).not_torn hgs.key⟩)
                  obtain ⟨es, clock, hm6, hcol⟩ := ColS.start0 hgs htn hb6 hrow hco hnd hnb hsok hz hblk
                  have HCOL := Lib.hid hcol
                  have HPV := Lib.hid hpv
                  have HDL := Lib.hid hdl
                  obtain ⟨tg, hgb⟩ := hgs.gb
                  have y1 : w6.cell? ⟨m + 1, 0, none⟩ = some (.map (some m)) := by
                    rw [Lib.cell_of_heap ((hb6.block (m + 1) hgs.size.2.1).trans hgb)]
                    rfl
                  have hrr := run_range_map (P := Tryz.prog) w6 64 72 73 m es clock Tryz.underlying64 hm6
                  obtain ⟨w7, hw7⟩ : ∃ w7, w7 = w6.alloc (.mapIter (some m) clock #[] clock) := ⟨_, rfl⟩
                  obtain ⟨r, hrz⟩ : ∃ r, r = w6.heap.size := ⟨_, rfl⟩
                  rw [← hw7, ← hrz] at HCOL
                  clear hdl hpv hblk hb6 hrow hco hnd hnb hsok hz hgs htn hcol hm6 hgb
                  go_wp2_with fail
                  rw [← hw7, ← hrz]
                  clear hw7 hrz hrr y1
                  go_loopw [18, 19, 20, 94] (fun _ _ _ _ wr => ∃ dd s seen c0, dd.length = n ∧ (n = 0 ∨ ps = some ⟨blk, 0, none⟩) ∧ ColS (proPr xs) (proCn xs) V4 m blk r es clock clock c0 dd s seen (fun _ => False) wr) (fun _ _ _ _ wr => rangeN r es wr)
                  case atStart => exact ⟨_, _, _, _, HDL.out, HPV.out, HCOL.out⟩
                  case round =>
                    clear HCOL HDL HPV
                    obtain ⟨dd, s, seen, c0, hdl, hpv, hcol⟩ := hrel
                    have HCOL := Lib.hid hcol
                    have HDL := Lib.hid hdl
                    have HPV := Lib.hid hpv
                    rcases run_next_at (P := Tryz.prog) wr 0 r m clock c0 seen es clock hcol.it hcol.mp hcol.hd.1 hcol.hd.2 with ⟨h0, hrun⟩ | ⟨e, he, w8, hal, hrun⟩
                    · have HE := Lib.hid (HGOOD.out (.returned (.tuple #[.slice ps n cs, .int .i64 0, .int .i64 0])) wr HGOODX.out ⟨ps, cs, dd, by rw [hdl], (HI.out.bw.trans (hcol.bw.mono HML.out)), hcol.ok, (by
                        rcases hpv with h1 | h1
                        · exact .inl (by omega)
                        · exact .inr ⟨blk, h1, by have := hcol.bk.1; have := HI.out.bw.size; omega, hcol.row⟩), fun x hx => ⟨⟨by have := (hcol.co x hx).1; have := HI.out.bw.size; omega, (hcol.co x hx).2⟩, hcol.done h0 x hx⟩⟩)
                      clear hcol hdl hpv h0
                      go_wp2_with fail
                      refine bodyPost_ret (results_tmp3 rfl _ _ _) rfl ?_
                      exact HE.out
                    · obtain ⟨he', hns⟩ := mem_leftOf he
                      obtain ⟨p', a, hpa, hek, hev⟩ := hcol.entry he'
                      obtain ⟨w9, hw9⟩ : ∃ w9, w9 = ChangeMaps.setBlock w8 r (.mapIter (some m) clock (seen.push e.born) clock) := ⟨_, rfl⟩
                      have HN := Lib.hid (hcol.next he' hek hal hw9 (Nat.le_refl _))
                      have hent := run_entry_at (P := Tryz.prog) w9 r m clock seen es clock e HN.out.it HN.out.mp he' hcol.st.2.1
                      have HM := Lib.hid (show rangeN r es wr = (leftOf es seen).size from rangeN_of hcol.it)
                      have HLT := Lib.hid (left_less he)
                      rw [hek, hev, ← hw9] at hrun
                      rw [hek, hev] at hent
                      obtain ⟨kN, kKn, kSp⟩ := HN.out.gs.nt _ hpa
                      have HSP := Lib.hid kSp
                      obtain ⟨csx, tx, hbx, hsz5, q2, q3, q4⟩ := kSp
                      have z2 : w9.cell? ⟨a, 2, none⟩ = some (.int .i64 p'.rule) := by rw [Lib.cell_of_heap hbx]; exact q2
                      have z3 : w9.cell? ⟨a, 3, none⟩ = some (.string p'.name) := by rw [Lib.cell_of_heap hbx]; exact q3
                      have z4 : w9.cell? ⟨a, 4, none⟩ = some (.int .i64 p'.col) := by rw [Lib.cell_of_heap hbx]; exact q4
                      have HAZ := Lib.hid (show a < w9.heap.size from (Array.getElem?_eq_some_iff.1 hbx).1)
                      have HPA := Lib.hid hpa
                      have HKN := Lib.hid kN
                      have HKK := Lib.hid kKn
                      unfold plV ptrOf at hrun hent
                      clear hcol hdl hpv he he' hns hpa hek hev hw9 hal kN kKn hbx hsz5 q2 q3 q4
                      by_cases hneg : p'.rule < 0
                      · obtain ⟨hr1, n0, hin, hc0, hc1⟩ := HKK.out hneg
                        have hc0 : 0 ≤ p'.col := hc0
                        have hc1 : p'.col < n0 := hc1
                        have hr1 : p'.rule = -1 := hr1
                        obtain ⟨x, hx, hxe⟩ := HN.out.ok.all _ _ hin
                        obtain ⟨j, hj, hjx⟩ := List.getElem_of_mem hx
                        have hxn : x.name = p'.name := bl_inj hxe
                        have hxl : x.cols.length = n0 := HCNS.out _ _ _ (by rw [← hxe]; exact HN.out.ok.in_ x hx) hin
                        obtain rfl := HPV.out.resolve_left (by have := HDL.out; omega)
                        obtain ⟨col, hcl⟩ : ∃ col : Nat, p'.col = (col : Int) := ⟨p'.col.toNat, by omega⟩
                        have HCL := Lib.hid (show col < x.cols.length by omega)
                        have hse := tSearch blk cs dd p'.name w9 HN.out.row HN.out.ok.so j hj (by rw [hjx, hxe]) (by have := HDL.out; have := HNB.out; omega)
                        rw [HDL.out] at hse
                        have HSE := Lib.hid hse
                        have HJ := Lib.hid hj
                        have HJX := Lib.hid hjx.symm
                        have HPE := Lib.hid (show p' = ⟨-1, x.name, (col : Int)⟩ by rw [hxn, ← hcl, ← hr1])
                        have hj0 : (0 : Int) ≤ (j : Int) := by omega
                        have hjn : (j : Int) < (n : Int) := by have := HDL.out; omega
                        have hcl0 : (0 : Int) ≤ (col : Int) := by omega
                        have hcl1 : (col : Int) < (x.cols.length : Int) := by have := HCL.out; omega
                        rw [hcl] at z4
                        clear hse hjx hr1 hin hc0 hc1 hx hxe hxn hxl hcl
                        go_wp2_with fail
                        refine HSE.out.mono ?_
                        rintro e w10 ⟨⟨ok, rfl⟩, hb10⟩
                        have z4 := (hb10.cell (p := ⟨a, 4, none⟩) HAZ.out).trans z4
                        have HC10 := Lib.hid (HN.out.below hb10)
                        have hrowj := (HC10.out.row.2 j HJ.out).2
                        rw [← HJX.out] at hrowj
                        clear hb10 z2 z3 hrun hent HSE
                        have HC := Lib.hid (HC10.out.below (Below.refl _ w10).drew)
                        go_wp2_with fail
                        obtain ⟨rk, hfk⟩ := HC.out.gs.fa
                        have HTOP := Lib.hid (tTop s.N s.up s.ty rk a w10.drew HC.out.gs.fo hfk HKN.out)
                        clear hfk
                        have HSPX := Lib.hid (show SpotAt w10.drew (p', a) from (HC.out.gs.nt _ HPA.out).2.2)
                        have HNX := Lib.hid (show x.cp ≠ blk ∧ x.cp ≠ a ∧ ∀ k, s.N k → k ≠ x.cp from by
                          have hxm : x ∈ dd := by rw [HJX.out]; exact List.getElem_mem HJ.out
                          have h1 := (HC.out.co x hxm).1
                          refine ⟨(HC.out.nb x hxm).1, fun e => ?_, fun k hk e => ?_⟩
                          · have h2 := HC.out.nv a HKN.out
                            omega
                          · have h2 := HC.out.nv k hk
                            omega)
                        go_region_held3 (fun w' => w'.cell? ⟨blk, j * 2 + 1, none⟩ = w10.cell? ⟨blk, j * 2 + 1, none⟩ ∧ w'.cell? ⟨a, 4, none⟩ = w10.cell? ⟨a, 4, none⟩ ∧ ∀ k, s.N k → w'.cell? ⟨k, 1, none⟩ = some (.int .i8 (s.ty k)))
                          (first | exact ⟨(World.cell?_of_block (Below.heap_setCell _ _ _ _ (Ne.symm HNX.out.1))).trans HK12.out.1, (World.cell?_of_block (Below.heap_setCell _ _ _ _ (Ne.symm HNX.out.2.1))).trans HK12.out.2.1, fun k hk => (World.cell?_of_block (Below.heap_setCell _ _ _ _ (HNX.out.2.2 k hk))).trans (HK12.out.2.2 k hk)⟩ | exact HK12.out | exact ⟨rfl, rfl, fun k hk => HC.out.gs.fo.c1 hk⟩)
                          (first
                            | (go_at_call 24
                               refine HTOP.out.mono ?_
                               rintro e w12 ⟨r', up', rfl, hr, har, hf', hrt, hfo, hnf⟩
                               have HC12 := Lib.hid (HC.out.topped hf' hrt hfo hnf)
                               have HTY := Lib.hid (tyOf_sm (HC12.out.gs.sm0 HC12.out.tn) HC12.out.gs.key HPA.out ((hrt _ _).2 har))
                               have HK12 := Lib.hid (show w12.cell? ⟨blk, j * 2 + 1, none⟩ = w10.cell? ⟨blk, j * 2 + 1, none⟩ ∧ w12.cell? ⟨a, 4, none⟩ = w10.cell? ⟨a, 4, none⟩ ∧ ∀ k, s.N k → w12.cell? ⟨k, 1, none⟩ = some (.int .i8 (s.ty k)) from ⟨World.cell?_of_block (hnf.block blk (fun h => by have := HC.out.nv blk h; have := HC.out.bk.1; omega)), by
                                 obtain ⟨c1, t1, b1, _, _, _, e4⟩ := HSPX.out.nf HKN.out hnf
                                 obtain ⟨c2, t2, b2, _, _, _, f4⟩ := HSPX.out
                                 have b2' : w10.heap[a]? = some (.cells c2 t2 (0, 0)) := b2
                                 rw [Lib.cell_of_heap b1, Lib.cell_of_heap b2']
                                 exact e4.trans f4.symm, fun k hk => hfo.c1 hk⟩)
                               have k1 : w12.cell? ⟨r', 1, none⟩ = some (.int .i8 (s.ty r')) := hfo.c1 hr
                               have hxm : x ∈ dd := by rw [HJX.out]; exact List.getElem_mem HJ.out
                               have HXB := Lib.hid (HC12.out.co x hxm).2
                               have k2 : w12.cell? ⟨x.cp, col, none⟩ = some (.int .i8 (x.cols[col]'HCL.out)) := by rw [Lib.cell_of_heap HXB.out]; simp [HCL.out]
                               have k3 : w12.frozen? ⟨x.cp, col, none⟩ = false := Lib.frozen_of_heap HXB.out col
                               clear hxm har hf' hrt hfo hnf))
                        all_goals
                          have HC13 := Lib.hid ((HC12.out.excuse (X' := fun q => q = ⟨-1, x.name, (col : Int)⟩) fun _ _ _ _ h => h.2.trans HPE.out).stored HJ.out HJX.out (t := s.ty r') (by
                            have h9 := HTY.out
                            rw [HPE.out] at h9
                            exact h9))
                          have HM2 := Lib.hid (rangeN_of (es := es) HC13.out.it)
                          have HDL2 := Lib.hid (show (dd.set j ⟨x.name, x.cp, x.cols.set col (s.ty r')⟩).length = n by rw [List.length_set]; exact HDL.out)
                          clear k1 k2 k3 z4 hrowj
                          go_wp2_with fail
                          go_roundw
                          case rel => exact ⟨_, _, _, _, HDL2.out, by first | exact .inr rfl | exact .inr trivial | trivial, HC13.out⟩
                          case measure => rw [HM.out, HM2.out]; exact HLT.out
                      · have HE := Lib.hid (HN.out.excuse (X' := fun _ => False) fun _ _ _ _ h => hneg h.1)
                        have HM2 := Lib.hid (show rangeN r es w9 = (leftOf es (seen.push e.born)).size from rangeN_of HE.out.it)
                        go_wp2_with fail
                        go_roundw
                        case rel => exact ⟨dd, s, _, _, HDL.out, HPV.out, HE.out⟩
                        case measure => rw [HM.out, HM2.out]; exact HLT.out
                · obtain ⟨s, n, rfl, rfl, rfl, hin⟩ := seen_next HSD.out hkey hRR hat
                  have HLEFT := Lib.hid hl
                  have HIN := Lib.hid hin
                  have HRG := Lib.hid hrg
                  have HCNT := Lib.hid hcnt
                  have HG6 := Lib.hid hg6
                  have HS6 := Lib.hid hs6
                  have HN24 := Lib.hid (HA24.out _ _ hin)
                  have hmk := make_ty n (by have := HN24.out; omega) w6
                  rw [hs6] at hmk
                  have HLE := Lib.hid ho.le
                  have HOW := Lib.hid (ownR_kept ho.ow hg6 (.inl ho.vr))
                  have HWB := Lib.hid ho.bw.size
                  clear ho hkey hl hRR hat hrg hcnt hg6 hs6 hin
                  go_wp2_with (at_builtin; (refine wpOwnR rfl _ _ 31 rfl V4.heap.size 46 i0 _ 2 40 Tryz.underlying31 HI0.out HZ0.out HZ1.out HZ2.out rfl (by decide) _ _ _ rfl (ownR_alloc (ownR_alloc HOW.out _) _) ⟨w6.heap.size + 1, 0, none⟩ 1 1 [.string s, .slice (some ⟨wr.heap.size, 0, none⟩) n n] rfl rfl ?c0 ?c1 ?c2 ?c3 ?c4 ?_))
                  case c0 =>
                    have h9 := new_cells (w6.alloc (.cells (Array.replicate n (Value.int .i8 0)) 48)) [.string s, .slice (some ⟨wr.heap.size, 0, none⟩) n n] 46
                    simpa using h9
                  case c1 => intro u hu; simp only [List.mem_cons, List.not_mem_nil, or_false] at hu; rcases hu with rfl | rfl <;> rfl
                  case c2 => have := HLE.out; unfold maxLen; omega
                  case c3 => have := HLE.out; omega
                  case c4 => have h8 := HWB.out; have h9 := HS6.out; simp; omega
                  intro v' w7 hown hg7 hpl
                  have HO7 := Lib.hid (HO.out.step HBM4.out HLEFT.out HIN.out HCNT.out HRG.out HG6.out HS6.out rfl (by
                    have h9 := sgVs_snoc sg ⟨s, wr.heap.size, List.replicate n 0⟩
                    simp only [List.length_replicate] at h9
                    rw [h9]
                    exact hown) hg7 (fun g hg => by
                    rcases hpl with h1 | ⟨h1, _⟩
                    · exact .inl (by rw [← h1]; exact hg)
                    · have h2 : w6.heap.size + 1 + 1 ≤ g := by simpa using h1 g hg
                      have h9 := HS6.out
                      exact .inr (by omega)))
                  have HM4 := Lib.hid HO.out.rg.left_eq
                  have HM7 := Lib.hid HO7.out.rg.left_eq
                  obtain ⟨p7, c7, rfl⟩ := ownR_slice hown
                  clear hown hg7 hpl hrun hent hmk
                  go_wp2_with fail
                  go_roundw
                  case rel => exact ⟨_, _, _, HO7.out⟩
                  case measure => rw [HM4.out, HM7.out]; exact HCNT.out
end Go.Proofs.YtafjjececdhmjaaGreat
