/- Blocks written whole, cell by cell. No program in sight. The reference's ApplyLiteral: a literal with its variables replaced. Rows of arguments and literals that a call owns; where a rule's lists lie; the rounds of the reference's replaced. Conditions: none. the pairs and the literal lie in memory as they are told; beside a variable a term bears no value; its lists are short. -/
import Derived.Test.YtafjjececdhmjaaGreatNMC
import Derived.Test.YtafjjececdhmjaaGreatNKn
import Derived.Test.YtafjjececdhmjaaGreatNKu
import Derived.Test.YtafjjececdhmjaaGreatNKi
namespace Go.Proofs.YtafjjececdhmjaaGreat
open Go.RowKit

/-- Cells written one behind the other into a block. -/
def putL (w : World) (a : Nat) : Nat → List Value → World
  | _, [] => w
  | o, v :: r => putL (w.setCell ⟨a, o, none⟩ v) a (o + 1) r
theorem putL_block {a k : Nat} (h : k ≠ a) : ∀ (vs : List Value) (w : World) (o : Nat), (putL w a o vs).heap[k]? = w.heap[k]?
  | [], _, _ => rfl
  | v :: r, w, o => by rw [putL, putL_block h r, Below.heap_setCell _ _ _ _ h]
theorem putL_size {a : Nat} : ∀ (vs : List Value) (w : World) (o : Nat), (putL w a o vs).heap.size = w.heap.size
  | [], _, _ => rfl
  | v :: r, _, _ => by rw [putL, putL_size r]; simp [World.setCell]
theorem putL_below {B : Nat} {w0 : World} {a : Nat} (ha : B ≤ a) : ∀ (vs : List Value) (w : World) (o : Nat), Below B w0 w → Below B w0 (putL w a o vs)
  | [], _, _, h => h
  | v :: r, _, o, h => putL_below ha r _ _ (h.setCell (p := ⟨a, o, none⟩) ha v)
theorem putL_cells {a : Nat} {t : TypeId} {fz : Nat × Nat} : ∀ (vs : List Value) (w : World) (o : Nat) (cs : Array Value), w.heap[a]? = some (.cells cs t fz) → cs.size = o + vs.length →
    (putL w a o vs).heap[a]? = some (.cells ⟨cs.toList.take o ++ vs⟩ t fz)
  | [], w, o, cs, h, hs => by
    rw [putL, h]
    congr 2
    apply Array.toList_inj.1
    have : cs.toList.length ≤ o := by simp at hs; simp; omega
    rw [List.take_of_length_le this]
    simp
  | v :: r, w, o, cs, h, hs => by
    have h1 : (w.setCell ⟨a, o, none⟩ v).heap[a]? = some (.cells (cs.setIfInBounds o v) t fz) := by simp [World.setCell, Array.getElem?_modify, h]
    rw [putL, putL_cells r _ (o + 1) _ h1 (by simp at hs ⊢; omega)]
    congr 2
    have ho : o < cs.toList.length := by simp at hs; simp; omega
    have h2 : (cs.setIfInBounds o v).toList.take (o + 1) = cs.toList.take o ++ [v] := by
      rw [Array.toList_setIfInBounds, List.take_set, List.take_succ_eq_append_getElem ho]
      rw [List.set_append_right _ _ (by simp; omega)]
      have h3 : o - (cs.toList.take o).length = 0 := by simp; omega
      rw [h3]
      rfl
    rw [h2]
    simp
theorem putL_heap {w : World} {a : Nat} {cs : Array Value} {t : TypeId} {fz : Nat × Nat} (vs : List Value) (h : w.heap[a]? = some (.cells cs t fz)) (hs : cs.size = vs.length) : (putL w a 0 vs).heap[a]? = some (.cells ⟨vs⟩ t fz) := by
  rw [putL_cells vs w 0 cs h (by omega)]
  simp
end Go.Proofs.YtafjjececdhmjaaGreat

namespace Go.Proofs.YtafjjececdhmjaaGreat
open Go.RowKit

/-- A literal's cells. -/
def ltC {d : Nat} (x : Lt d) : List Value := [.int .i8 x.k, .string x.p, x.sv, .int .i8 x.r, .int .i8 (exOp d x.l), .string (exTm d x.l).v, .int .i8 (exTm d x.l).x.k, .int .i64 (exTm d x.l).x.n, .string (exTm d x.l).x.t, exSl d x.l, .int .i8 (exOp d x.g), .string (exTm d x.g).v, .int .i8 (exTm d x.g).x.k, .int .i64 (exTm d x.g).x.n, .string (exTm d x.g).x.t, exSl d x.g]
theorem ltC_ex {d : Nat} (x : Lt d) : ltC x = .int .i8 x.k :: .string x.p :: x.sv :: .int .i8 x.r :: (exCells d x.l ++ exCells d x.g) := rfl
/-- What a call leaves that replaces the variables of a literal. -/
def AlPost (ρ : ByteArray → ByteArray) {d : Nat} (x : Lt d) (w : World) (r : Ending) (w' : World) : Prop :=
  ∃ (x' : Lt d) (q' : Option Addr) (c' : Nat) (pl' : Option Addr) (cl' : Nat) (pg' : Option Addr) (cg' : Nat), r = .returned (.agg ⟨[.int .i8 x.k, .string x.p, .slice q' x.ts.length c', .int .i8 x.r, .int .i8 (exOp d x.l), .string (rnB ρ (exTm d x.l).v), .int .i8 (exTm d x.l).x.k, .int .i64 (exTm d x.l).x.n, .string (exTm d x.l).x.t, .slice pl' (exLen d x.l) cl', .int .i8 (exOp d x.g), .string (rnB ρ (exTm d x.g).v), .int .i8 (exTm d x.g).x.k, .int .i64 (exTm d x.g).x.n, .string (exTm d x.g).x.t, .slice pg' (exLen d x.g) cg']⟩) ∧ ltC x' = [.int .i8 x.k, .string x.p, .slice q' x.ts.length c', .int .i8 x.r, .int .i8 (exOp d x.l), .string (rnB ρ (exTm d x.l).v), .int .i8 (exTm d x.l).x.k, .int .i64 (exTm d x.l).x.n, .string (exTm d x.l).x.t, .slice pl' (exLen d x.l) cl', .int .i8 (exOp d x.g), .string (rnB ρ (exTm d x.g).v), .int .i8 (exTm d x.g).x.k, .int .i64 (exTm d x.g).x.n, .string (exTm d x.g).x.t, .slice pg' (exLen d x.g) cg'] ∧ LtAt w' x' ∧ LtIn (fun a => w.heap.size ≤ a ∧ a < w'.heap.size) x' ∧ nfLt x' = nfLt (rnLt ρ x) ∧ Below w.heap.size w w'
set_option maxRecDepth 100000 in
set_option maxHeartbeats 8000000 in
theorem rApplyLiteral (l : List (ByteArray × ByteArray)) (p : Option Addr) (c : Nat) (hn : l.length ≤ 10000) (d : Nat) (x : Lt d) (w : World) (hl : PrsAt w p l) (hx : LtAt w x) (hp : PutL x) :
    Calls Tryz.prog 58 #[.slice p l.length c, .agg ⟨ltC x⟩] w (AlPost (rhoP l) x w) := by
  obtain ⟨q, cq, hsv, _, hts⟩ := hx.at_
  obtain ⟨pl, cl, hsl⟩ := ex_sl2 hx.l_
  obtain ⟨pg, cg, hsg⟩ := ex_sl2 hx.g_
  obtain ⟨R, hR⟩ : ∃ R : Ending → World → Prop, R = AlPost (rhoP l) x w := ⟨_, rfl⟩
  rw [← hR]
  have HEND0 := Lib.hid (show ∀ r w', AlPost (rhoP l) x w r w' → R r w' by rw [hR]; exact fun _ _ h => h)
  clear hR
  have hz := hp.t_
  have hn24 := hp.n_
  have HAP := Lib.hid (show ∀ V' : World, Below w.heap.size w V' → Calls Tryz.prog 33 #[.slice p l.length c, .agg #[.string x.p, .slice q x.ts.length cq]] V' fun e w' => ∃ q' c', e = .returned (.agg #[.string x.p, .slice q' x.ts.length c']) ∧ TmSl w' (.slice q' x.ts.length c') (x.ts.map (rnTm (rhoP l))) ∧ (∀ g, (Value.slice q' x.ts.length c').ownBlock = some g → V'.heap.size ≤ g ∧ g < w'.heap.size) ∧ Below V'.heap.size V' w' by
    intro V' h
    refine (rApply l p c x.p x.ts q cq V' (hl.up h) hn (hts.imp id fun ⟨a, o, h1, h2⟩ => ⟨a, o, h1, h2.up h h2.lt⟩) hz hn24).mono ?_
    rintro e w' ⟨sv, rfl, h1, h2, h3⟩
    obtain ⟨q', c', rfl, h4⟩ := h1
    rw [List.length_map] at h4 h2 ⊢
    exact ⟨q', c', rfl, ⟨q', c', by rw [List.length_map], by rw [List.length_map]; exact h4.1, by rw [List.length_map]; exact h4.2⟩, h2, h3⟩)
  have HXL := Lib.hid (fun (V' : World) (h : Below w.heap.size w V') => rApplyExpr l p c hn d x.l V' (hl.up h) (ExAt.up h d _ hx.l_) hp.l_)
  have HXG := Lib.hid (fun (V' : World) (h : Below w.heap.size w V') => rApplyExpr l p c hn d x.g V' (hl.up h) (ExAt.up h d _ hx.g_) hp.g_)
  clear hl hz hn24 hp hts
  obtain ⟨xk, xp, ts, sv, xr, el, eg⟩ := x
  change sv = .slice q ts.length cq at hsv
  change exSl d el = _ at hsl
  change exSl d eg = _ at hsg
  subst hsv
  have HEND := Lib.hid (show ∀ (el' eg' : Ex d) (q' : Option Addr) (c' : Nat) (pl' : Option Addr) (cl' : Nat) (pg' : Option Addr) (cg' : Nat) (w' : World),
      exCells d el' = [.int .i8 (exOp d el), .string (rnB (rhoP l) (exTm d el).v), .int .i8 (exTm d el).x.k, .int .i64 (exTm d el).x.n, .string (exTm d el).x.t, .slice pl' (exLen d el) cl'] →
      exCells d eg' = [.int .i8 (exOp d eg), .string (rnB (rhoP l) (exTm d eg).v), .int .i8 (exTm d eg).x.k, .int .i64 (exTm d eg).x.n, .string (exTm d eg).x.t, .slice pg' (exLen d eg) cg'] →
      TmSl w' (.slice q' ts.length c') (ts.map (rnTm (rhoP l))) → ExAt w' d el' → ExAt w' d eg' → (∀ g, (Value.slice q' ts.length c').ownBlock = some g → w.heap.size ≤ g ∧ g < w'.heap.size) → ExIn (fun a => w.heap.size ≤ a ∧ a < w'.heap.size) d el' → ExIn (fun a => w.heap.size ≤ a ∧ a < w'.heap.size) d eg' →
      nfEx d el' = nfEx d (rnEx (rhoP l) d el) → nfEx d eg' = nfEx d (rnEx (rhoP l) d eg) → Below w.heap.size w w' →
      R (.returned (.agg ⟨[.int .i8 xk, .string xp, .slice q' ts.length c', .int .i8 xr, .int .i8 (exOp d el), .string (rnB (rhoP l) (exTm d el).v), .int .i8 (exTm d el).x.k, .int .i64 (exTm d el).x.n, .string (exTm d el).x.t, .slice pl' (exLen d el) cl', .int .i8 (exOp d eg), .string (rnB (rhoP l) (exTm d eg).v), .int .i8 (exTm d eg).x.k, .int .i64 (exTm d eg).x.n, .string (exTm d eg).x.t, .slice pg' (exLen d eg) cg']⟩)) w' by
    intro el' eg' q' c' pl' cl' pg' cg' w' h1 h2 h3 h4 h5 h6 h7 h8 h9 h10 h11
    refine HEND0.out _ _ ⟨⟨xk, xp, ts.map (rnTm (rhoP l)), .slice q' ts.length c', xr, el', eg'⟩, q', c', pl', cl', pg', cg', rfl, ?_, ⟨h3, h4, h5⟩, ⟨h6, h7, h8⟩, ?_, h11⟩
    · rw [ltC_ex]
      simp only [h1, h2]
      rfl
    · show Lt.mk xk xp (ts.map (rnTm (rhoP l))) (.slice none 0 0) xr (nfEx d el') (nfEx d eg') = _
      rw [h9, h10]
      rfl)
  clear HEND0
  unfold ltC
  simp only [hsl, hsg]
  unfold AxPost at HXL HXG
  simp only [hsl] at HXL
  simp only [hsg] at HXG
  simp only at HAP
  clear hx hsl hsg
  obtain ⟨NL, hNL⟩ : ∃ N, N = nfEx d (rnEx (rhoP l) d el) := ⟨_, rfl⟩
  rw [← hNL] at HXL HEND
  obtain ⟨NG, hNG⟩ : ∃ N, N = nfEx d (rnEx (rhoP l) d eg) := ⟨_, rfl⟩
  rw [← hNG] at HXG HEND
  clear hNL hNG
  obtain ⟨TT, hTT⟩ : ∃ T, T = ts.map (rnTm (rhoP l)) := ⟨_, rfl⟩
  rw [← hTT] at HAP HEND
  clear hTT
  generalize exTm d el = lm at HXL HEND ⊢
  generalize exOp d el = lo at HXL HEND ⊢
  generalize exLen d el = ll at HXL HEND ⊢
  generalize exTm d eg = gm at HXG HEND ⊢
  generalize exOp d eg = go at HXG HEND ⊢
  generalize exLen d eg = gl at HXG HEND ⊢
  generalize ts.length = m at HAP HEND ⊢
  obtain ⟨lv, ⟨lk, ln, lt⟩⟩ := lm
  obtain ⟨gv, ⟨gk, gn, gt⟩⟩ := gm
  obtain ⟨nl, hnl⟩ : ∃ u, u = rnB (rhoP l) lv := ⟨_, rfl⟩
  obtain ⟨ng, hng⟩ : ∃ u, u = rnB (rhoP l) gv := ⟨_, rfl⟩
  simp only [← hnl] at HXL HEND
  simp only [← hng] at HXG HEND
  clear hnl hng
  obtain ⟨V, hV⟩ : ∃ V, V = (w.alloc (.cells #[.int .i8 xk, .string xp, .slice q m cq, .int .i8 xr, .int .i8 lo, .string lv, .int .i8 lk, .int .i64 ln, .string lt, .slice pl ll cl, .int .i8 go, .string gv, .int .i8 gk, .int .i64 gn, .string gt, .slice pg gl cg] 114)).alloc (.cells #[.int .i8 0, .string ⟨#[]⟩, .slice none 0 0, .int .i8 0, .int .i8 0, .string ⟨#[]⟩, .int .i8 0, .int .i64 0, .string ⟨#[]⟩, .slice none 0 0, .int .i8 0, .string ⟨#[]⟩, .int .i8 0, .int .i64 0, .string ⟨#[]⟩, .slice none 0 0] 114) := ⟨_, rfl⟩
  have HBV := Lib.hid (show Below w.heap.size w V by rw [hV]; exact (below_alloc _ _).trans ((below_alloc _ _).mono (by simp)))
  have HSV := Lib.hid (show V.heap.size = w.heap.size + 1 + 1 by rw [hV]; simp)
  have HB1 := Lib.hid (show V.heap[w.heap.size]? = some (.cells #[.int .i8 xk, .string xp, .slice q m cq, .int .i8 xr, .int .i8 lo, .string lv, .int .i8 lk, .int .i64 ln, .string lt, .slice pl ll cl, .int .i8 go, .string gv, .int .i8 gk, .int .i64 gn, .string gt, .slice pg gl cg] 114 (0, 0)) by
    have h1 := heap_alloc_new w (.cells #[.int .i8 xk, .string xp, .slice q m cq, .int .i8 xr, .int .i8 lo, .string lv, .int .i8 lk, .int .i64 ln, .string lt, .slice pl ll cl, .int .i8 go, .string gv, .int .i8 gk, .int .i64 gn, .string gt, .slice pg gl cg] 114)
    rw [hV]
    exact ((below_alloc (w.alloc _) _).block _ (by simp)).trans h1)
  have HB2 := Lib.hid (show V.heap[w.heap.size + 1]? = some (.cells #[.int .i8 0, .string ⟨#[]⟩, .slice none 0 0, .int .i8 0, .int .i8 0, .string ⟨#[]⟩, .int .i8 0, .int .i64 0, .string ⟨#[]⟩, .slice none 0 0, .int .i8 0, .string ⟨#[]⟩, .int .i8 0, .int .i64 0, .string ⟨#[]⟩, .slice none 0 0] 114 (0, 0)) by rw [hV]; simpa using heap_alloc_new (w.alloc _) _)
  have hbk : w.heap.size < V.heap.size := by rw [HSV.out]; omega
  have hbs : w.heap.size + 1 < V.heap.size := by rw [HSV.out]; omega
  have HK := Lib.hid (show ∀ w', Below (w.heap.size + 1) V w' → w'.cell? ⟨w.heap.size, 0, none⟩ = some (.int .i8 xk) ∧ w'.cell? ⟨w.heap.size, 1, none⟩ = some (.string xp) ∧ w'.cell? ⟨w.heap.size, 2, none⟩ = some (.slice q m cq) ∧ w'.cell? ⟨w.heap.size, 3, none⟩ = some (.int .i8 xr) ∧ w'.cell? ⟨w.heap.size, 4, none⟩ = some (.int .i8 lo) ∧ w'.cell? ⟨w.heap.size, 5, none⟩ = some (.string lv) ∧ w'.cell? ⟨w.heap.size, 6, none⟩ = some (.int .i8 lk) ∧ w'.cell? ⟨w.heap.size, 7, none⟩ = some (.int .i64 ln) ∧ w'.cell? ⟨w.heap.size, 8, none⟩ = some (.string lt) ∧ w'.cell? ⟨w.heap.size, 9, none⟩ = some (.slice pl ll cl) ∧ w'.cell? ⟨w.heap.size, 10, none⟩ = some (.int .i8 go) ∧ w'.cell? ⟨w.heap.size, 11, none⟩ = some (.string gv) ∧ w'.cell? ⟨w.heap.size, 12, none⟩ = some (.int .i8 gk) ∧ w'.cell? ⟨w.heap.size, 13, none⟩ = some (.int .i64 gn) ∧ w'.cell? ⟨w.heap.size, 14, none⟩ = some (.string gt) ∧ w'.cell? ⟨w.heap.size, 15, none⟩ = some (.slice pg gl cg) from fun w' h => by
    obtain ⟨x0, x1, x2, x3, x4, x5, x6, x7, x8, x9, x10, x11, x12, x13, x14, x15⟩ := sixteen ((h.block w.heap.size (Nat.lt_succ_self _)).trans HB1.out)
    exact ⟨x0, x1, x2, x3, x4, x5, x6, x7, x8, x9, x10, x11, x12, x13, x14, x15⟩)
  have Hb := Lib.hid ((Below.refl V.heap.size V).drew)
  go_enter Tryz.func58, Tryz.ntmps58
  go_upto_region 1 with (fail)
  rw [← hV]
  clear hV
  go_region_held3 (fun w' => w'.cell? ⟨w.heap.size, 0, none⟩ = some (.int .i8 xk) ∧ w'.cell? ⟨w.heap.size, 1, none⟩ = some (.string xp) ∧ w'.cell? ⟨w.heap.size, 2, none⟩ = some (.slice q m cq) ∧ w'.cell? ⟨w.heap.size, 3, none⟩ = some (.int .i8 xr) ∧ w'.cell? ⟨w.heap.size, 4, none⟩ = some (.int .i8 lo) ∧ w'.cell? ⟨w.heap.size, 5, none⟩ = some (.string lv) ∧ w'.cell? ⟨w.heap.size, 6, none⟩ = some (.int .i8 lk) ∧ w'.cell? ⟨w.heap.size, 7, none⟩ = some (.int .i64 ln) ∧ w'.cell? ⟨w.heap.size, 8, none⟩ = some (.string lt) ∧ w'.cell? ⟨w.heap.size, 9, none⟩ = some (.slice pl ll cl) ∧ w'.cell? ⟨w.heap.size, 10, none⟩ = some (.int .i8 go) ∧ w'.cell? ⟨w.heap.size, 11, none⟩ = some (.string gv) ∧ w'.cell? ⟨w.heap.size, 12, none⟩ = some (.int .i8 gk) ∧ w'.cell? ⟨w.heap.size, 13, none⟩ = some (.int .i64 gn) ∧ w'.cell? ⟨w.heap.size, 14, none⟩ = some (.string gt) ∧ w'.cell? ⟨w.heap.size, 15, none⟩ = some (.slice pg gl cg))
    (first
      | (refine HK.out _ ?_
         repeat (with_reducible first | exact Hb.out.mono (Nat.le_of_lt hbs) | exact Below.refl _ _ | refine Below.drew ?_ | refine Below.setCell ?_ ?_ _)
         all_goals (with_reducible exact Nat.le_refl _)))
    (first
      | (go_at_call 33
         with_reducible refine (HAP.out _ ?_).mono ?_
         · with_reducible exact HBV.out.trans (Hb.out.mono HBV.out.size)
         rintro r w1 ⟨q', c', rfl, ha1, ha2, hb1⟩
         have HA1 := Lib.hid ha1
         have HA2 := Lib.hid (show ∀ g, (Value.slice q' m c').ownBlock = some g → V.heap.size ≤ g ∧ g < w1.heap.size from ha2)
         have Hb := Lib.hid (show Below V.heap.size V w1 from ⟨hb1.os, hb1.tape, hb1.output, hb1.size, hb1.block⟩)
         clear ha1 ha2 hb1)
      | (go_at_call 98
         with_reducible refine (HXL.out _ ?_).mono ?_
         · with_reducible exact HBV.out.trans (Hb.out.mono HBV.out.size)
         rintro r w2 ⟨el', pl', cl', rfl, hc2, he2, hi2, hn2, hb2⟩
         have HC2 := Lib.hid hc2
         have HE2 := Lib.hid he2
         have HI2 := Lib.hid hi2
         have HN2 := Lib.hid hn2
         have HA3 := Lib.hid (HA1.out.up hb2)
         have HS2 := Lib.hid hb2.size
         have HS1 := Lib.hid Hb.out.size
         have Hb := Lib.hid (Hb.out.trans (hb2.mono HS1.out))
         clear hc2 he2 hi2 hn2 hb2 HA1)
      | (go_at_call 98
         with_reducible refine (HXG.out _ ?_).mono ?_
         · with_reducible exact HBV.out.trans (Hb.out.mono HBV.out.size)
         rintro r w3 ⟨eg', pg', cg', rfl, hc3, he3, hi3, hn3, hb3⟩
         have HC3 := Lib.hid hc3
         have HE3 := Lib.hid he3
         have HI3 := Lib.hid hi3
         have HN3 := Lib.hid hn3
         have HA4 := Lib.hid (HA3.out.up hb3)
         have HE4 := Lib.hid (ExAt.up hb3 d _ HE2.out)
         have HS3 := Lib.hid hb3.size
         have HS4 := Lib.hid Hb.out.size
         have Hb := Lib.hid (Hb.out.trans (hb3.mono HS4.out))
         have HC := Lib.hid ((Hb.out.block (w.heap.size + 1) hbs).trans HB2.out)
         obtain ⟨z0, z1, z2, z3, z4, z5, z6, z7, z8, z9, z10, z11, z12, z13, z14, z15⟩ := sixteen HC.out
         have f0 : w3.frozen? ⟨w.heap.size + 1, 0, none⟩ = false := Lib.frozen_of_heap HC.out 0
         have f1 : w3.frozen? ⟨w.heap.size + 1, 1, none⟩ = false := Lib.frozen_of_heap HC.out 1
         have f2 : w3.frozen? ⟨w.heap.size + 1, 2, none⟩ = false := Lib.frozen_of_heap HC.out 2
         have f3 : w3.frozen? ⟨w.heap.size + 1, 3, none⟩ = false := Lib.frozen_of_heap HC.out 3
         have f4 : w3.frozen? ⟨w.heap.size + 1, 4, none⟩ = false := Lib.frozen_of_heap HC.out 4
         have f5 : w3.frozen? ⟨w.heap.size + 1, 5, none⟩ = false := Lib.frozen_of_heap HC.out 5
         have f6 : w3.frozen? ⟨w.heap.size + 1, 6, none⟩ = false := Lib.frozen_of_heap HC.out 6
         have f7 : w3.frozen? ⟨w.heap.size + 1, 7, none⟩ = false := Lib.frozen_of_heap HC.out 7
         have f8 : w3.frozen? ⟨w.heap.size + 1, 8, none⟩ = false := Lib.frozen_of_heap HC.out 8
         have f9 : w3.frozen? ⟨w.heap.size + 1, 9, none⟩ = false := Lib.frozen_of_heap HC.out 9
         have f10 : w3.frozen? ⟨w.heap.size + 1, 10, none⟩ = false := Lib.frozen_of_heap HC.out 10
         have f11 : w3.frozen? ⟨w.heap.size + 1, 11, none⟩ = false := Lib.frozen_of_heap HC.out 11
         have f12 : w3.frozen? ⟨w.heap.size + 1, 12, none⟩ = false := Lib.frozen_of_heap HC.out 12
         have f13 : w3.frozen? ⟨w.heap.size + 1, 13, none⟩ = false := Lib.frozen_of_heap HC.out 13
         have f14 : w3.frozen? ⟨w.heap.size + 1, 14, none⟩ = false := Lib.frozen_of_heap HC.out 14
         have f15 : w3.frozen? ⟨w.heap.size + 1, 15, none⟩ = false := Lib.frozen_of_heap HC.out 15
         clear hc3 he3 hi3 hn3 hb3 HA3 HE2))
  all_goals
    go_wp2_with fail
    change bodyPost _ _ _ _ _ (putL w3 (w.heap.size + 1) 0 [.int .i8 xk, .string xp, .slice q' m c', .int .i8 xr, .int .i8 lo, .string nl, .int .i8 lk, .int .i64 ln, .string lt, .slice pl' ll cl', .int .i8 go, .string ng, .int .i8 gk, .int .i64 gn, .string gt, .slice pg' gl cg'])
    clear z0 z1 z2 z3 z4 z5 z6 z7 z8 z9 z10 z11 z12 z13 z14 z15 f0 f1 f2 f3 f4 f5 f6 f7 f8 f9 f10 f11 f12 f13 f14 f15
    have HKP := Lib.hid (show KpW (fun a => w.heap.size + 1 < a) w3 (putL w3 (w.heap.size + 1) 0 [.int .i8 xk, .string xp, .slice q' m c', .int .i8 xr, .int .i8 lo, .string nl, .int .i8 lk, .int .i64 ln, .string lt, .slice pl' ll cl', .int .i8 go, .string ng, .int .i8 gk, .int .i64 gn, .string gt, .slice pg' gl cg']) from ⟨Nat.le_of_eq (putL_size _ _ _).symm, fun a ha _ => putL_block (by omega) _ _ _⟩)
    have hb2 : (putL w3 (w.heap.size + 1) 0 [.int .i8 xk, .string xp, .slice q' m c', .int .i8 xr, .int .i8 lo, .string nl, .int .i8 lk, .int .i64 ln, .string lt, .slice pl' ll cl', .int .i8 go, .string ng, .int .i8 gk, .int .i64 gn, .string gt, .slice pg' gl cg']).heap[w.heap.size + 1]? = some (.cells #[.int .i8 xk, .string xp, .slice q' m c', .int .i8 xr, .int .i8 lo, .string nl, .int .i8 lk, .int .i64 ln, .string lt, .slice pl' ll cl', .int .i8 go, .string ng, .int .i8 gk, .int .i64 gn, .string gt, .slice pg' gl cg'] 114 (0, 0)) := putL_heap [.int .i8 xk, .string xp, .slice q' m c', .int .i8 xr, .int .i8 lo, .string nl, .int .i8 lk, .int .i64 ln, .string lt, .slice pl' ll cl', .int .i8 go, .string ng, .int .i8 gk, .int .i64 gn, .string gt, .slice pg' gl cg'] HC.out rfl
    have HBp := Lib.hid (show Below w.heap.size w (putL w3 (w.heap.size + 1) 0 [.int .i8 xk, .string xp, .slice q' m c', .int .i8 xr, .int .i8 lo, .string nl, .int .i8 lk, .int .i64 ln, .string lt, .slice pl' ll cl', .int .i8 go, .string ng, .int .i8 gk, .int .i64 gn, .string gt, .slice pg' gl cg']) from putL_below (Nat.le_succ _) _ _ _ (HBV.out.trans (Hb.out.mono HBV.out.size)))
    have hss : w3.heap.size ≤ (putL w3 (w.heap.size + 1) 0 [.int .i8 xk, .string xp, .slice q' m c', .int .i8 xr, .int .i8 lo, .string nl, .int .i8 lk, .int .i64 ln, .string lt, .slice pl' ll cl', .int .i8 go, .string ng, .int .i8 gk, .int .i64 gn, .string gt, .slice pg' gl cg']).heap.size := HKP.out.s_
    obtain ⟨W2, hW2⟩ : ∃ W2, W2 = putL w3 (w.heap.size + 1) 0 [.int .i8 xk, .string xp, .slice q' m c', .int .i8 xr, .int .i8 lo, .string nl, .int .i8 lk, .int .i64 ln, .string lt, .slice pl' ll cl', .int .i8 go, .string ng, .int .i8 gk, .int .i64 gn, .string gt, .slice pg' gl cg'] := ⟨_, rfl⟩
    rw [← hW2] at hb2 HBp HKP hss ⊢
    clear hW2
    have h1 := HS1.out
    have h2 := HS2.out
    have h3 := HS3.out
    have h4 := HBV.out.size
    have HE := Lib.hid (HEND.out el' eg' q' c' pl' cl' pg' cg' W2 HC2.out HC3.out (HA4.out.keep HKP.out (fun g hg => by have := (HA2.out g hg).1; omega))
      (ExAt.keep HKP.out d _ (ExIn.mono (fun a h => by have := h.1; omega) d _ HI2.out) HE4.out) (ExAt.keep HKP.out d _ (ExIn.mono (fun a h => by have := h.1; omega) d _ HI3.out) HE3.out)
      (fun g hg => by have := HA2.out g hg; exact ⟨by omega, by omega⟩) (ExIn.mono (fun a h => ⟨by have := h.1; omega, by have := h.2; omega⟩) d _ HI2.out) (ExIn.mono (fun a h => ⟨by have := h.1; omega, by have := h.2; omega⟩) d _ HI3.out) HN2.out HN3.out HBp.out)
    obtain ⟨z0, z1, z2, z3, z4, z5, z6, z7, z8, z9, z10, z11, z12, z13, z14, z15⟩ := sixteen hb2
    refine bodyPost_ret (v := .agg #[.int .i8 xk, .string xp, .slice q' m c', .int .i8 xr, .int .i8 lo, .string nl, .int .i8 lk, .int .i64 ln, .string lt, .slice pl' ll cl', .int .i8 go, .string ng, .int .i8 gk, .int .i64 gn, .string gt, .slice pg' gl cg']) (by simp [results, Tryz.results58, go_sem, z0, z1, z2, z3, z4, z5, z6, z7, z8, z9, z10, z11, z12, z13, z14, z15]) rfl ?_
    exact HE.out
end Go.Proofs.YtafjjececdhmjaaGreat

namespace Go.Proofs.YtafjjececdhmjaaGreat
open Go.RowKit

theorem flat_at {α : Type} (f : α → List Value) {k : Nat} (hf : ∀ x, (f x).length = k) : ∀ (l : List α) (i : Nat) (h : i < l.length) (q : Nat), q < k → (l.flatMap f)[i * k + q]? = (f l[i])[q]?
  | x :: r, 0, _, q, hq => by
    rw [List.flatMap_cons, List.getElem?_append_left (by rw [hf]; omega)]
    simp
  | x :: r, i + 1, h, q, hq => by
    have h0 : (i + 1) * k = i * k + k := Nat.succ_mul i k
    rw [List.flatMap_cons, List.getElem?_append_right (by rw [hf]; omega)]
    have h1 : (i + 1) * k + q - (f x).length = i * k + q := by rw [hf]; omega
    rw [h1, flat_at f hf r i (by simpa using h) q hq]
    simp
theorem row_cells {α : Type} (f : α → List Value) {k : Nat} (hf : ∀ x, (f x).length = k) {w : World} {B c : Nat} {e : TypeId} {p : Option Addr} {l : List α} (h : w.ownsRow B e k (.slice p l.length c) l.length (l.flatMap f)) :
    l.length = 0 ∨ ∃ g, p = some ⟨g, 0, none⟩ ∧ B ≤ g ∧ g < w.heap.size ∧ ∀ i, (hi : i < l.length) → ∀ q, q < k → w.cell? ⟨g, i * k + q, none⟩ = (f l[i])[q]? := by
  rcases h.2 with ⟨_, h0⟩ | ⟨g, cap, cur, hv, hB, hg, _, _, _, htake⟩
  · exact .inl h0
  · obtain rfl : p = some ⟨g, 0, none⟩ := by simp at hv; exact hv.1
    refine .inr ⟨g, rfl, hB, (Array.getElem?_eq_some_iff.1 hg).1, fun i hi q hq => ?_⟩
    rw [Lib.cell_of_heap hg]
    have h1 : i * k + q < l.length * k := by
      have : (i + 1) * k ≤ l.length * k := Nat.mul_le_mul_right k hi
      have h2 : (i + 1) * k = i * k + k := Nat.succ_mul i k
      omega
    rw [← flat_at f hf l i hi q hq, ← htake, List.getElem?_take_of_lt h1, Array.getElem?_toList]
theorem ag_len (x : Ag) : x.cells.length = 5 := rfl
theorem ltC_len {d : Nat} (x : Lt d) : (ltC x).length = 16 := rfl
theorem ags_row {w : World} {B c : Nat} {p : Option Addr} {l : List Ag} (h : w.ownsRow B 99 5 (.slice p l.length c) l.length (l.flatMap Ag.cells)) : AgsAt w p l := by
  rcases row_cells Ag.cells ag_len h with h0 | ⟨g, hp, _, hg, hc⟩
  · exact .inl h0
  · refine .inr ⟨g, 0, hp, hg, fun i hi => ?_⟩
    rw [Nat.zero_add]
    exact ⟨hc i hi 0 (by omega), hc i hi 1 (by omega), hc i hi 2 (by omega), hc i hi 3 (by omega), hc i hi 4 (by omega)⟩
theorem lts_row {w : World} {B c d : Nat} {p : Option Addr} {l : List (Lt d)} (h : w.ownsRow B 114 16 (.slice p l.length c) l.length (l.flatMap ltC)) (ha : ∀ x ∈ l, LtAt w x) : LtsAt w d p l := by
  refine ⟨?_, ha⟩
  rcases row_cells ltC ltC_len h with h0 | ⟨g, hp, _, hg, hc⟩
  · exact .inl h0
  · refine .inr ⟨g, 0, hp, hg, fun i hi => ?_⟩
    rw [Nat.zero_add]
    exact ⟨hc i hi 0 (by omega), hc i hi 1 (by omega), hc i hi 2 (by omega), hc i hi 3 (by omega), hc i hi 4 (by omega), hc i hi 5 (by omega), hc i hi 6 (by omega), hc i hi 7 (by omega), hc i hi 8 (by omega), hc i hi 9 (by omega), hc i hi 10 (by omega), hc i hi 11 (by omega), hc i hi 12 (by omega), hc i hi 13 (by omega), hc i hi 14 (by omega), hc i hi 15 (by omega)⟩
/-- A rule's lists lie in blocks of a kind. -/
structure RuIn (N : Nat → Prop) {d : Nat} (x : Ru d) : Prop where
  h_ : ∀ a, (Value.slice x.hp x.hs.length x.hc).ownBlock = some a → N a
  b_ : ∀ a, (Value.slice x.bp x.bs.length x.bc).ownBlock = some a → N a
  l_ : ∀ y ∈ x.bs, LtIn N y
theorem RuIn.mono {N M : Nat → Prop} (h : ∀ a, N a → M a) {d : Nat} {x : Ru d} (k : RuIn N x) : RuIn M x := ⟨fun a ha => h a (k.h_ a ha), fun a ha => h a (k.b_ a ha), fun y hy => (k.l_ y hy).mono h⟩
theorem AgsAt.keep {N : Nat → Prop} {w w' : World} {p : Option Addr} {l : List Ag} (h : KpW N w w') (hn : ∀ a o, p = some ⟨a, o, none⟩ → N a) (k : AgsAt w p l) : AgsAt w' p l :=
  k.imp id fun ⟨a, o, hp, ha, hc⟩ => ⟨a, o, hp, Nat.lt_of_lt_of_le ha h.s_, fun i hi =>
    have e := h.k_ a (hn a o hp) ha
    have c := hc i hi
    ⟨(cell_eq e _).trans c.1, ⟨(cell_eq e _).trans c.2.c0, (cell_eq e _).trans c.2.c1, (cell_eq e _).trans c.2.c2, (cell_eq e _).trans c.2.c3⟩⟩⟩
theorem LtCell.eq {w w' : World} {a o d : Nat} {x : Lt d} (h : LtCell w a o x) (e : w'.heap[a]? = w.heap[a]?) : LtCell w' a o x :=
  ⟨(cell_eq e _).trans h.c0, (cell_eq e _).trans h.c1, (cell_eq e _).trans h.c2, (cell_eq e _).trans h.c3, (cell_eq e _).trans h.c4, (cell_eq e _).trans h.c5, (cell_eq e _).trans h.c6, (cell_eq e _).trans h.c7, (cell_eq e _).trans h.c8, (cell_eq e _).trans h.c9, (cell_eq e _).trans h.c10, (cell_eq e _).trans h.c11, (cell_eq e _).trans h.c12, (cell_eq e _).trans h.c13, (cell_eq e _).trans h.c14, (cell_eq e _).trans h.c15⟩
theorem LtsAt.keep {N : Nat → Prop} {w w' : World} {d : Nat} {p : Option Addr} {l : List (Lt d)} (h : KpW N w w') (hn : ∀ a o, p = some ⟨a, o, none⟩ → N a) (hi : ∀ y ∈ l, LtIn N y) (k : LtsAt w d p l) : LtsAt w' d p l :=
  ⟨k.1.imp id fun ⟨a, o, hp, ha, hc⟩ => ⟨a, o, hp, Nat.lt_of_lt_of_le ha h.s_, fun i hi => (hc i hi).eq (h.k_ a (hn a o hp) ha)⟩, fun y hy => (k.2 y hy).keep h (hi y hy)⟩
theorem RuAt.keep {N : Nat → Prop} {w w' : World} {d : Nat} {x : Ru d} (h : KpW N w w') (hi : RuIn N x) (k : RuAt w x) : RuAt w' x :=
  ⟨k.h_.keep h fun a o e => hi.h_ a (by rw [e]; rfl), k.b_.keep h (fun a o e => hi.b_ a (by rw [e]; rfl)) hi.l_⟩
/-! The rounds of replaced. -/
/-- Where the row of the arguments grows whose header lies in block b. -/
structure HdR (ρ : ByteArray → ByteArray) (pr : ByteArray) (hs : List Ag) (V : World) (b j : Nat) (v : Value) (wr : World) : Prop where
  b_ : wr.heap[b]? = some (.cells #[.string pr, v, .slice none 0 0] 41 (0, 0))
  r_ : wr.ownsRow (b + 1) 99 5 v j (((hs.take j).map (rnAg ρ)).flatMap Ag.cells)
  u_ : Below b V wr
theorem HdR.next {ρ : ByteArray → ByteArray} {pr : ByteArray} {hs : List Ag} {V : World} {b j : Nat} {v v' : Value} {wr w2 : World} (h : HdR ρ pr hs V b j v wr) (hj : j < hs.length) (hb : Below (b + 1) wr w2)
    (hown : w2.ownsRow (b + 1) 99 5 v' (j + 1) (((hs.take j).map (rnAg ρ)).flatMap Ag.cells ++ (rnAg ρ hs[j]).cells)) : HdR ρ pr hs V b (j + 1) v' (w2.setCell ⟨b, 1, none⟩ v') := by
  have h1 := (hb.block b (Nat.lt_succ_self b)).trans h.b_
  refine ⟨?_, ?_, ?_⟩
  · simp [World.setCell, Array.getElem?_modify, h1]
  · rw [List.take_succ_eq_append_getElem hj, List.map_append, List.map_cons, List.map_nil, List.flatMap_append, List.flatMap_cons, List.flatMap_nil, List.append_nil]
    exact ownR_set hown (Nat.lt_succ_self b)
  · exact (h.u_.trans (hb.mono (by omega))).setCell (p := ⟨b, 1, none⟩) (Nat.le_refl b) v'
/-- Where the row of the literals grows whose header lies in block b: W is the world before the rounds. -/
structure BdR (ρ : ByteArray → ByteArray) (pr : ByteArray) (vh : Value) {d : Nat} (bs : List (Lt d)) (W : World) (b j : Nat) (v : Value) (wr : World) : Prop where
  lt : b < W.heap.size
  b_ : wr.heap[b]? = some (.cells #[.string pr, vh, v] 41 (0, 0))
  u_ : Below b W wr
  k_ : ∀ a, a < W.heap.size → a ≠ b → wr.heap[a]? = W.heap[a]?
  ex : ∃ L : List (Lt d), L.length = j ∧ wr.ownsRow W.heap.size 114 16 v j (L.flatMap ltC) ∧ L.map nfLt = (bs.take j).map (fun x => nfLt (rnLt ρ x)) ∧ (∀ x ∈ L, LtAt wr x) ∧ ∀ x ∈ L, LtIn (Free b v wr) x
theorem BdR.start {ρ : ByteArray → ByteArray} {pr : ByteArray} {vh : Value} {d : Nat} (bs : List (Lt d)) {W : World} {b : Nat} (h : W.heap[b]? = some (.cells #[.string pr, vh, .slice none 0 0] 41 (0, 0))) : BdR ρ pr vh bs W b 0 (.slice none 0 0) W :=
  ⟨(Array.getElem?_eq_some_iff.1 h).1, h, Below.refl _ _, fun _ _ _ => rfl, [], rfl, ownR_nil _ _ _ _, rfl, fun k hk => by simp at hk, fun k hk => by simp at hk⟩
theorem own_same {w : World} {B n k : Nat} {e : TypeId} {v : Value} {xs ys : List Value} (h : w.ownsRow B e k v n xs) (g : w.ownsRow B e k v n ys) : xs = ys := by
  rcases h.2 with ⟨hv, h0⟩ | ⟨g', cap', cur, hv, _, hg', _, _, _, hx⟩
  · have e1 := h.1
    have e2 := g.1
    rw [h0, Nat.zero_mul] at e1 e2
    rw [List.eq_nil_of_length_eq_zero e1, List.eq_nil_of_length_eq_zero e2]
  · rcases g.2 with ⟨hv2, _⟩ | ⟨g2, cap2, cur2, hv2, _, hg2, _, _, _, hx2⟩
    · rw [hv] at hv2; cases hv2
    · rw [hv] at hv2
      obtain rfl : g' = g2 := by simp at hv2; exact hv2.1
      rw [hg'] at hg2
      simp only [Option.some.injEq, Obj.cells.injEq] at hg2
      rw [← hx, ← hx2, hg2.1]
theorem BdR.next {ρ : ByteArray → ByteArray} {pr : ByteArray} {vh : Value} {d : Nat} {bs : List (Lt d)} {W wr w1 w2 : World} {b j : Nat} {v : Value} {xs : List Value} (h : BdR ρ pr vh bs W b j v wr) (hj : j < bs.length) (hr : wr.ownsRow W.heap.size 114 16 v j xs)
    {x' : Lt d} (h1 : Below wr.heap.size wr w1) (he : LtAt w1 x') (hi : LtIn (fun a => wr.heap.size ≤ a ∧ a < w1.heap.size) x') (hn : nfLt x' = nfLt (rnLt ρ bs[j]))
    {o : Obj} {g cap : Nat} (hg : (w1.alloc o).grownBy w2 v.ownBlock) (hat : v.ownBlock = some g ∨ g = w1.heap.size + 1)
    (hown : w2.ownsRow W.heap.size 114 16 (.slice (some ⟨g, 0, none⟩) (j + 1) cap) (j + 1) (xs ++ ltC x')) :
    BdR ρ pr vh bs W b (j + 1) (.slice (some ⟨g, 0, none⟩) (j + 1) cap) (w2.setCell ⟨b, 2, none⟩ (.slice (some ⟨g, 0, none⟩) (j + 1) cap)) := by
  obtain ⟨L, hl, hL, hm, ha, hf⟩ := h.ex
  rw [own_same hr hL] at hown
  have hbl := h.lt
  have hsz := h.u_.size
  have hlt : ∀ g, v.ownBlock = some g → g < wr.heap.size := fun g hg => (ownR_lt hL hg).2
  have hb2 : Below W.heap.size wr w2 := ap_below h1 hsz (ownR_up hL h1) hg
  have e1 := (hb2.block b hbl).trans h.b_
  have hk1 := step_keeps (b := b) (c := 2) (v' := .slice (some ⟨g, 0, none⟩) (j + 1) cap) h1 hg
  have hk2 := step_keeps_new (b := b) (c := 2) (v' := .slice (some ⟨g, 0, none⟩) (j + 1) cap) (Nat.lt_of_lt_of_le hbl hsz) hlt hg
  have hf1 := free_next (b := b) (c := 2) (v' := .slice (some ⟨g, 0, none⟩) (j + 1) cap) (x := .slice (some ⟨g, 0, none⟩) (j + 1) cap) h1 hg rfl hat
  have hf2 := free_new (b := b) (c := 2) (v' := .slice (some ⟨g, 0, none⟩) (j + 1) cap) (x := .slice (some ⟨g, 0, none⟩) (j + 1) cap) (Nat.lt_of_lt_of_le hbl hsz) hlt hg rfl hat
  refine ⟨hbl, ?_, (h.u_.trans (hb2.mono (Nat.le_of_lt hbl))).setCell (p := ⟨b, 2, none⟩) (Nat.le_refl b) _, ?_, L ++ [x'], by simp [hl], ?_, ?_, ?_, ?_⟩
  · simp [World.setCell, Array.getElem?_modify, e1]
  · intro a h5 h6
    rw [Below.heap_setCell _ _ _ _ h6, hb2.block a h5, h.k_ a h5 h6]
  · rw [List.flatMap_append, List.flatMap_cons, List.flatMap_nil, List.append_nil]
    exact ownR_set hown hbl
  · rw [List.map_append, hm, List.take_succ_eq_append_getElem hj, List.map_append, List.map_cons, List.map_nil, List.map_cons, List.map_nil, hn]
  · intro k hk
    rcases List.mem_append.1 hk with h5 | h5
    · exact (ha k h5).keep hk1 (hf k h5)
    · rw [List.mem_singleton.1 h5]
      exact he.keep hk2 (hi.mono (fun a h => h.1))
  · intro k hk
    rcases List.mem_append.1 hk with h5 | h5
    · exact (hf k h5).mono hf1
    · rw [List.mem_singleton.1 h5]
      exact hi.mono hf2
/-- What a call leaves that replaces the variables of a rule. -/
def RpPost (ρ : ByteArray → ByteArray) {d : Nat} (p : ByteArray) (hs : List Ag) (bs : List (Lt d)) (w : World) (r : Ending) (w' : World) : Prop :=
  ∃ y : Ru d, r = .returned (.agg #[.string y.p, .slice y.hp y.hs.length y.hc, .slice y.bp y.bs.length y.bc]) ∧ y.p = p ∧ y.hs = hs.map (rnAg ρ) ∧ y.bs.map nfLt = (bs.map (rnLt ρ)).map nfLt ∧
    RuAt w' y ∧ RuIn (fun a => w.heap.size ≤ a ∧ a < w'.heap.size) y ∧ Below w.heap.size w w'
/-- What both rounds have made. -/
theorem BdR.done {ρ : ByteArray → ByteArray} {pr : ByteArray} {hs : List Ag} {d : Nat} {bs : List (Lt d)} {w V W wr w' : World} {b : Nat} {p q : Option Addr} {c k : Nat} (h : HdR ρ pr hs V b hs.length (.slice p hs.length c) W) (g : BdR ρ pr (.slice p hs.length c) bs W b bs.length (.slice q bs.length k) wr)
    (hw : KpW (fun a => b < a) wr w') (hb : Below w.heap.size w w') (hlt : w.heap.size ≤ b) : RpPost ρ pr hs bs w (.returned (.agg #[.string pr, .slice p hs.length c, .slice q bs.length k])) w' := by
  obtain ⟨L, hl, hL, hm, ha, hf⟩ := g.ex
  rw [List.take_of_length_le (Nat.le_refl _)] at hm
  have hr := h.r_
  rw [List.take_of_length_le (Nat.le_refl _)] at hr
  have hs2 := hw.s_
  have hs1 := g.u_.size
  have hin : ∀ a, (Value.slice p hs.length c).ownBlock = some a → b < a ∧ a < W.heap.size := fun a h1 => by have := ownR_lt hr h1; exact ⟨by omega, by omega⟩
  have hk : KpW (fun a => b < a) W w' := ⟨Nat.le_trans hs1 hs2, fun a h1 h2 => (hw.k_ a h1 (by omega)).trans (g.k_ a h2 (by omega))⟩
  have hLi : ∀ x ∈ L, LtIn (fun a => b < a ∧ a < w'.heap.size) x := fun x hx => (hf x hx).mono fun a h1 => ⟨h1.1, by have := h1.2.1; omega⟩
  have hlw := g.lt
  refine ⟨⟨pr, p, c, hs.map (rnAg ρ), q, k, L⟩, ?_, rfl, rfl, ?_, ⟨?_, ?_⟩, ⟨?_, ?_, ?_⟩, hb⟩
  · simp only [List.length_map, hl]
  · show L.map nfLt = _
    rw [hm, List.map_map]
    rfl
  · have hr2 : W.ownsRow (b + 1) 99 5 (.slice p (hs.map (rnAg ρ)).length c) (hs.map (rnAg ρ)).length ((hs.map (rnAg ρ)).flatMap Ag.cells) := by rw [List.length_map]; exact hr
    exact (ags_row hr2).keep hk fun a o e => (hin a (by have e' : p = some ⟨a, o, none⟩ := e; rw [e']; rfl)).1
  · rw [← hl] at hL
    refine (lts_row hL ha).keep hw (fun a o e => ?_) (fun x hx => (hLi x hx).mono fun a h => h.1)
    have := ownR_lt hL (show (Value.slice q L.length k).ownBlock = some a by have e' : q = some ⟨a, o, none⟩ := e; rw [e']; rfl)
    omega
  · intro a h1
    have h1' : (Value.slice p (hs.map (rnAg ρ)).length c).ownBlock = some a := h1
    rw [List.length_map] at h1'
    have := hin a h1'
    exact ⟨by omega, by omega⟩
  · intro a h1
    have h1' : (Value.slice q L.length k).ownBlock = some a := h1
    rw [hl] at h1'
    have := ownR_lt hL h1'
    exact ⟨by omega, by omega⟩
  · exact fun x hx => (hLi x hx).mono fun a h => ⟨by omega, h.2⟩
end Go.Proofs.YtafjjececdhmjaaGreat
