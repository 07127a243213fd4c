/- The reference's terms of expressions, literals and rules. The reference's terms of literals and rules. The reference's terms and variables of rules. The reference's In, vars, RuleVars, argument. The reference's RuleVars, argument, rule, CheckRule. The reference's texts of arguments and rules. The contracts of the reference's Rule and of BeyondRule. Conditions: the thing lies in memory as it is told; at most 10000 terms. the rule lies in memory as it is told; at most 10000 terms. the rule lies in memory as it is told. the rule lies in memory as it is told, and is one as it may be. -/
import Derived.Test.YtafjjececdhmjaaGreatNS1
import Derived.Test.YtafjjececdhmjaaGreatNB1
import Derived.WalkKit
import Derived.Test.YtafjjececdhmjaaGreatNS4
import Derived.Test.YtafjjececdhmjaaGreatNS6
import Derived.Test.YtafjjececdhmjaaGreatNKe
namespace Go.Proofs.YtafjjececdhmjaaGreat
open Go.RowKit

def tmsC (l : List Tm) : List Value := l.flatMap Tm.cells
/-- Terms that have been gathered in a row of one's own. -/
structure TS (w0 : World) (acc : List Tm) (v : Value) (w : World) : Prop where
  below : Below w0.heap.size w0 w
  row : w.ownsRowF w0.heap.size 93 4 v acc.length (tmsC acc)
/-- What the gathering leaves of the rest. -/
structure TG (W : World) (v0 v : Value) (w : World) : Prop where
  grown : W.grownBy w v0.ownBlock
  at_ : ∀ g, v.ownBlock = some g → v0.ownBlock = some g ∨ W.heap.size ≤ g
theorem TG.refl (W : World) (v : Value) : TG W v v W := ⟨⟨rfl, rfl, rfl, Nat.le_refl _, fun _ _ _ => rfl⟩, fun _ h => .inl h⟩
theorem TG.step {W w w' : World} {v0 v v' : Value} (h : TG W v0 v w) (hg : w.grownBy w' v.ownBlock) (hp : ∀ g, v'.ownBlock = some g → v.ownBlock = some g ∨ w.heap.size ≤ g) : TG W v0 v' w' := by
  refine ⟨⟨hg.os.trans h.grown.os, hg.tape.trans h.grown.tape, hg.output.trans h.grown.output, Nat.le_trans h.grown.size hg.size, fun k hk hne => ?_⟩, fun g hgv => ?_⟩
  · refine (hg.block k (Nat.lt_of_lt_of_le hk h.grown.size) fun e => ?_).trans (h.grown.block k hk hne)
    rcases h.at_ k e.symm with h1 | h1
    · exact hne h1.symm
    · omega
  · rcases hp g hgv with h1 | h1
    · exact h.at_ g h1
    · exact .inr (Nat.le_trans h.grown.size h1)
theorem TG.alloc {W w : World} {v0 v : Value} (h : TG W v0 v w) (o : Obj) : TG W v0 v (w.alloc o) :=
  h.step (World.grownBy_alloc _ _ _) fun _ hg => .inl hg
theorem TG.trans {W V w : World} {v0 v1 v : Value} (h : TG W v0 v1 V) (k : TG V v1 v w) : TG W v0 v w := h.step k.grown k.at_
theorem TS.alloc {w0 w : World} {acc : List Tm} {v : Value} (h : TS w0 acc v w) (o : Obj) : TS w0 acc v (w.alloc o) := ⟨h.below.alloc h.below.size _, h.row.alloc o⟩
theorem TS.grow {w0 w w' : World} {acc : List Tm} {v v' : Value} {x : Tm} (h : TS w0 acc v w) (hown : w'.ownsRowF w0.heap.size 93 4 v' (acc.length + 1) (tmsC acc ++ x.cells)) (hg : w.grownBy w' v.ownBlock) : TS w0 (acc ++ [x]) v' w' := by
  refine ⟨h.below.grown hg h.below.size fun g hg' => (h.row.lt g hg').1, ?_⟩
  have e : tmsC (acc ++ [x]) = tmsC acc ++ x.cells := by simp [tmsC]
  rw [e]
  simpa using hown
/-- A block of another type is none of the row's. -/
theorem TG.keeps {W w : World} {v0 v : Value} {w0 : World} {n : Nat} {xs : List Value} {b : Nat} {cs : Array Value} {t : TypeId} {fz : Nat × Nat} (h : TG W v0 v w) (hr : W.ownsRowF w0.heap.size 93 4 v0 n xs) (hb : W.heap[b]? = some (.cells cs t fz)) (ht : t ≠ 93) : w.heap[b]? = some (.cells cs t fz) := by
  refine (h.grown.block b (Array.getElem?_eq_some_iff.1 hb).1 fun e => ?_).trans hb
  rcases hr.2 with ⟨hv, _⟩ | ⟨g, cap, cur, fz2, hv, _, hg2, _⟩
  · rw [hv] at e; cases e
  · rw [hv] at e
    obtain rfl : b = g := by simpa [Value.ownBlock] using e
    rw [hb] at hg2
    simp only [Option.some.injEq, Obj.cells.injEq] at hg2
    exact ht hg2.2.1
theorem own_sl4 {w : World} {B n : Nat} {e : TypeId} {v : Value} {xs : List Value} (h : w.ownsRowF B e 4 v n xs) : ∃ p cap, v = .slice p n cap := by
  rcases h.2 with ⟨hv, hn⟩ | ⟨g, cap, cur, fz, hv, _⟩
  · exact ⟨none, 0, by rw [hv, hn]⟩
  · exact ⟨_, cap, hv⟩
theorem new_tm (w : World) (l : List Value) (t : TypeId) : ∀ j u, l[j]? = some u → (w.alloc (.cells l.toArray t)).cell? ((⟨w.heap.size, 0, none⟩ : Addr).add j) = some u := by
  intro j u hj
  have h3 : (⟨w.heap.size, 0, none⟩ : Addr).add j = ⟨w.heap.size, j, none⟩ := by unfold Addr.add; split <;> simp_all
  rw [h3, Lib.cell_of_heap (heap_alloc_new w _)]
  simpa using hj
theorem tm_one (x : Tm) : ∀ u ∈ x.cells, u.oneCell' = true := by
  intro u hu
  simp [Tm.cells, Vl.cells] at hu
  rcases hu with rfl | rfl | rfl | rfl <;> rfl
def TPost (w0 : World) (acc : List Tm) (w : World) (v : Value) (e : Ending) (w' : World) : Prop := ∃ p c, e = .returned (.slice p acc.length c) ∧ TS w0 acc (.slice p acc.length c) w' ∧ TG w v (.slice p acc.length c) w'
theorem flat_snocT {α : Type} (f : α → List Tm) (l : List α) (k : Nat) (h : k < l.length) : (l.take (k + 1)).flatMap f = (l.take k).flatMap f ++ f l[k] := by
  rw [List.take_succ_eq_append_getElem h, List.flatMap_append]
  simp
theorem flat_leT {α : Type} (f : α → List Tm) (l : List α) (k : Nat) (h : k < l.length) : ((l.take k).flatMap f).length + (f l[k]).length ≤ (l.flatMap f).length := by
  have h1 : ((l.take (k + 1)).flatMap f).length ≤ (l.flatMap f).length := by
    conv => rhs; rw [← List.take_append_drop (k + 1) l, List.flatMap_append, List.length_append]
    omega
  rw [flat_snocT f l k h, List.length_append] at h1
  exact h1
/-- What is known of the terms of an expression, gathered. -/
def TmE (w0 : World) (d : Nat) : Prop := ∀ (e : Ex d) (acc : List Tm) (v : Value) (w : World), TS w0 acc v w → ExAt w0 d e → acc.length + (exTms d e).length ≤ 10000 →
  Calls Tryz.prog 117 #[v, .agg #[.int .i8 (exOp d e), .string (exTm d e).v, .int .i8 (exTm d e).x.k, .int .i64 (exTm d e).x.n, .string (exTm d e).x.t, exSl d e]] w (TPost w0 (acc ++ exTms d e) w v)
set_option maxHeartbeats 8000000 in
set_option maxRecDepth 100000 in
theorem rExprTerms (w0 : World) : ∀ d, TmE w0 d
  | 0 => fun e => nomatch e
  | d + 1 => by
    have ih := rExprTerms w0 d
    rintro ⟨op, t, s, ks⟩ acc v w h hat hn
    obtain ⟨p, cap, hs, hm, hks, hka⟩ := hat
    simp only at hs hm hks hka
    subst hs
    unfold maxLen at hm
    obtain ⟨i0, hi, hzz⟩ := Option.map_eq_some_iff.1 infoTm
    simp only [Prod.mk.injEq] at hzz
    obtain ⟨hz0, hz1, hz2⟩ := hzz
    have HI := Lib.hid hi; clear hi
    have HZ0 := Lib.hid hz0; clear hz0
    have HZ1 := Lib.hid hz1; clear hz1
    have HZ2 := Lib.hid hz2; clear hz2
    simp only [exTms, List.length_cons] at hn
    have hn0 : acc.length ≤ 9999 := by omega
    have HN := Lib.hid hn; clear hn
    have HIH := Lib.hid ih; clear ih
    have HKS := Lib.hid hks; clear hks
    have HKA := Lib.hid hka; clear hka
    obtain ⟨pv, cv, rfl⟩ := own_sl4 h.row
    have HTS := Lib.hid h
    have hsz := h.below.size
    clear h
    obtain ⟨V, hV⟩ : ∃ V, V = w.alloc (.cells #[.int .i8 op, .string t.v, .int .i8 t.x.k, .int .i64 t.x.n, .string t.x.t, .slice p ks.length cap] 112) := ⟨_, rfl⟩
    have HBV := Lib.hid (show V.heap[w.heap.size]? = some (.cells #[.int .i8 op, .string t.v, .int .i8 t.x.k, .int .i64 t.x.n, .string t.x.t, .slice p ks.length cap] 112 (0, 0)) by rw [hV]; exact heap_alloc_new w _)
    have HTV := Lib.hid (show TS w0 acc (.slice pv acc.length cv) V by rw [hV]; exact HTS.out.alloc _)
    have HGV := Lib.hid (show TG w (.slice pv acc.length cv) (.slice pv acc.length cv) V by rw [hV]; exact (TG.refl _ _).alloc _)
    have hszV : w0.heap.size ≤ V.heap.size := HTV.out.below.size
    obtain ⟨y0, y1, y2, y3, y4, y5⟩ := six HBV.out
    simp only [exOp, exTm, exSl, exTms]
    go_enter Tryz.func117, Tryz.ntmps117
    go_wp2_with (at_builtin; refine wpApp_row rfl _ _ 24 rfl w0.heap.size 93 i0 _ 4 48 Tryz.underlying24 HI.out HZ0.out HZ1.out HZ2.out rfl (by decide) _ _ _ rfl ((HTS.out.alloc _).alloc _).row ⟨w.heap.size + 1, 0, none⟩ 1 1 t.cells rfl rfl (by simpa [Tm.cells, Vl.cells] using new_tm (w.alloc _) t.cells 93) ?c1 ?c2 ?c3 ?c4 ?_)
    case c1 => exact tm_one _
    case c2 => unfold maxLen; omega
    case c3 => omega
    case c4 => simp; omega
    intro v1 w2 hown hgrow _ hpl
    have HT1 := Lib.hid (((HTS.out.alloc _).alloc _).grow hown hgrow)
    have HG1 := Lib.hid (show TG V (.slice pv acc.length cv) v1 w2 by rw [hV]; exact ((TG.refl _ _).alloc _).step hgrow (by simpa using hpl))
    clear hown hgrow hpl y0 y1 y2 y3 y4 y5 hV
    obtain ⟨A1, hA1⟩ : ∃ A1, A1 = acc ++ [t] := ⟨_, rfl⟩
    rw [← hA1] at HT1
    have HA1 := Lib.hid hA1; clear hA1
    obtain ⟨p1, c1, rfl⟩ := own_sl4 HT1.out.row
    go_wp2_with fail
    go_loopw [0, 5] (fun v i wr => ∃ (k : Nat) (A : List Tm), k ≤ ks.length ∧ i = .int .i64 k ∧ A = acc ++ [t] ++ (ks.take k).flatMap (exTms d) ∧ TS w0 A v wr ∧ TG V (.slice pv acc.length cv) v wr) (fun _ i _ => ks.length - (intOf i).toNat)
    case atStart => exact ⟨0, A1, by omega, rfl, by rw [HA1.out]; simp, HT1.out, HG1.out⟩
    case round =>
      obtain ⟨k, A, hk, rfl, hA, hts, htg⟩ := hrel
      rename World => wr
      have HAA := Lib.hid hA; clear hA
      have y5 : wr.cell? ⟨w.heap.size, 5, none⟩ = some (.slice p ks.length cap) := by rw [Lib.cell_of_heap (htg.keeps HTV.out.row HBV.out (by decide))]; rfl
      obtain ⟨pr, cr, rfl⟩ := own_sl4 hts.row
      have HT2 := Lib.hid hts; clear hts
      have HG2 := Lib.hid htg; clear htg
      by_cases hlt : k < ks.length
      · rcases HKS.out with h0 | ⟨a2, o2, rfl, ha2, hck⟩
        · omega
        · obtain ⟨c0, c1', c2, c3, c4, c5⟩ := (hck k hlt).up HT2.out.below ha2
          clear hck
          have hle := flat_leT (exTms d) ks k hlt
          have hfs := flat_snocT (exTms d) ks k hlt
          have hkx := HKA.out _ (List.getElem_mem hlt)
          obtain ⟨x, hx⟩ : ∃ x, x = ks[k] := ⟨_, rfl⟩
          rw [← hx] at c0 c1' c2 c3 c4 c5 hle hfs hkx
          clear hx
          have HCA := Lib.hid (HIH.out x A _ wr HT2.out hkx (by rw [HAA.out]; have h1 := HN.out; simp only [List.length_append, List.length_cons, List.length_nil]; omega))
          obtain ⟨A2, hA2⟩ : ∃ A2, A2 = A ++ exTms d x := ⟨_, rfl⟩
          rw [← hA2] at HCA
          have HA2 := Lib.hid (show A2 = acc ++ [t] ++ (ks.take (k + 1)).flatMap (exTms d) by rw [hA2, HAA.out, hfs, ← List.append_assoc])
          clear hA2 hle hfs hkx
          have hk0 : (0 : Int) ≤ (k : Int) := by omega
          have hki : (k : Int) < (ks.length : Int) := by omega
          go_wp2_with fail
          refine HCA.out.mono ?_
          rintro e w3 ⟨p3, c3', rfl, hts, htg⟩
          have HT3 := Lib.hid hts; clear hts
          have HG3 := Lib.hid (HG2.out.trans htg); clear htg
          clear y5 c0 c1' c2 c3 c4 c5
          go_wp2_with fail
          go_roundw
          case rel => exact ⟨k + 1, A2, by omega, by go_num, HA2.out, HT3.out, HG3.out⟩
          case measure => simp [intOf]; omega
      · obtain rfl : k = ks.length := by omega
        have HTA := Lib.hid (show A = acc ++ t :: ks.flatMap (exTms d) by rw [HAA.out, List.take_of_length_le (Nat.le_refl _)]; simp)
        go_wp2_with fail
        go_ret
        exact ⟨pr, cr, by rw [← HTA.out]; rfl, by rw [← HTA.out]; exact HT2.out, by rw [← HTA.out]; exact HGV.out.trans HG2.out⟩
open Go.RowKit

set_option maxHeartbeats 8000000 in
set_option maxRecDepth 100000 in
theorem rLitTerms (w0 : World) (d : Nat) (x : Lt d) (acc : List Tm) (v : Value) (w : World) (h : TS w0 acc v w) (hx : LtAt w0 x) (hn : acc.length + (ltTms x).length ≤ 10000) :
    Calls Tryz.prog 96 #[v, .agg #[.int .i8 x.k, .string x.p, x.sv, .int .i8 x.r, .int .i8 (exOp d x.l), .string (exTm d x.l).v, .int .i8 (exTm d x.l).x.k, .int .i64 (exTm d x.l).x.n, .string (exTm d x.l).x.t, exSl d x.l, .int .i8 (exOp d x.g), .string (exTm d x.g).v, .int .i8 (exTm d x.g).x.k, .int .i64 (exTm d x.g).x.n, .string (exTm d x.g).x.t, exSl d x.g]] w (TPost w0 (acc ++ ltTms x) w v) := by
  obtain ⟨q, qc, hsv, hm, hats⟩ := hx.at_
  obtain ⟨pl, cl, hsl⟩ := ex_sl2 hx.l_
  obtain ⟨pg, cg, hsg⟩ := ex_sl2 hx.g_
  have hcl := fun A v w' h1 h2 => rExprTerms w0 d x.l A v w' h1 hx.l_ h2
  have hcg := fun A v w' h1 h2 => rExprTerms w0 d x.g A v w' h1 hx.g_ h2
  rw [hsl] at hcl
  rw [hsg] at hcg
  rw [hsv, hsl, hsg]
  have HCL := Lib.hid hcl; clear hcl
  have HCG := Lib.hid hcg; clear hcg
  clear hsv hsl hsg hx
  unfold maxLen at hm
  have HATS := Lib.hid hats; clear hats
  obtain ⟨i0, hi, hzz⟩ := Option.map_eq_some_iff.1 infoTm
  simp only [Prod.mk.injEq] at hzz
  obtain ⟨hz0, hz1, hz2⟩ := hzz
  have HI := Lib.hid hi; clear hi
  have HZ0 := Lib.hid hz0; clear hz0
  have HZ1 := Lib.hid hz1; clear hz1
  have HZ2 := Lib.hid hz2; clear hz2
  simp only [ltTms, List.length_append] at hn
  have HN := Lib.hid hn; clear hn
  obtain ⟨pv, cv, rfl⟩ := own_sl4 h.row
  have HTS := Lib.hid h
  have hsz := h.below.size
  clear h
  obtain ⟨V, hV⟩ : ∃ V, V = w.alloc (.cells #[.int .i8 x.k, .string x.p, .slice q x.ts.length qc, .int .i8 x.r, .int .i8 (exOp d x.l), .string (exTm d x.l).v, .int .i8 (exTm d x.l).x.k, .int .i64 (exTm d x.l).x.n, .string (exTm d x.l).x.t, .slice pl (exLen d x.l) cl, .int .i8 (exOp d x.g), .string (exTm d x.g).v, .int .i8 (exTm d x.g).x.k, .int .i64 (exTm d x.g).x.n, .string (exTm d x.g).x.t, .slice pg (exLen d x.g) cg] 114) := ⟨_, rfl⟩
  have HBV := Lib.hid (show V.heap[w.heap.size]? = some (.cells #[.int .i8 x.k, .string x.p, .slice q x.ts.length qc, .int .i8 x.r, .int .i8 (exOp d x.l), .string (exTm d x.l).v, .int .i8 (exTm d x.l).x.k, .int .i64 (exTm d x.l).x.n, .string (exTm d x.l).x.t, .slice pl (exLen d x.l) cl, .int .i8 (exOp d x.g), .string (exTm d x.g).v, .int .i8 (exTm d x.g).x.k, .int .i64 (exTm d x.g).x.n, .string (exTm d x.g).x.t, .slice pg (exLen d x.g) cg] 114 (0, 0)) by rw [hV]; exact heap_alloc_new w _)
  have HTV := Lib.hid (show TS w0 acc (.slice pv acc.length cv) V by rw [hV]; exact HTS.out.alloc _)
  have HGV := Lib.hid (show TG w (.slice pv acc.length cv) (.slice pv acc.length cv) V by rw [hV]; exact (TG.refl _ _).alloc _)
  have hszV : w0.heap.size ≤ V.heap.size := HTV.out.below.size
  have HPO := Lib.hid (show ltTms x = x.ts ++ (exTms d x.l ++ exTms d x.g) from rfl)
  go_enter Tryz.func96, Tryz.ntmps96
  go_wp2_with fail
  rw [← hV]
  clear hV
  go_loopw [0, 5] (fun v i wr => ∃ (k : Nat) (A : List Tm), k ≤ x.ts.length ∧ i = .int .i64 k ∧ A = acc ++ x.ts.take k ∧ TS w0 A v wr ∧ TG V (.slice pv acc.length cv) v wr) (fun _ i _ => x.ts.length - (intOf i).toNat)
  case atStart => exact ⟨0, acc, by omega, rfl, by simp, HTV.out, TG.refl _ _⟩
  case round =>
    obtain ⟨k, A, hk, rfl, hA, hts, htg⟩ := hrel
    rename World => wr
    have HAA := Lib.hid hA; clear hA
    have hbx := htg.keeps HTV.out.row HBV.out (by decide)
    obtain ⟨pr, cr, rfl⟩ := own_sl4 hts.row
    have HT2 := Lib.hid hts; clear hts
    have HG2 := Lib.hid htg; clear htg
    have hszr := HT2.out.below.size
    obtain ⟨y0, y1, y2, y3, y4, y5, y6, y7, y8, y9, y10, y11, y12, y13, y14, y15⟩ := sixteen hbx
    clear hbx
    by_cases hlt : k < x.ts.length
    · rcases HATS.out with h0 | ⟨a2, o2, rfl, hta⟩
      · omega
      · obtain ⟨c0, c1, c2, c3⟩ := (hta.at_ k hlt).up HT2.out.below hta.lt
        clear hta
        have hal : A.length ≤ 9999 := by
          rw [HAA.out]
          have h1 := HN.out
          simp only [List.length_append, List.length_take]
          omega
        have htk : x.ts.take (k + 1) = x.ts.take k ++ [x.ts[k]] := List.take_succ_eq_append_getElem hlt
        obtain ⟨t, ht⟩ : ∃ t, t = x.ts[k] := ⟨_, rfl⟩
        rw [← ht] at c0 c1 c2 c3 htk
        have HTK := Lib.hid htk
        clear ht htk
        have hk0 : (0 : Int) ≤ (k : Int) := by omega
        have hki : (k : Int) < (x.ts.length : Int) := by omega
        go_wp2_with (at_builtin; refine wpApp_row rfl _ _ 24 rfl w0.heap.size 93 i0 _ 4 48 Tryz.underlying24 HI.out HZ0.out HZ1.out HZ2.out rfl (by decide) _ _ _ rfl (HT2.out.alloc _).row ⟨wr.heap.size, 0, none⟩ 1 1 t.cells rfl rfl (by simpa [Tm.cells, Vl.cells] using new_tm wr t.cells 93) ?c1 ?c2 ?c3 ?c4 ?_)
        case c1 => exact tm_one _
        case c2 => unfold maxLen; omega
        case c3 => omega
        case c4 => simp; omega
        intro v1 w2 hown hgrow _ hpl
        have HT3 := Lib.hid ((HT2.out.alloc _).grow hown hgrow)
        have HG3 := Lib.hid ((HG2.out.alloc _).step hgrow (by simpa using hpl))
        clear hown hgrow hpl y0 y1 y2 y3 y4 y5 y6 y7 y8 y9 y10 y11 y12 y13 y14 y15 c0 c1 c2 c3
        obtain ⟨A3, hA3⟩ : ∃ A3, A3 = A ++ [t] := ⟨_, rfl⟩
        rw [← hA3] at HT3
        have HA3 := Lib.hid (show A3 = acc ++ x.ts.take (k + 1) by rw [hA3, HAA.out, HTK.out, List.append_assoc]); clear hA3
        obtain ⟨p3, c3, rfl⟩ := own_sl4 HT3.out.row
        go_wp2_with fail
        go_roundw
        case rel => exact ⟨k + 1, A3, by omega, by go_num, HA3.out, HT3.out, HG3.out⟩
        case measure => simp [intOf]; omega
    · obtain rfl : k = x.ts.length := by omega
      have HA2 := Lib.hid (show A = acc ++ x.ts by rw [HAA.out, List.take_of_length_le (Nat.le_refl _)])
      obtain ⟨A3, hA3⟩ : ∃ A3, A3 = A ++ exTms d x.l := ⟨_, rfl⟩
      have hc := HCL.out A _ wr HT2.out (by rw [HA2.out]; have h1 := HN.out; simp only [List.length_append]; omega)
      rw [← hA3] at hc
      have HC := Lib.hid hc; clear hc
      go_wp2_with fail
      refine HC.out.mono ?_
      rintro e w3 ⟨p3, c3, rfl, hts, htg⟩
      have HT3 := Lib.hid hts; clear hts
      have htg2 := HG2.out.trans htg
      have hbx := htg2.keeps HTV.out.row HBV.out (by decide)
      have HG3 := Lib.hid htg2; clear htg htg2
      clear y0 y1 y2 y3 y4 y5 y6 y7 y8 y9 y10 y11 y12 y13 y14 y15
      obtain ⟨y0, y1, y2, y3, y4, y5, y6, y7, y8, y9, y10, y11, y12, y13, y14, y15⟩ := sixteen hbx
      clear hbx
      obtain ⟨A4, hA4⟩ : ∃ A4, A4 = A3 ++ exTms d x.g := ⟨_, rfl⟩
      have hc := HCG.out A3 _ w3 HT3.out (by rw [hA3, HA2.out]; have h1 := HN.out; simp only [List.length_append]; omega)
      rw [← hA4] at hc
      have HC2 := Lib.hid hc; clear hc
      have HF := Lib.hid (show acc ++ ltTms x = A4 by rw [hA4, hA3, HA2.out, HPO.out]; simp); clear hA4 hA3
      go_wp2_with fail
      refine HC2.out.mono ?_
      rintro e w4 ⟨p4, c4, rfl, hts, htg⟩
      have HT4 := Lib.hid hts; clear hts
      have HG4 := Lib.hid (HG3.out.trans htg); clear htg
      clear y0 y1 y2 y3 y4 y5 y6 y7 y8 y9 y10 y11 y12 y13 y14 y15
      go_wp2_with fail
      go_ret
      exact ⟨p4, c4, by rw [HF.out]; rfl, by rw [HF.out]; exact HT4.out, by rw [HF.out]; exact HGV.out.trans HG4.out⟩
open Go.RowKit

set_option maxHeartbeats 8000000 in
set_option maxRecDepth 100000 in
theorem rRuleTerms (d : Nat) (p : ByteArray) (hp : Option Addr) (hc : Nat) (hs : List Ag) (bp : Option Addr) (bc : Nat) (bs : List (Lt d)) (w : World)
    (hh : AgsAt w hp hs) (hb : LtsAt w d bp bs) (hr : RuR p hs bs) (hn : (ruTms hs bs).length ≤ 10000) :
    Calls Tryz.prog 55 #[.agg #[.string p, .slice hp hs.length hc, .slice bp bs.length bc]] w fun e w' => ∃ pt ct, e = .returned (.slice pt (ruTms hs bs).length ct) ∧ TS w (ruTms hs bs) (.slice pt (ruTms hs bs).length ct) w' := by
  have hm1 := hr.hl
  have hm2 := hr.bl
  unfold maxLen at hm1 hm2
  clear hr
  have HH := Lib.hid hh; clear hh
  have HB := Lib.hid hb; clear hb
  obtain ⟨i0, hi, hzz⟩ := Option.map_eq_some_iff.1 infoTm
  simp only [Prod.mk.injEq] at hzz
  obtain ⟨hz0, hz1, hz2⟩ := hzz
  have HI := Lib.hid hi; clear hi
  have HZ0 := Lib.hid hz0; clear hz0
  have HZ1 := Lib.hid hz1; clear hz1
  have HZ2 := Lib.hid hz2; clear hz2
  have HPO := Lib.hid (show ruTms hs bs = hs.map (·.t) ++ bs.flatMap ltTms from rfl)
  have HN := Lib.hid (show hs.length + (bs.flatMap ltTms).length ≤ 10000 by rw [ruTms, List.length_append, List.length_map] at hn; exact hn)
  clear hn
  obtain ⟨R, hR⟩ : ∃ R, R = ruTms hs bs := ⟨_, rfl⟩
  rw [← hR] at HPO ⊢
  clear hR
  obtain ⟨V, hV⟩ : ∃ V, V = w.alloc (.cells #[.string p, .slice hp hs.length hc, .slice bp bs.length bc] 41) := ⟨_, rfl⟩
  have HBV := Lib.hid (show V.heap[w.heap.size]? = some (.cells #[.string p, .slice hp hs.length hc, .slice bp bs.length bc] 41 (0, 0)) by rw [hV]; exact heap_alloc_new w _)
  have HTV := Lib.hid (show TS w [] (.slice none 0 0) V by rw [hV]; exact ⟨below_alloc _ _, World.ownsRowF_nil _ _ _ _⟩)
  go_enter Tryz.func55, Tryz.ntmps55
  go_wp2_with fail
  rw [← hV]
  clear hV
  go_loopw [3, 4] (fun v i wr => ∃ (k : Nat) (A : List Tm), k ≤ hs.length ∧ i = .int .i64 k ∧ A = (hs.map (·.t)).take k ∧ TS w A v wr ∧ TG V (.slice none 0 0) v wr) (fun _ i _ => hs.length - (intOf i).toNat)
  case atStart => exact ⟨0, [], by omega, rfl, by simp, HTV.out, TG.refl _ _⟩
  case round =>
    obtain ⟨k, A, hk, rfl, hA, hts, htg⟩ := hrel
    rename World => wr
    have HAA := Lib.hid hA; clear hA
    have hbx := htg.keeps HTV.out.row HBV.out (by decide)
    obtain ⟨pr, cr, rfl⟩ := own_sl4 hts.row
    have HT2 := Lib.hid hts; clear hts
    have HG2 := Lib.hid htg; clear htg
    have hszr := HT2.out.below.size
    obtain ⟨y0, y1, y2⟩ := three hbx
    have HBX := Lib.hid hbx; clear hbx
    by_cases hlt : k < hs.length
    · rcases HH.out with h0 | ⟨a2, o2, rfl, ha2, hck⟩
      · omega
      · obtain ⟨c0, c1, c2, c3⟩ := (hck k hlt).2.up HT2.out.below ha2
        clear hck
        have hal : A.length ≤ 9999 := by
          rw [HAA.out]
          have h1 := HN.out
          simp only [List.length_take, List.length_map]
          omega
        have htk : (hs.map (·.t)).take (k + 1) = (hs.map (·.t)).take k ++ [hs[k].t] := by
          rw [List.take_succ_eq_append_getElem (by simpa using hlt), List.getElem_map]
        obtain ⟨t, ht⟩ : ∃ t, t = hs[k].t := ⟨_, rfl⟩
        rw [← ht] at c0 c1 c2 c3 htk
        have HTK := Lib.hid htk
        clear ht htk
        have hk0 : (0 : Int) ≤ (k : Int) := by omega
        have hki : (k : Int) < (hs.length : Int) := by omega
        go_wp2_with (at_builtin; refine wpApp_row rfl _ _ 24 rfl w.heap.size 93 i0 _ 4 48 Tryz.underlying24 HI.out HZ0.out HZ1.out HZ2.out rfl (by decide) _ _ _ rfl (HT2.out.alloc _).row ⟨wr.heap.size, 0, none⟩ 1 1 t.cells rfl rfl (by simpa [Tm.cells, Vl.cells] using new_tm wr t.cells 93) ?c1 ?c2 ?c3 ?c4 ?_)
        case c1 => exact tm_one _
        case c2 => unfold maxLen; omega
        case c3 => omega
        case c4 => first | omega | (simp; omega)
        intro v1 w2 hown hgrow _ hpl
        have HT3 := Lib.hid ((HT2.out.alloc _).grow hown hgrow)
        have HG3 := Lib.hid ((HG2.out.alloc _).step hgrow (by simpa using hpl))
        clear hown hgrow hpl y0 y1 y2 c0 c1 c2 c3
        obtain ⟨A3, hA3⟩ : ∃ A3, A3 = A ++ [t] := ⟨_, rfl⟩
        rw [← hA3] at HT3
        have HA3 := Lib.hid (show A3 = (hs.map (·.t)).take (k + 1) by rw [hA3, HAA.out, HTK.out]); clear hA3
        obtain ⟨p3, c3, rfl⟩ := own_sl4 HT3.out.row
        go_wp2_with fail
        go_roundw
        case rel => exact ⟨k + 1, A3, by omega, by go_num, HA3.out, HT3.out, HG3.out⟩
        case measure => simp [intOf]; omega
    · obtain rfl : k = hs.length := by omega
      have HA2 := Lib.hid (show A = hs.map (·.t) by rw [HAA.out, List.take_of_length_le (by simp)])
      rename World => wq
      go_wp2_with fail
      clear y0 y1 y2
      go_loopw [3, 5] (fun v i wr => ∃ (k : Nat) (B : List Tm), k ≤ bs.length ∧ i = .int .i64 k ∧ B = A ++ (bs.take k).flatMap ltTms ∧ TS w B v wr ∧ TG V (.slice none 0 0) v wr) (fun _ i _ => bs.length - (intOf i).toNat)
      case atStart => exact ⟨0, A, by omega, rfl, by simp, HT2.out, HG2.out⟩
      case round =>
        obtain ⟨k, B, hk2, rfl, hB, hts, htg⟩ := hrel
        rename World => wr
        have HBB := Lib.hid hB; clear hB
        have hbx := htg.keeps HTV.out.row HBV.out (by decide)
        obtain ⟨pr2, cr2, rfl⟩ := own_sl4 hts.row
        have HT3 := Lib.hid hts; clear hts
        have HG3 := Lib.hid htg; clear htg
        obtain ⟨y0, y1, y2⟩ := three hbx
        clear hbx
        by_cases hlt : k < bs.length
        · rcases HB.out.1 with h0 | ⟨a2, o2, rfl, ha2, hcs⟩
          · omega
          have hck := (hcs k hlt).up HT3.out.below ha2
          clear hcs
          have hxx := HB.out.2 bs[k] (List.getElem_mem hlt)
          have hle := flat_leT ltTms bs k hlt
          have hfs := flat_snocT ltTms bs k hlt
          obtain ⟨x, hx⟩ : ∃ x, x = bs[k] := ⟨_, rfl⟩
          rw [← hx] at hck hxx hle hfs
          clear hx
          obtain ⟨q, qc, hsv, _, _⟩ := hxx.at_
          obtain ⟨pl, cl, hsl⟩ := ex_sl2 hxx.l_
          obtain ⟨pg, cg, hsg⟩ := ex_sl2 hxx.g_
          have hcall := rLitTerms w d x B _ wr HT3.out hxx (by rw [HBB.out, HA2.out]; have h1 := HN.out; simp only [List.length_append, List.length_map]; omega)
          obtain ⟨B2, hB2⟩ : ∃ B2, B2 = B ++ ltTms x := ⟨_, rfl⟩
          rw [← hB2] at hcall
          have HB2 := Lib.hid (show B2 = A ++ (bs.take (k + 1)).flatMap ltTms by rw [hB2, HBB.out, hfs, List.append_assoc])
          obtain ⟨c0, c1, c2, c3, c4, c5, c6, c7, c8, c9, c10, c11, c12, c13, c14, c15⟩ := hck
          rw [hsv] at c2 hcall
          rw [hsl] at c9 hcall
          rw [hsg] at c15 hcall
          have HCALL := Lib.hid hcall
          clear hcall hsv hsl hsg hB2 hle hfs hxx
          have hk0 : (0 : Int) ≤ (k : Int) := by omega
          have hki : (k : Int) < (bs.length : Int) := by omega
          go_wp2_with fail
          refine HCALL.out.mono ?_
          rintro e w3 ⟨p3, c3', rfl, hts, htg⟩
          have HT4 := Lib.hid hts; clear hts
          have HG4 := Lib.hid (HG3.out.trans htg); clear htg
          clear y0 y1 y2 c0 c1 c2 c3 c4 c5 c6 c7 c8 c9 c10 c11 c12 c13 c14 c15
          go_wp2_with fail
          go_roundw
          case rel => exact ⟨k + 1, B2, by omega, by go_num, HB2.out, HT4.out, HG4.out⟩
          case measure => simp [intOf]; omega
        · obtain rfl : k = bs.length := by omega
          have HF := Lib.hid (show R = B by rw [HPO.out, HBB.out, HA2.out, List.take_of_length_le (Nat.le_refl _)])
          go_wp2_with fail
          go_ret
          exact ⟨pr2, cr2, by rw [HF.out]; rfl, by rw [HF.out]; exact HT3.out⟩
open Go.RowKit

def inB (l : List (List UInt8)) (s : ByteArray) : Bool := l.contains (bl s)
set_option maxHeartbeats 2000000 in
set_option maxRecDepth 100000 in
theorem rIn (s : ByteArray) (l : List (List UInt8)) (p : Option Addr) (c : Nat) (w : World) (hp : StrsAt w p l) (hn : l.length ≤ 10000) :
    Calls Tryz.prog 95 #[.string s, .slice p l.length c] w fun e w' => e = .returned (.bool (inB l s)) ∧ w = w' := by
  have HP := Lib.hid hp; clear hp
  go_enter Tryz.func95, Tryz.ntmps95
  go_wp2_with fail
  go_loop [5] (fun i => ∃ k : Nat, k ≤ l.length ∧ i = .int .i64 k ∧ (l.take k).contains (bl s) = false) (fun i => l.length - (intOf i).toNat)
  case atStart => exact ⟨0, by omega, rfl, by simp⟩
  case round =>
    obtain ⟨k, hk, rfl, hno⟩ := hrel
    have HNO := Lib.hid hno; clear hno
    by_cases hlt : k < l.length
    · rcases HP.out with h0 | ⟨a, o, rfl, hc⟩
      · omega
      · have hck := hc k hlt
        clear hc
        have hk0 : (0 : Int) ≤ (k : Int) := by omega
        have hki : (k : Int) < (l.length : Int) := by omega
        by_cases he : l[k] = bl s
        · have HE := Lib.hid (show inB l s = true by rw [inB]; rw [List.contains_iff_mem]; exact he ▸ List.getElem_mem hlt)
          rw [he, str_eta] at hck
          clear he
          go_wp2_with fail
          go_ret
          exact ⟨by rw [HE.out]; rfl, rfl⟩
        · have HE := Lib.hid (show (l.take (k + 1)).contains (bl s) = false by
            rw [List.take_succ_eq_append_getElem hlt]
            rw [← Bool.not_eq_true, List.contains_iff_mem, List.mem_append]
            rintro (h9 | h9)
            · have := HNO.out
              rw [← Bool.not_eq_true, List.contains_iff_mem] at this
              exact this h9
            · exact he (Eq.symm (by simpa using h9)))
          have q : ((⟨l[k].toArray⟩ : ByteArray).toList == s.toList) = false := by
            refine beq_eq_false_iff_ne.2 fun h9 => he ?_
            rw [ByteArray.toList_eq, ByteArray.toList_eq] at h9
            simpa [bl] using h9
          obtain ⟨X, hX⟩ : ∃ X, X = (⟨l[k].toArray⟩ : ByteArray) := ⟨_, rfl⟩
          rw [← hX] at hck q
          clear hX he
          go_wp2_with fail
          go_round
          case rel => exact ⟨k + 1, by omega, by go_num, HE.out⟩
          case measure => simp [intOf]; omega
    · obtain rfl : k = l.length := by omega
      have HE := Lib.hid (show inB l s = false by rw [inB]; have h9 := HNO.out; rwa [List.take_of_length_le (Nat.le_refl _)] at h9)
      go_wp2_with fail
      go_ret
      exact ⟨by rw [HE.out]; rfl, rfl⟩
theorem tmsC_len (l : List Tm) : (tmsC l).length = l.length * 4 := by
  induction l with
  | nil => rfl
  | cons x r ih =>
    have e : tmsC (x :: r) = x.cells ++ tmsC r := rfl
    rw [e, List.length_append, ih]
    simp [Tm.cells, Vl.cells]
    omega
theorem tmsC_at : ∀ (l : List Tm) (i : Nat) (h : i < l.length) (q : Nat), q < 4 → (tmsC l)[i * 4 + q]? = l[i].cells[q]?
  | x :: r, 0, _, q, hq => by
    have e : tmsC (x :: r) = x.cells ++ tmsC r := rfl
    rw [e, List.getElem?_append_left (by simp [Tm.cells, Vl.cells]; omega)]
    simp
  | x :: r, i + 1, h, q, hq => by
    have e : tmsC (x :: r) = x.cells ++ tmsC r := rfl
    rw [e, List.getElem?_append_right (by simp [Tm.cells, Vl.cells]; omega)]
    have e2 : (i + 1) * 4 + q - x.cells.length = i * 4 + q := by simp [Tm.cells, Vl.cells]; omega
    rw [e2]
    exact tmsC_at r i (by simpa using h) q hq
theorem row_sl {w : World} {B : Nat} {v : Value} {l : List Tm} (h : w.ownsRowF B 93 4 v l.length (tmsC l)) (hn : l.length ≤ 10000) : TmSl w v l := by
  have hc := fun g hg => h.cells (g := g) hg
  rcases h.2 with ⟨hv, h0⟩ | ⟨g, cap, cur, fz, hv, _, hg, _⟩
  · exact ⟨none, 0, by rw [hv, h0], by unfold maxLen; omega, .inl h0⟩
  · refine ⟨some ⟨g, 0, none⟩, cap, hv, by unfold maxLen; omega, .inr ⟨g, 0, rfl, (Array.getElem?_eq_some_iff.1 hg).1, fun i hi => ?_⟩⟩
    have hq : ∀ q, q < 4 → ∀ u, l[i].cells[q]? = some u → w.cell? ⟨g, 0 + i * 4 + q, none⟩ = some u := fun q hq u hu => by
      have h1 := hc g (by rw [hv]; rfl) (i * 4 + q) u (by rw [tmsC_at l i hi q hq]; exact hu)
      have h3 : (⟨g, 0, none⟩ : Addr).add (i * 4 + q) = ⟨g, i * 4 + q, none⟩ := by unfold Addr.add; split <;> simp_all
      rw [h3] at h1
      rw [Nat.zero_add]
      exact h1
    exact ⟨hq 0 (by omega) _ rfl, hq 1 (by omega) _ rfl, hq 2 (by omega) _ rfl, hq 3 (by omega) _ rfl⟩
theorem new_s1 (w : World) (v : ByteArray) : ∀ j u, [Value.string v][j]? = some u → (w.alloc (.cells #[.string v] 9)).cell? ((⟨w.heap.size, 0, none⟩ : Addr).add j) = some u := new_tm w [.string v] _
set_option maxHeartbeats 4000000 in
set_option maxRecDepth 100000 in
theorem rVars (ts : List Tm) (p : Option Addr) (c : Nat) (w : World) (hts : TmSl w (.slice p ts.length c) ts) (hn : ts.length ≤ 10000) :
    Calls Tryz.prog 54 #[.slice p ts.length c] w (VlPost (varsL ts) w) := by
  obtain ⟨p', c', hv, hm, hat⟩ := hts
  obtain ⟨rfl, rfl⟩ : p = p' ∧ c = c' := by simpa using hv
  clear hv hm
  have HAT := Lib.hid hat; clear hat
  obtain ⟨i0, hi, hzz⟩ := Option.map_eq_some_iff.1 infoStr
  simp only [Prod.mk.injEq] at hzz
  obtain ⟨hz0, hz1, hz2⟩ := hzz
  have HI := Lib.hid hi; clear hi
  have HZ0 := Lib.hid hz0; clear hz0
  have HZ1 := Lib.hid hz1; clear hz1
  have HZ2 := Lib.hid hz2; clear hz2
  obtain ⟨l, hll⟩ : ∃ l, l = varsL ts := ⟨_, rfl⟩
  rw [← hll]
  have HNN := Lib.hid hll; clear hll
  go_enter Tryz.func54, Tryz.ntmps54
  go_wp2_with fail
  go_loopw [3, 4, 5] (fun v i _ wr => ∃ (k : Nat) (acc : List (List UInt8)), k ≤ ts.length ∧ i = .int .i64 k ∧ acc = (ts.take k).foldl addV [] ∧ wr.ownsRowF w.heap.size 9 1 v acc.length (strVs acc) ∧ Below w.heap.size w wr) (fun _ i _ _ => ts.length - (intOf i).toNat)
  case atStart => exact ⟨0, [], by omega, rfl, rfl, World.ownsRowF_nil _ _ _ _, Below.refl _ _⟩
  case round =>
    obtain ⟨k, acc, hk, rfl, hacc, hrow, hb⟩ := hrel
    rename World => wr
    have hal : acc.length ≤ 10000 := by
      have h1 := (foldV_len (ts.take k) []).2
      rw [← hacc, List.length_take] at h1
      simp at h1
      omega
    have HACC := Lib.hid hacc; clear hacc
    obtain ⟨pr, cr, rfl, hst⟩ := own_strs hrow rfl
    have HRW := Lib.hid hrow; clear hrow
    have HST := Lib.hid hst; clear hst
    have Hb := Lib.hid hb; clear hb
    have hsz := Hb.out.size
    by_cases hlt : k < ts.length
    · rcases HAT.out with h0 | ⟨a2, o2, rfl, hta⟩
      · omega
      · have c0 := ((hta.at_ k hlt).up Hb.out hta.lt).c0
        clear hta
        have hst := take_add ts [] k hlt
        rw [← HACC.out] at hst
        obtain ⟨t, ht⟩ : ∃ t, t = ts[k] := ⟨_, rfl⟩
        rw [← ht] at c0 hst
        clear ht
        obtain ⟨v, tx⟩ := t
        simp only at c0
        have HSTP := Lib.hid hst; clear hst
        have hk0 : (0 : Int) ≤ (k : Int) := by omega
        have hki : (k : Int) < (ts.length : Int) := by omega
        by_cases h0 : v.toList.isEmpty = true
        · have HA := Lib.hid (show addV acc ⟨v, tx⟩ = acc by unfold addV; rw [if_neg]; simp [newV, bl, ← ByteArray.toList_eq, h0])
          go_wp2_with fail
          go_roundw
          case rel => exact ⟨k + 1, acc, by omega, by go_num, by rw [HSTP.out, HA.out], HRW.out, Hb.out⟩
          case measure => simp [intOf]; omega
        · have h0' : v.toList.isEmpty = false := by simpa using h0
          clear h0
          by_cases h95 : v.toList = [95]
          · have q95 : (v.toList == [95]) = true := by simp [h95]
            have HA := Lib.hid (show addV acc ⟨v, tx⟩ = acc by unfold addV; rw [if_neg]; simp [newV, bl, ← ByteArray.toList_eq, h95])
            clear h95
            go_wp2_with fail
            go_roundw
            case rel => exact ⟨k + 1, acc, by omega, by go_num, by rw [HSTP.out, HA.out], HRW.out, Hb.out⟩
            case measure => simp [intOf]; omega
          · have q95 : (v.toList == [95]) = false := by simpa using h95
            rcases hq : acc.contains (bl v) with _ | _
            · have HA := Lib.hid (show addV acc ⟨v, tx⟩ = acc ++ [bl v] by unfold addV; rw [if_pos]; simp only [newV, hq]; simp [bl, ← ByteArray.toList_eq, h95]; simpa using h0')
              have HQ := Lib.hid (show inB acc v = _ from hq); clear hq h95
              go_wp2_with fail
              refine (rIn v acc pr cr _ HST.out hal).mono ?_
              rintro e w1 ⟨rfl, rfl⟩
              rw [HQ.out]
              go_wp2_with (at_builtin; refine wpApp_row rfl _ _ 85 rfl w.heap.size 9 i0 _ 1 16 Tryz.underlying85 HI.out HZ0.out HZ1.out HZ2.out rfl (by decide) _ _ _ rfl (HRW.out.alloc _) ⟨wr.heap.size, 0, none⟩ 1 1 [.string v] rfl rfl (new_s1 wr v) ?c1 ?c2 ?c3 ?c4 ?_)
              case c1 => exact one_str v
              case c2 => unfold maxLen; omega
              case c3 => omega
              case c4 => first | omega | (simp; omega)
              intro v1 w2 hown hgrow _ hpl
              have HB2 := Lib.hid ((Hb.out.alloc hsz _).grown hgrow (by simp; omega) (fun g hg => (HRW.out.lt g hg).1))
              have HO2 := Lib.hid (show w2.ownsRowF w.heap.size 9 1 v1 (acc ++ [bl v]).length (strVs (acc ++ [bl v])) by
                have e : strVs (acc ++ [bl v]) = strVs acc ++ [.string v] := by simp [strVs]
                rw [e]
                simpa using hown)
              clear hown hgrow hpl c0
              obtain ⟨A2, hA2⟩ : ∃ A2, A2 = acc ++ [bl v] := ⟨_, rfl⟩
              rw [← hA2] at HO2 HA
              clear hA2
              obtain ⟨p2, c2, rfl⟩ := own_slice1 HO2.out
              go_wp2_with fail
              go_roundw
              case rel => exact ⟨k + 1, A2, by omega, by go_num, by rw [HSTP.out, HA.out], HO2.out, HB2.out⟩
              case measure => simp [intOf]; omega
            · have HA := Lib.hid (show addV acc ⟨v, tx⟩ = acc by unfold addV; rw [if_neg]; simp only [newV, hq]; simp)
              have HQ := Lib.hid (show inB acc v = _ from hq); clear hq h95
              go_wp2_with fail
              refine (rIn v acc pr cr _ HST.out hal).mono ?_
              rintro e w1 ⟨rfl, rfl⟩
              rw [HQ.out]
              go_wp2_with fail
              go_roundw
              case rel => exact ⟨k + 1, acc, by omega, by go_num, by rw [HSTP.out, HA.out], HRW.out, Hb.out⟩
              case measure => simp [intOf]; omega
    · obtain rfl : k = ts.length := by omega
      have HF := Lib.hid (show l = acc by rw [HNN.out, varsL, HACC.out, List.take_of_length_le (Nat.le_refl _)])
      go_wp2_with fail
      go_ret
      exact ⟨pr, cr, by rw [HF.out]; rfl, Hb.out, by rw [HF.out]; exact ss_own HRW.out⟩
open Go.RowKit

set_option maxHeartbeats 4000000 in
theorem rRuleVars (d : Nat) (p : ByteArray) (hp : Option Addr) (hc : Nat) (hs : List Ag) (bp : Option Addr) (bc : Nat) (bs : List (Lt d)) (w : World)
    (hh : AgsAt w hp hs) (hb : LtsAt w d bp bs) (hr : RuR p hs bs) (hn : (ruTms hs bs).length ≤ 10000) :
    Calls Tryz.prog 27 #[.agg #[.string p, .slice hp hs.length hc, .slice bp bs.length bc]] w (VlPost (varsL (ruTms hs bs)) w) := by
  obtain ⟨W, hW⟩ : ∃ W, W = w.alloc (.cells #[.string p, .slice hp hs.length hc, .slice bp bs.length bc] 41) := ⟨_, rfl⟩
  have HBW := Lib.hid (show Below w.heap.size w W by rw [hW]; exact below_alloc _ _)
  have hsW : W.heap.size = w.heap.size + 1 := by rw [hW]; simp
  have HCALL := Lib.hid (rRuleTerms d p hp hc hs bp bc bs W (hh.up HBW.out) (hb.up HBW.out) hr hn)
  clear hh hb hr
  have HN := Lib.hid hn; clear hn
  obtain ⟨R, hR⟩ : ∃ R, R = ruTms hs bs := ⟨_, rfl⟩
  rw [← hR] at HCALL HN ⊢
  clear hR
  go_enter Tryz.func27, Tryz.ntmps27
  go_wp2_with fail
  rw [← hW]
  clear hW
  refine HCALL.out.mono ?_
  rintro e w1 ⟨pt, ct, rfl, hts⟩
  have HT := Lib.hid hts; clear hts
  go_wp2_with fail
  refine (rVars R pt ct _ (row_sl HT.out.row HN.out) HN.out).mono ?_
  rintro e w2 ⟨ps, cs, rfl, hb, hss⟩
  have HB := Lib.hid hb; clear hb
  have HSS := Lib.hid (show SsAt w2 w.heap.size ps (varsL R) by
    have h9 := HT.out.below.size
    rcases hss with h0 | ⟨a, o, h1, h2, h3⟩
    · exact .inl h0
    · exact .inr ⟨a, o, h1, by omega, h3⟩)
  clear hss
  obtain ⟨n, hnn⟩ : ∃ n, n = (varsL R).length := ⟨_, rfl⟩
  rw [← hnn]
  have HNN := Lib.hid hnn; clear hnn
  go_wp2_with fail
  go_ret
  exact ⟨ps, cs, by rw [HNN.out]; rfl, HBW.out.trans ((HT.out.below.trans (HB.out.mono HT.out.below.size)).mono (by omega)), HSS.out⟩
set_option maxHeartbeats 4000000 in
set_option maxRecDepth 100000 in
theorem rArg (x : Ag) (w : World) (hv : x.t.v.size ≤ maxLen) :
    Calls Tryz.prog 52 #[.agg #[.int .i8 x.g, .string x.t.v, .int .i8 x.t.x.k, .int .i64 x.t.x.n, .string x.t.x.t]] w fun e w' => e = .returned (.bool (agOk x)) ∧ Below w.heap.size w w' := by
  obtain ⟨g, ⟨v, ⟨k, n, t⟩⟩⟩ := x
  simp only at hv ⊢
  have HVS := Lib.hid hv; clear hv
  have hbb : ∀ (O O2 : Obj), Below w.heap.size w ((w.alloc O).alloc O2) := fun O O2 => (below_alloc w O).alloc (by simp) O2
  have HBB := Lib.hid hbb; clear hbb
  by_cases h0 : g = 0
  · subst h0
    by_cases h95 : v.toList = [95]
    · have q95 : (v.toList == [95]) = true := by simp [h95]
      have HE := Lib.hid (show agOk ⟨0, ⟨v, ⟨k, n, t⟩⟩⟩ = false by unfold agOk; rw [if_pos rfl]; simp [solidB, bl, ← ByteArray.toList_eq, h95])
      clear h95
      go_enter Tryz.func52, Tryz.ntmps52
      go_wp2_with fail
      go_ret
      exact ⟨ret_bool HE.out.symm, HBB.out _ _⟩
    · have q95 : (v.toList == [95]) = false := by simpa using h95
      have HE := Lib.hid (show agOk ⟨0, ⟨v, ⟨k, n, t⟩⟩⟩ = tmOk ⟨v, ⟨k, n, t⟩⟩ by unfold agOk; rw [if_pos rfl]; simp [solidB, bl, ← ByteArray.toList_eq, h95])
      clear h95
      go_enter Tryz.func52, Tryz.ntmps52
      go_wp2_with fail
      refine (rterm v k n t _ HVS.out).mono ?_
      rintro e w1 ⟨rfl, hb⟩
      have Hb := Lib.hid hb; clear hb
      go_wp2_with fail
      go_ret
      exact ⟨ret_bool HE.out.symm, (HBB.out _ _).trans (Hb.out.mono (by simp; omega))⟩
  · by_cases h1 : g = 1
    · subst h1
      have HE := Lib.hid (show agOk ⟨1, ⟨v, ⟨k, n, t⟩⟩⟩ = tmZero ⟨v, ⟨k, n, t⟩⟩ from rfl)
      have hq := fun w => tm_eq0 v k n t w
      clear h0
      go_enter Tryz.func52, Tryz.ntmps52
      go_wp2_with fail
      go_ret
      exact ⟨ret_bool HE.out.symm, HBB.out _ _⟩
    · by_cases h24 : 2 ≤ g ∧ g ≤ 4
      · have HE := Lib.hid (show agOk ⟨g, ⟨v, ⟨k, n, t⟩⟩⟩ = (!(bl v).isEmpty && solidB ⟨v, ⟨k, n, t⟩⟩) by unfold agOk; rw [if_neg h0, if_neg h1, if_pos h24])
        clear h0 h1
        rcases (show g = 2 ∨ g = 3 ∨ g = 4 by omega) with rfl | rfl | rfl
        all_goals
          by_cases hve : v.toList.isEmpty = true
          · have HE2 := Lib.hid (show agOk ⟨_, ⟨v, ⟨k, n, t⟩⟩⟩ = false by rw [HE.out, bl, ← ByteArray.toList_eq, hve]; rfl)
            go_enter Tryz.func52, Tryz.ntmps52
            go_wp2_with fail
            go_ret
            exact ⟨ret_bool HE2.out.symm, HBB.out _ _⟩
          · have hve' : v.toList.isEmpty = false := by simpa using hve
            have HE1 := Lib.hid (show agOk ⟨_, ⟨v, ⟨k, n, t⟩⟩⟩ = solidB ⟨v, ⟨k, n, t⟩⟩ by rw [HE.out, bl, ← ByteArray.toList_eq, hve']; rfl)
            clear hve
            by_cases h95 : v.toList = [95]
            · have q95 : (v.toList == [95]) = true := by simp [h95]
              have HE2 := Lib.hid (show agOk ⟨_, ⟨v, ⟨k, n, t⟩⟩⟩ = false by rw [HE1.out]; simp [solidB, bl, ← ByteArray.toList_eq, h95])
              clear h95
              go_enter Tryz.func52, Tryz.ntmps52
              go_wp2_with fail
              go_ret
              exact ⟨ret_bool HE2.out.symm, HBB.out _ _⟩
            · have q95 : (v.toList == [95]) = false := by simpa using h95
              have HE2 := Lib.hid (show agOk ⟨_, ⟨v, ⟨k, n, t⟩⟩⟩ = tmOk ⟨v, ⟨k, n, t⟩⟩ by rw [HE1.out]; simp [solidB, bl, ← ByteArray.toList_eq, h95])
              clear h95
              go_enter Tryz.func52, Tryz.ntmps52
              go_wp2_with fail
              refine (rterm v k n t _ HVS.out).mono ?_
              rintro e w1 ⟨rfl, hb⟩
              have Hb := Lib.hid hb; clear hb
              go_wp2_with fail
              go_ret
              exact ⟨ret_bool HE2.out.symm, (HBB.out _ _).trans (Hb.out.mono (by simp; omega))⟩
      · have HE := Lib.hid (show agOk ⟨g, ⟨v, ⟨k, n, t⟩⟩⟩ = false by unfold agOk; rw [if_neg h0, if_neg h1, if_neg h24])
        have q0 : (g == 0) = false := beq_eq_false_iff_ne.2 h0
        have q1 : (g == 1) = false := beq_eq_false_iff_ne.2 h1
        have q2 : (g == 2) = false := beq_eq_false_iff_ne.2 (by omega)
        have q3 : (g == 3) = false := beq_eq_false_iff_ne.2 (by omega)
        have q4 : (g == 4) = false := beq_eq_false_iff_ne.2 (by omega)
        clear h0 h1 h24
        go_enter Tryz.func52, Tryz.ntmps52
        go_wp2_with fail
        go_ret
        exact ⟨ret_bool HE.out.symm, HBB.out _ _⟩
set_option maxHeartbeats 16000000 in
set_option maxRecDepth 100000 in
theorem rRule (d : Nat) (p : ByteArray) (hp : Option Addr) (hc : Nat) (hs : List Ag) (bp : Option Addr) (bc : Nat) (bs : List (Lt d)) (w : World) (hh : AgsAt w hp hs) (hb : LtsAt w d bp bs) (hr : RuR p hs bs) :
    Calls Tryz.prog 26 #[.agg #[.string p, .slice hp hs.length hc, .slice bp bs.length bc]] w fun e w' => e = .returned (.bool (ruOk p hs bs)) ∧ Below w.heap.size w w' := by
  obtain ⟨W, hW⟩ : ∃ W, W = w.alloc (.cells #[.string p, .slice hp hs.length hc, .slice bp bs.length bc] 41) := ⟨_, rfl⟩
  have HBW := Lib.hid (show Below w.heap.size w W by rw [hW]; exact below_alloc _ _)
  have hsW : W.heap.size = w.heap.size + 1 := by rw [hW]; simp
  have HBX := Lib.hid (show W.heap[w.heap.size]? = some (.cells #[.string p, .slice hp hs.length hc, .slice bp bs.length bc] 41 (0, 0)) by rw [hW]; exact heap_alloc_new w _)
  have hbk : w.heap.size < W.heap.size := by omega
  have HH := Lib.hid (hh.up HBW.out); clear hh
  have HB := Lib.hid (hb.up HBW.out); clear hb
  have HR := Lib.hid hr
  have hm1 := hr.hl
  have hm2 := hr.bl
  unfold maxLen at hm1 hm2
  clear hr
  obtain ⟨R, hR⟩ : ∃ R, R = ruOk p hs bs := ⟨_, rfl⟩
  have HRK := Lib.hid hR
  rw [← hR]
  clear hR
  obtain ⟨x0, x1, x2⟩ := three HBX.out
  go_enter Tryz.func26, Tryz.ntmps26
  go_wp2_with fail
  rw [← hW]
  clear hW
  refine (rName p _ HR.out.p_).mono ?_
  rintro e w1 ⟨rfl, rfl⟩
  rcases hnb : nameB (bl p) with _ | _
  · have HE := Lib.hid (show R = false by rw [HRK.out, ruOk, hnb]; rfl)
    clear hnb
    go_wp2_with fail
    go_ret
    exact ⟨by rw [HE.out]; rfl, HBW.out⟩
  · have HNB := Lib.hid hnb; clear hnb
    by_cases h24 : hs.length ≤ 24
    · by_cases h16 : bs.length ≤ 16
      · have HRK2 := Lib.hid (show R = (hs.all agOk && bs.all ltOk && decide ((varsL (ruTms hs bs)).length ≤ 24)) by rw [HRK.out, ruOk, HNB.out, decide_eq_true h24, decide_eq_true h16]; rfl)
        go_wp2_with fail
        go_loopw [3] (fun i wr => ∃ k : Nat, k ≤ hs.length ∧ i = .int .i64 k ∧ (hs.take k).all agOk = true ∧ Below W.heap.size W wr) (fun i _ => hs.length - (intOf i).toNat)
        case atStart => exact ⟨0, by omega, rfl, rfl, Below.refl _ _⟩
        case round =>
          clear x0 x1 x2
          rename World => wr1
          obtain ⟨k, hk, rfl, hal, hb⟩ := hrel
          have HAL := Lib.hid hal; clear hal
          have Hb := Lib.hid hb; clear hb
          have hsz := Hb.out.size
          obtain ⟨x0, x1, x2⟩ := three ((Hb.out.block w.heap.size hbk).trans HBX.out)
          by_cases hlt : k < hs.length
          · rcases HH.out with h0 | ⟨a2, o2, rfl, ha2, hck⟩
            · omega
            · obtain ⟨c0, hct⟩ := hck k hlt
              replace c0 := (Hb.out.cell (p := ⟨a2, o2 + k * 5, none⟩) ha2).trans c0
              obtain ⟨c1, c2, c3, c4⟩ := hct.up Hb.out ha2
              clear hck hct
              have HST := Lib.hid (takeAll agOk hs k hlt)
              have HNO := Lib.hid (fun h => allNo (f := agOk) hlt h)
              have HVS := Lib.hid ((HR.out.h_ hs[k] (List.getElem_mem hlt)).2.v0)
              obtain ⟨x, hx⟩ : ∃ x, x = hs[k] := ⟨_, rfl⟩
              rw [← hx] at c0 c1 c2 c3 c4 HST HNO HVS
              clear hx
              have hk0 : (0 : Int) ≤ (k : Int) := by omega
              have hki : (k : Int) < (hs.length : Int) := by omega
              go_wp2_with fail
              refine (rArg x _ HVS.out).mono ?_
              rintro e w2 ⟨rfl, hb⟩
              have Hb2 := Lib.hid (Hb.out.trans (hb.mono hsz)); clear hb
              rcases hag : agOk x with _ | _
              · have HE := Lib.hid (show R = false by rw [HRK2.out, HNO.out hag]; rfl)
                clear hag c0 c1 c2 c3 c4 x0 x1 x2
                go_wp2_with fail
                go_ret
                exact ⟨by rw [HE.out]; rfl, HBW.out.trans (Hb2.out.mono (by omega))⟩
              · have HAL2 := Lib.hid (show (hs.take (k + 1)).all agOk = true by rw [HST.out, HAL.out, hag]; rfl)
                clear hag c0 c1 c2 c3 c4 x0 x1 x2
                go_wp2_with fail
                go_roundw
                case rel => exact ⟨k + 1, by omega, by go_num, HAL2.out, Hb2.out⟩
                case measure => simp [intOf]; omega
          · obtain rfl : k = hs.length := by omega
            have HHA := Lib.hid (show hs.all agOk = true by have h9 := HAL.out; rwa [List.take_of_length_le (Nat.le_refl _)] at h9)
            go_wp2_with fail
            clear x0 x1 x2
            go_loopw [4] (fun i wr => ∃ k : Nat, k ≤ bs.length ∧ i = .int .i64 k ∧ (bs.take k).all ltOk = true ∧ Below W.heap.size W wr) (fun i _ => bs.length - (intOf i).toNat)
            case atStart => exact ⟨0, by omega, rfl, rfl, Hb.out⟩
            case round =>
              rename World => wr2
              obtain ⟨k, hk, rfl, hal, hb⟩ := hrel
              have HBL := Lib.hid hal; clear hal
              have Hc := Lib.hid hb; clear hb
              have hsz2 := Hc.out.size
              obtain ⟨x0, x1, x2⟩ := three ((Hc.out.block w.heap.size hbk).trans HBX.out)
              by_cases hlt : k < bs.length
              · rcases HB.out.1 with h0 | ⟨a2, o2, rfl, ha2, hcs⟩
                · omega
                have hck := (hcs k hlt).up Hc.out ha2
                clear hcs
                have HXj := Lib.hid ((HB.out.2 bs[k] (List.getElem_mem hlt)).up Hc.out)
                have HRj := Lib.hid (HR.out.b_ bs[k] (List.getElem_mem hlt))
                have HST := Lib.hid (takeAll ltOk bs k hlt)
                have HNO := Lib.hid (fun h => allNo (f := ltOk) hlt h)
                obtain ⟨x, hx⟩ : ∃ x, x = bs[k] := ⟨_, rfl⟩
                rw [← hx] at hck HXj HRj HST HNO
                clear hx
                obtain ⟨q, qc, hsv, _, _⟩ := HXj.out.at_
                obtain ⟨pl, cl, hsl⟩ := ex_sl2 HXj.out.l_
                obtain ⟨pg, cg, hsg⟩ := ex_sl2 HXj.out.g_
                have hcall := fun w' h => rLit d x w' h HRj.out
                obtain ⟨c0, c1, c2, c3, c4, c5, c6, c7, c8, c9, c10, c11, c12, c13, c14, c15⟩ := hck
                rw [hsv] at c2 hcall
                rw [hsl] at c9 hcall
                rw [hsg] at c15 hcall
                have HCALL := Lib.hid hcall
                clear hcall hsv hsl hsg
                have hk0 : (0 : Int) ≤ (k : Int) := by omega
                have hki : (k : Int) < (bs.length : Int) := by omega
                go_wp2_with fail
                refine (HCALL.out _ HXj.out).mono ?_
                rintro e w3 ⟨rfl, hb⟩
                have Hc2 := Lib.hid (Hc.out.trans (hb.mono hsz2)); clear hb
                clear c0 c1 c2 c3 c4 c5 c6 c7 c8 c9 c10 c11 c12 c13 c14 c15 x0 x1 x2
                rcases hlo : ltOk x with _ | _
                · have HE := Lib.hid (show R = false by rw [HRK2.out, HNO.out hlo]; simp)
                  clear hlo
                  go_wp2_with fail
                  go_ret
                  exact ⟨by rw [HE.out]; rfl, HBW.out.trans (Hc2.out.mono (by omega))⟩
                · have HBL2 := Lib.hid (show (bs.take (k + 1)).all ltOk = true by rw [HST.out, HBL.out, hlo]; rfl)
                  clear hlo
                  go_wp2_with fail
                  go_roundw
                  case rel => exact ⟨k + 1, by omega, by go_num, HBL2.out, Hc2.out⟩
                  case measure => simp [intOf]; omega
              · obtain rfl : k = bs.length := by omega
                have HBA := Lib.hid (show bs.all ltOk = true by have h9 := HBL.out; rwa [List.take_of_length_le (Nat.le_refl _)] at h9)
                have HTL := Lib.hid (ruTms_len h24 h16 (fun x hx => List.all_eq_true.1 HBA.out x hx))
                have HRV := Lib.hid (rRuleVars d p hp hc hs bp bc bs _ (HH.out.up Hc.out) (HB.out.up Hc.out) HR.out HTL.out)
                have HRK3 := Lib.hid (show R = decide ((varsL (ruTms hs bs)).length ≤ 24) by rw [HRK2.out, HHA.out, HBA.out]; rfl)
                have HRV := Lib.hid (HRV.out.mono (R' := RvPost (varsL (ruTms hs bs)).length _) fun e w' ⟨p1, c1, h1, h2, _⟩ => ⟨p1, c1, h1, h2⟩)
                generalize (varsL (ruTms hs bs)).length = n at HRV HRK3
                go_wp2_with fail
                refine HRV.out.mono ?_
                rintro e w4 ⟨pv, cv, rfl, hb⟩
                have Hd := Lib.hid (Hc.out.trans (hb.mono hsz2)); clear hb
                by_cases hn24 : n ≤ 24
                · have HE := Lib.hid (show R = true by rw [HRK3.out, decide_eq_true hn24])
                  have q : decide ((n : Int) ≤ 24) = true := decide_eq_true (by omega)
                  go_wp2_with fail
                  go_ret
                  exact ⟨by rw [HE.out]; rfl, HBW.out.trans (Hd.out.mono (by omega))⟩
                · have HE := Lib.hid (show R = false by rw [HRK3.out, decide_eq_false hn24])
                  have q : decide ((n : Int) ≤ 24) = false := decide_eq_false (by omega)
                  go_wp2_with fail
                  go_ret
                  exact ⟨by rw [HE.out]; rfl, HBW.out.trans (Hd.out.mono (by omega))⟩
      · have HE := Lib.hid (show R = false by rw [HRK.out, ruOk, decide_eq_false h16]; simp)
        go_wp2_with fail
        go_ret
        exact ⟨by rw [HE.out]; rfl, HBW.out⟩
    · have HE := Lib.hid (show R = false by rw [HRK.out, ruOk, decide_eq_false h24]; simp)
      go_wp2_with fail
      go_ret
      exact ⟨by rw [HE.out]; rfl, HBW.out⟩
end Go.Proofs.YtafjjececdhmjaaGreat
