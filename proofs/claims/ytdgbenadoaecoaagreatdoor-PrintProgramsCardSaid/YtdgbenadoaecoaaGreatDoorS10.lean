/- The reference's terms of expressions, literals and rules. Conditions: the thing lies in memory as it is told; at most 10000 terms. -/
import Derived.Test.YtdgbenadoaecoaaGreatDoorS1
import Derived.Test.YtdgbenadoaecoaaGreatDoorB1
import Derived.WalkKit
namespace Go.Proofs.YtdgbenadoaecoaaGreatDoor
open Go.RowKit

def tmsC (l : List Tm) : List Value := l.flatMap Tm.cells
/-- Terms that have been gathered in a row of one's own. -/
structure TS (w0 : World) (acc : List Tm) (v : Value) (w : World) : Prop where
  below : Below w0.heap.size w0 w
  row : w.ownsRowF w0.heap.size 56 4 v acc.length (tmsC acc)
/-- What the gathering leaves of the rest. -/
structure TG (W : World) (v0 v : Value) (w : World) : Prop where
  grown : W.grownBy w v0.ownBlock
  at_ : ∀ g, v.ownBlock = some g → v0.ownBlock = some g ∨ W.heap.size ≤ g
theorem TG.refl (W : World) (v : Value) : TG W v v W := ⟨⟨rfl, rfl, rfl, Nat.le_refl _, fun _ _ _ => rfl⟩, fun _ h => .inl h⟩
theorem TG.step {W w w' : World} {v0 v v' : Value} (h : TG W v0 v w) (hg : w.grownBy w' v.ownBlock) (hp : ∀ g, v'.ownBlock = some g → v.ownBlock = some g ∨ w.heap.size ≤ g) : TG W v0 v' w' := by
  refine ⟨⟨hg.os.trans h.grown.os, hg.tape.trans h.grown.tape, hg.output.trans h.grown.output, Nat.le_trans h.grown.size hg.size, fun k hk hne => ?_⟩, fun g hgv => ?_⟩
  · refine (hg.block k (Nat.lt_of_lt_of_le hk h.grown.size) fun e => ?_).trans (h.grown.block k hk hne)
    rcases h.at_ k e.symm with h1 | h1
    · exact hne h1.symm
    · omega
  · rcases hp g hgv with h1 | h1
    · exact h.at_ g h1
    · exact .inr (Nat.le_trans h.grown.size h1)
theorem TG.alloc {W w : World} {v0 v : Value} (h : TG W v0 v w) (o : Obj) : TG W v0 v (w.alloc o) :=
  h.step (World.grownBy_alloc _ _ _) fun _ hg => .inl hg
theorem TG.trans {W V w : World} {v0 v1 v : Value} (h : TG W v0 v1 V) (k : TG V v1 v w) : TG W v0 v w := h.step k.grown k.at_
theorem TS.alloc {w0 w : World} {acc : List Tm} {v : Value} (h : TS w0 acc v w) (o : Obj) : TS w0 acc v (w.alloc o) := ⟨h.below.alloc h.below.size _, h.row.alloc o⟩
theorem TS.grow {w0 w w' : World} {acc : List Tm} {v v' : Value} {x : Tm} (h : TS w0 acc v w) (hown : w'.ownsRowF w0.heap.size 56 4 v' (acc.length + 1) (tmsC acc ++ x.cells)) (hg : w.grownBy w' v.ownBlock) : TS w0 (acc ++ [x]) v' w' := by
  refine ⟨h.below.grown hg h.below.size fun g hg' => (h.row.lt g hg').1, ?_⟩
  have e : tmsC (acc ++ [x]) = tmsC acc ++ x.cells := by simp [tmsC]
  rw [e]
  simpa using hown
/-- A block of another type is none of the row's. -/
theorem TG.keeps {W w : World} {v0 v : Value} {w0 : World} {n : Nat} {xs : List Value} {b : Nat} {cs : Array Value} {t : TypeId} {fz : Nat × Nat} (h : TG W v0 v w) (hr : W.ownsRowF w0.heap.size 56 4 v0 n xs) (hb : W.heap[b]? = some (.cells cs t fz)) (ht : t ≠ 56) : w.heap[b]? = some (.cells cs t fz) := by
  refine (h.grown.block b (Array.getElem?_eq_some_iff.1 hb).1 fun e => ?_).trans hb
  rcases hr.2 with ⟨hv, _⟩ | ⟨g, cap, cur, fz2, hv, _, hg2, _⟩
  · rw [hv] at e; cases e
  · rw [hv] at e
    obtain rfl : b = g := by simpa [Value.ownBlock] using e
    rw [hb] at hg2
    simp only [Option.some.injEq, Obj.cells.injEq] at hg2
    exact ht hg2.2.1
theorem own_sl4 {w : World} {B n : Nat} {e : TypeId} {v : Value} {xs : List Value} (h : w.ownsRowF B e 4 v n xs) : ∃ p cap, v = .slice p n cap := by
  rcases h.2 with ⟨hv, hn⟩ | ⟨g, cap, cur, fz, hv, _⟩
  · exact ⟨none, 0, by rw [hv, hn]⟩
  · exact ⟨_, cap, hv⟩
theorem new_tm (w : World) (l : List Value) (t : TypeId) : ∀ j u, l[j]? = some u → (w.alloc (.cells l.toArray t)).cell? ((⟨w.heap.size, 0, none⟩ : Addr).add j) = some u := by
  intro j u hj
  have h3 : (⟨w.heap.size, 0, none⟩ : Addr).add j = ⟨w.heap.size, j, none⟩ := by unfold Addr.add; split <;> simp_all
  rw [h3, Lib.cell_of_heap (heap_alloc_new w _)]
  simpa using hj
theorem tm_one (x : Tm) : ∀ u ∈ x.cells, u.oneCell' = true := by
  intro u hu
  simp [Tm.cells, Vl.cells] at hu
  rcases hu with rfl | rfl | rfl | rfl <;> rfl
def TPost (w0 : World) (acc : List Tm) (w : World) (v : Value) (e : Ending) (w' : World) : Prop := ∃ p c, e = .returned (.slice p acc.length c) ∧ TS w0 acc (.slice p acc.length c) w' ∧ TG w v (.slice p acc.length c) w'
theorem flat_snoc {α : Type} (f : α → List Tm) (l : List α) (k : Nat) (h : k < l.length) : (l.take (k + 1)).flatMap f = (l.take k).flatMap f ++ f l[k] := by
  rw [List.take_succ_eq_append_getElem h, List.flatMap_append]
  simp
theorem flat_le {α : Type} (f : α → List Tm) (l : List α) (k : Nat) (h : k < l.length) : ((l.take k).flatMap f).length + (f l[k]).length ≤ (l.flatMap f).length := by
  have h1 : ((l.take (k + 1)).flatMap f).length ≤ (l.flatMap f).length := by
    conv => rhs; rw [← List.take_append_drop (k + 1) l, List.flatMap_append, List.length_append]
    omega
  rw [flat_snoc f l k h, List.length_append] at h1
  exact h1
/-- What is known of the terms of an expression, gathered. -/
def TmE (w0 : World) (d : Nat) : Prop := ∀ (e : Ex d) (acc : List Tm) (v : Value) (w : World), TS w0 acc v w → ExAt w0 d e → acc.length + (exTms d e).length ≤ 10000 →
  Calls Tryz.prog 137 #[v, .agg #[.int .i8 (exOp d e), .string (exTm d e).v, .int .i8 (exTm d e).x.k, .int .i64 (exTm d e).x.n, .string (exTm d e).x.t, exSl d e]] w (TPost w0 (acc ++ exTms d e) w v)
set_option maxHeartbeats 8000000 in
set_option maxRecDepth 100000 in
theorem rExprTerms (w0 : World) : ∀ d, TmE w0 d
  | 0 => fun e => nomatch e
  | d + 1 => by
    have ih := rExprTerms w0 d
    rintro ⟨op, t, s, ks⟩ acc v w h hat hn
    obtain ⟨p, cap, hs, hm, hks, hka⟩ := hat
    simp only at hs hm hks hka
    subst hs
    unfold maxLen at hm
    obtain ⟨i0, hi, hzz⟩ := Option.map_eq_some_iff.1 infoTm
    simp only [Prod.mk.injEq] at hzz
    obtain ⟨hz0, hz1, hz2⟩ := hzz
    have HI := Lib.hid hi; clear hi
    have HZ0 := Lib.hid hz0; clear hz0
    have HZ1 := Lib.hid hz1; clear hz1
    have HZ2 := Lib.hid hz2; clear hz2
    simp only [exTms, List.length_cons] at hn
    have hn0 : acc.length ≤ 9999 := by omega
    have HN := Lib.hid hn; clear hn
    have HIH := Lib.hid ih; clear ih
    have HKS := Lib.hid hks; clear hks
    have HKA := Lib.hid hka; clear hka
    obtain ⟨pv, cv, rfl⟩ := own_sl4 h.row
    have HTS := Lib.hid h
    have hsz := h.below.size
    clear h
    obtain ⟨V, hV⟩ : ∃ V, V = w.alloc (.cells #[.int .i8 op, .string t.v, .int .i8 t.x.k, .int .i64 t.x.n, .string t.x.t, .slice p ks.length cap] 60) := ⟨_, rfl⟩
    have HBV := Lib.hid (show V.heap[w.heap.size]? = some (.cells #[.int .i8 op, .string t.v, .int .i8 t.x.k, .int .i64 t.x.n, .string t.x.t, .slice p ks.length cap] 60 (0, 0)) by rw [hV]; exact heap_alloc_new w _)
    have HTV := Lib.hid (show TS w0 acc (.slice pv acc.length cv) V by rw [hV]; exact HTS.out.alloc _)
    have HGV := Lib.hid (show TG w (.slice pv acc.length cv) (.slice pv acc.length cv) V by rw [hV]; exact (TG.refl _ _).alloc _)
    have hszV : w0.heap.size ≤ V.heap.size := HTV.out.below.size
    obtain ⟨y0, y1, y2, y3, y4, y5⟩ := six HBV.out
    simp only [exOp, exTm, exSl, exTms]
    go_enter Tryz.func137, Tryz.ntmps137
    go_wp2_with (at_builtin; refine wpApp_row rfl _ _ 63 rfl w0.heap.size 56 i0 _ 4 48 Tryz.underlying63 HI.out HZ0.out HZ1.out HZ2.out rfl (by decide) _ _ _ rfl ((HTS.out.alloc _).alloc _).row ⟨w.heap.size + 1, 0, none⟩ 1 1 t.cells rfl rfl (by simpa [Tm.cells, Vl.cells] using new_tm (w.alloc _) t.cells 56) ?c1 ?c2 ?c3 ?c4 ?_)
    case c1 => exact tm_one _
    case c2 => unfold maxLen; omega
    case c3 => omega
    case c4 => simp; omega
    intro v1 w2 hown hgrow _ hpl
    have HT1 := Lib.hid (((HTS.out.alloc _).alloc _).grow hown hgrow)
    have HG1 := Lib.hid (show TG V (.slice pv acc.length cv) v1 w2 by rw [hV]; exact ((TG.refl _ _).alloc _).step hgrow (by simpa using hpl))
    clear hown hgrow hpl y0 y1 y2 y3 y4 y5 hV
    obtain ⟨A1, hA1⟩ : ∃ A1, A1 = acc ++ [t] := ⟨_, rfl⟩
    rw [← hA1] at HT1
    have HA1 := Lib.hid hA1; clear hA1
    obtain ⟨p1, c1, rfl⟩ := own_sl4 HT1.out.row
    go_wp2_with fail
    go_loopw [0, 5] (fun v i wr => ∃ (k : Nat) (A : List Tm), k ≤ ks.length ∧ i = .int .i64 k ∧ A = acc ++ [t] ++ (ks.take k).flatMap (exTms d) ∧ TS w0 A v wr ∧ TG V (.slice pv acc.length cv) v wr) (fun _ i _ => ks.length - (intOf i).toNat)
    case atStart => exact ⟨0, A1, by omega, rfl, by rw [HA1.out]; simp, HT1.out, HG1.out⟩
    case round =>
      obtain ⟨k, A, hk, rfl, hA, hts, htg⟩ := hrel
      rename World => wr
      have HAA := Lib.hid hA; clear hA
      have y5 : wr.cell? ⟨w.heap.size, 5, none⟩ = some (.slice p ks.length cap) := by rw [Lib.cell_of_heap (htg.keeps HTV.out.row HBV.out (by decide))]; rfl
      obtain ⟨pr, cr, rfl⟩ := own_sl4 hts.row
      have HT2 := Lib.hid hts; clear hts
      have HG2 := Lib.hid htg; clear htg
      by_cases hlt : k < ks.length
      · rcases HKS.out with h0 | ⟨a2, o2, rfl, ha2, hck⟩
        · omega
        · obtain ⟨c0, c1', c2, c3, c4, c5⟩ := (hck k hlt).up HT2.out.below ha2
          clear hck
          have hle := flat_le (exTms d) ks k hlt
          have hfs := flat_snoc (exTms d) ks k hlt
          have hkx := HKA.out _ (List.getElem_mem hlt)
          obtain ⟨x, hx⟩ : ∃ x, x = ks[k] := ⟨_, rfl⟩
          rw [← hx] at c0 c1' c2 c3 c4 c5 hle hfs hkx
          clear hx
          have HCA := Lib.hid (HIH.out x A _ wr HT2.out hkx (by rw [HAA.out]; have h1 := HN.out; simp only [List.length_append, List.length_cons, List.length_nil]; omega))
          obtain ⟨A2, hA2⟩ : ∃ A2, A2 = A ++ exTms d x := ⟨_, rfl⟩
          rw [← hA2] at HCA
          have HA2 := Lib.hid (show A2 = acc ++ [t] ++ (ks.take (k + 1)).flatMap (exTms d) by rw [hA2, HAA.out, hfs, ← List.append_assoc])
          clear hA2 hle hfs hkx
          have hk0 : (0 : Int) ≤ (k : Int) := by omega
          have hki : (k : Int) < (ks.length : Int) := by omega
          go_wp2_with fail
          refine HCA.out.mono ?_
          rintro e w3 ⟨p3, c3', rfl, hts, htg⟩
          have HT3 := Lib.hid hts; clear hts
          have HG3 := Lib.hid (HG2.out.trans htg); clear htg
          clear y5 c0 c1' c2 c3 c4 c5
          go_wp2_with fail
          go_roundw
          case rel => exact ⟨k + 1, A2, by omega, by go_num, HA2.out, HT3.out, HG3.out⟩
          case measure => simp [intOf]; omega
      · obtain rfl : k = ks.length := by omega
        have HTA := Lib.hid (show A = acc ++ t :: ks.flatMap (exTms d) by rw [HAA.out, List.take_of_length_le (Nat.le_refl _)]; simp)
        go_wp2_with fail
        go_ret
        exact ⟨pr, cr, by rw [← HTA.out]; rfl, by rw [← HTA.out]; exact HT2.out, by rw [← HTA.out]; exact HGV.out.trans HG2.out⟩
end Go.Proofs.YtdgbenadoaecoaaGreatDoor
