/- What PrintLines gathers, in plain Lean and in memory: lines, facts as rules, a head that grows. Conditions: as told. -/
import Derived.Test.YtdgbenadoaecoaaDoorD2
import Derived.Test.YtdgbenadoaecoaaDoorS22
import Derived.Deep.RegionLaw
namespace Go.Proofs.YtdgbenadoaecoaaDoor
open Go.RowKit

theorem bl_inj {s t : ByteArray} (h : bl s = bl t) : s = t := by
  cases s; cases t
  simpa [bl] using h
/-- Rules' texts, a line each; what has none: an empty line. -/
def lnL {d : Nat} : List (Ru d) → List UInt8
  | [] => []
  | x :: r => txt x.ok x.l ++ ([10] ++ lnL r)
theorem lnL_snoc {d : Nat} (l : List (Ru d)) (f : Ru d) : lnL (l ++ [f]) = lnL l ++ (txt f.ok f.l ++ [10]) := by
  induction l with
  | nil => simp [lnL]
  | cons x r ih => simp [lnL, ih]
theorem lnL_take {d : Nat} (l : List (Ru d)) (j : Nat) (h : j < l.length) : lnL (l.take (j + 1)) = lnL (l.take j) ++ (txt l[j].ok l[j].l ++ [10]) := by
  rw [← List.take_append_getElem h, lnL_snoc]
theorem lnL_ok {d : Nat} (l : List (Ru d)) (h : l.all Ru.ok = true) : lnL l = prL l := by
  induction l with
  | nil => rfl
  | cons x r ih =>
    rw [List.all_cons, Bool.and_eq_true] at h
    rw [lnL, prL, ih h.2, h.1]
    rfl
theorem txt_le {d : Nat} {x : Ru d} (hr : RuB x) : (txt x.ok x.l).length ≤ 9000000 := by
  rcases ho : x.ok with _ | _
  · simp [txt]
  · exact Ru.l_le hr ho
theorem txt_plain {d : Nat} (x : Ru d) : (txt x.ok x.l).all plainB = true := by
  rcases ho : x.ok with _ | _
  · rfl
  · exact rule_plain ho
theorem lnL_le {d : Nat} (l : List (Ru d)) (hr : ∀ f ∈ l, RuB f) : ∀ j, j ≤ l.length → (lnL (l.take j)).length ≤ 9000001 * j
  | 0, _ => by simp [lnL]
  | j + 1, h => by
    have h1 := lnL_le l hr j (by omega)
    have h2 := txt_le (hr l[j] (List.getElem_mem (by omega)))
    rw [lnL_take l j (by omega), List.length_append, List.length_append]
    simp
    omega
theorem all_take {α : Type} (f : α → Bool) (l : List α) (j : Nat) (h : j < l.length) : (l.take (j + 1)).all f = ((l.take j).all f && f l[j]) := by
  rw [← List.take_append_getElem h, List.all_append]
  simp
/-- A fact as a rule: its values as a head's arguments. -/
def fcAgs (xs : List Vl) : List Ag := xs.map fun x => ⟨0, ⟨⟨#[]⟩, x⟩⟩
def fcRu (d : Nat) (f : Fc) : Ru d := ⟨f.p, none, 0, fcAgs f.xs, none, 0, []⟩
theorem fcRu_l (d : Nat) (f : Fc) : (fcRu d f).l = factL f ++ [46] := by
  have h : (fcAgs f.xs).map agL = showTs f.xs := by
    simp only [fcAgs, showTs, List.map_map]
    rfl
  show ruL f.p (fcAgs f.xs) [] = _
  rw [ruL, h, bodL, factL]
  rfl
theorem vars_none : ∀ (l : List Tm), (∀ t ∈ l, t.v = ⟨#[]⟩) → ∀ acc, l.foldl addV acc = acc
  | [], _, _ => rfl
  | t :: r, h, acc => by
    have e : addV acc t = acc := by
      unfold addV
      rw [if_neg]
      rw [newV, h t (by simp)]
      simp
    rw [List.foldl_cons, e]
    exact vars_none r (fun u hu => h u (by simp [hu])) acc
theorem fcRu_ok (d : Nat) {f : Fc} (h : fcOk f = true) : (fcRu d f).ok = true := by
  simp only [fcOk, Bool.and_eq_true, decide_eq_true_eq, List.all_eq_true] at h
  show ruOk f.p (fcAgs f.xs) ([] : List (Lt d)) = true
  have hv : varsL (ruTms (fcAgs f.xs) ([] : List (Lt d))) = [] := by
    refine vars_none _ (fun t ht => ?_) []
    simp only [ruTms, fcAgs, List.flatMap_nil, List.append_nil, List.map_map, List.mem_map, Function.comp_apply] at ht
    obtain ⟨x, _, rfl⟩ := ht
    rfl
  simp only [ruOk, Bool.and_eq_true, decide_eq_true_eq, List.all_eq_true, hv]
  refine ⟨⟨⟨⟨⟨h.1.1, by simpa [fcAgs] using h.1.2⟩, by simp⟩, fun a ha => ?_⟩, fun x hx => by simp at hx⟩, by simp⟩
  obtain ⟨x, hx, rfl⟩ := List.mem_map.1 ha
  have h1 := h.2 x hx
  simp only [agOk, if_true, solidB, tmOk, Bool.and_eq_true]
  exact ⟨by decide, by rw [if_pos (by decide)]; exact h1⟩
theorem fcRu_b (d : Nat) {f : Fc} (hr : FcR f) (hn : f.xs.length ≤ 1048576) : RuB (fcRu d f) := by
  have hl : (fcAgs f.xs).length = f.xs.length := by simp [fcAgs]
  refine ⟨⟨hr.p_, by show (fcAgs f.xs).length ≤ _; unfold maxLen; omega, by show 0 ≤ _; omega, fun a ha => ?_, fun x hx => by simp [fcRu] at hx⟩, by show (fcAgs f.xs).length ≤ _; omega, fun x hx => by simp [fcRu] at hx, by show 0 ≤ _; omega⟩
  obtain ⟨x, hx, rfl⟩ := List.mem_map.1 ha
  have h1 := hr.r_ x hx
  exact ⟨⟨by show (-128 : Int) ≤ 0; omega, by show (0 : Int) ≤ 127; omega⟩, ⟨h1, by show (0 : Nat) ≤ _; omega⟩⟩
/-! A head that grows. -/
def agsC (l : List Ag) : List Value := l.flatMap Ag.cells
theorem agsC_len (l : List Ag) : (agsC l).length = l.length * 5 := by
  induction l with
  | nil => rfl
  | cons x r ih =>
    have e : agsC (x :: r) = x.cells ++ agsC r := rfl
    rw [e, List.length_append, ih]
    simp [Ag.cells]
    omega
theorem agsC_at : ∀ (l : List Ag) (i : Nat) (h : i < l.length) (q : Nat), q < 5 → (agsC l)[i * 5 + q]? = l[i].cells[q]?
  | x :: r, 0, _, q, hq => by
    have e : agsC (x :: r) = x.cells ++ agsC r := rfl
    rw [e, List.getElem?_append_left (by simp [Ag.cells]; omega)]
    simp
  | x :: r, i + 1, h, q, hq => by
    have e : agsC (x :: r) = x.cells ++ agsC r := rfl
    rw [e, List.getElem?_append_right (by simp [Ag.cells]; omega)]
    have e2 : (i + 1) * 5 + q - x.cells.length = i * 5 + q := by simp [Ag.cells]; omega
    rw [e2]
    exact agsC_at r i (by simpa using h) q hq
theorem own_ags {w : World} {B : Nat} {v : Value} {l : List Ag} (h : w.ownsRowF B 55 5 v l.length (agsC l)) : ∃ p cap, v = .slice p l.length cap ∧ AgsAt w p l := by
  rcases h.2 with ⟨hv, hn⟩ | ⟨g, cap, cur, fz, hv, _, hg, _, _, _, hcs, htake⟩
  · exact ⟨none, 0, by rw [hv, hn], .inl hn⟩
  · refine ⟨_, cap, hv, .inr ⟨g, 0, rfl, (Array.getElem?_eq_some_iff.1 hg).1, fun i hi => ?_⟩⟩
    have hc : ∀ q, q < 5 → cur[i * 5 + q]? = l[i].cells[q]? := by
      intro q hq
      rw [← agsC_at l i hi q hq, ← htake, List.getElem?_take_of_lt (by omega), Array.getElem?_toList]
    have e (q : Nat) (hq : q < 5) : w.cell? ⟨g, 0 + i * 5 + q, none⟩ = l[i].cells[q]? := by
      rw [Lib.cell_of_heap hg, Nat.zero_add]; exact hc q hq
    exact ⟨e 0 (by omega), ⟨e 1 (by omega), e 2 (by omega), e 3 (by omega), e 4 (by omega)⟩⟩
theorem own_sl5 {w : World} {B n : Nat} {e : TypeId} {v : Value} {xs : List Value} (h : w.ownsRowF B e 5 v n xs) : ∃ p cap, v = .slice p n cap := by
  rcases h.2 with ⟨hv, hn⟩ | ⟨g, cap, cur, fz, hv, _⟩
  · exact ⟨none, 0, by rw [hv, hn]⟩
  · exact ⟨_, cap, hv⟩
/-- At the head of the rounds that fill a head. -/
def HdRel (p : ByteArray) (hs : List Ag) (wr : World) (i : Value) (wi : World) : Prop :=
  ∃ (k : Nat) (v : Value), i = .int .i64 k ∧ k ≤ hs.length ∧ wi.heap[wr.heap.size]? = some (.cells #[.string p, v, .slice none 0 0] 25 (0, 0)) ∧ wi.ownsRowF (wr.heap.size + 1) 55 5 v k (agsC (hs.take k)) ∧ Below wr.heap.size wr wi
theorem hd_mid {p : ByteArray} {wr wi w2 : World} {k : Nat} {v : Value} {xs : List Value} {o : Obj} (hbk : wi.heap[wr.heap.size]? = some (.cells #[.string p, v, .slice none 0 0] 25 (0, 0)))
    (hrow : wi.ownsRowF (wr.heap.size + 1) 55 5 v k xs) (hgr : ((wi.alloc o).drew).grownBy w2 v.ownBlock) : w2.heap[wr.heap.size]? = some (.cells #[.string p, v, .slice none 0 0] 25 (0, 0)) := by
  have hlt := (Array.getElem?_eq_some_iff.1 hbk).1
  have hne : some wr.heap.size ≠ v.ownBlock := fun e => by
    have := (hrow.lt _ e.symm).1
    omega
  exact (hgr.block _ (by show _ < (wi.alloc o).heap.size; simp; omega) hne).trans ((Lib.alloc_old wi _ _ hlt).trans hbk)
theorem hd_step {p : ByteArray} {hs : List Ag} {wr wi w2 : World} {k c2 : Nat} {p2 : Option Addr} {v : Value} {o : Obj} (hk : k < hs.length) (hbk : wi.heap[wr.heap.size]? = some (.cells #[.string p, v, .slice none 0 0] 25 (0, 0)))
    (hrow : wi.ownsRowF (wr.heap.size + 1) 55 5 v k (agsC (hs.take k))) (hbe : Below wr.heap.size wr wi) (hgr : ((wi.alloc o).drew).grownBy w2 v.ownBlock)
    (hown : w2.ownsRowF (wr.heap.size + 1) 55 5 (.slice p2 (k + 1) c2) (k + 1) (agsC (hs.take k) ++ hs[k].cells)) :
    HdRel p hs wr (.int .i64 ((k : Int) + 1)) (w2.setCell ⟨wr.heap.size, 1, none⟩ (.slice p2 (k + 1) c2)) := by
  have h2 := hd_mid hbk hrow hgr
  have hne : ∀ g, g ≠ wr.heap.size → (w2.setCell ⟨wr.heap.size, 1, none⟩ (.slice p2 (k + 1) c2)).heap[g]? = w2.heap[g]? := fun g hg => Below.heap_setCell w2 ⟨wr.heap.size, 1, none⟩ _ g hg
  refine ⟨k + 1, .slice p2 (k + 1) c2, rfl, by omega, ?_, ?_, ?_⟩
  · simp [World.setCell, Array.getElem?_modify, h2]
  · have e : agsC (hs.take (k + 1)) = agsC (hs.take k) ++ hs[k].cells := by
      have h1 : hs.take (k + 1) = hs.take k ++ [hs[k]] := (List.take_append_getElem hk).symm
      rw [h1, agsC, List.flatMap_append]
      simp [agsC]
    rw [e]
    refine ⟨hown.1, ?_⟩
    rcases hown.2 with h3 | ⟨g, cap, cur, fz, hv, hB, hg2, h3⟩
    · exact .inl h3
    · exact .inr ⟨g, cap, cur, fz, hv, hB, (hne g (by omega)).trans hg2, h3⟩
  · have hb1 : Below wr.heap.size wr ((wi.alloc o).drew) := (hbe.alloc hbe.size _).drew
    have hb2 : Below wr.heap.size wr w2 := hb1.grown hgr (by
      have := hbe.size
      show _ ≤ (wi.alloc o).heap.size
      simp; omega) (fun g hg' => by have := (hrow.lt g hg').1; omega)
    exact hb2.setCell (p := ⟨wr.heap.size, 1, none⟩) (Nat.le_refl _) _
theorem ag_one (a : Ag) : ∀ u ∈ a.cells, u.oneCell' = true := by
  intro u hu
  simp [Ag.cells] at hu
  rcases hu with rfl | rfl | rfl | rfl | rfl <;> rfl
theorem new_ag (w : World) (l : List Value) (t : TypeId) : ∀ j u, l[j]? = some u → ((w.alloc (.cells l.toArray t)).drew).cell? ((⟨w.heap.size, 0, none⟩ : Addr).add j) = some u := by
  intro j u hj
  have h3 : (⟨w.heap.size, 0, none⟩ : Addr).add j = ⟨w.heap.size, j, none⟩ := by unfold Addr.add; split <;> simp_all
  rw [h3, World.cell?_drew, Lib.cell_of_heap (heap_alloc_new w _)]
  simpa using hj
end Go.Proofs.YtdgbenadoaecoaaDoor
