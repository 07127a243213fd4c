/- The reference's terms of expressions, literals and rules. The reference's terms of literals and rules. The reference's terms and variables of rules. The reference's In, vars, RuleVars, argument. The reference's RuleVars, argument, rule, CheckRule. The reference's texts of arguments and rules. The contracts of the reference's Rule and of BeyondRule. Conditions: the thing lies in memory as it is told; at most 10000 terms. the rule lies in memory as it is told; at most 10000 terms. the rule lies in memory as it is told. the rule lies in memory as it is told, and is one as it may be. -/
import Derived.Test.YtdgbenadoaecoaaDoorS1
import Derived.Test.YtdgbenadoaecoaaDoorB1
import Derived.WalkKit
import Derived.Test.YtdgbenadoaecoaaDoorS4
import Derived.Test.YtdgbenadoaecoaaDoorS6
import Derived.Test.YtdgbenadoaecoaaDoorS9
namespace Go.Proofs.YtdgbenadoaecoaaDoor
open Go.RowKit

def tmsC (l : List Tm) : List Value := l.flatMap Tm.cells
/-- Terms that have been gathered in a row of one's own. -/
structure TS (w0 : World) (acc : List Tm) (v : Value) (w : World) : Prop where
  below : Below w0.heap.size w0 w
  row : w.ownsRowF w0.heap.size 52 4 v acc.length (tmsC acc)
/-- What the gathering leaves of the rest. -/
structure TG (W : World) (v0 v : Value) (w : World) : Prop where
  grown : W.grownBy w v0.ownBlock
  at_ : ∀ g, v.ownBlock = some g → v0.ownBlock = some g ∨ W.heap.size ≤ g
theorem TG.refl (W : World) (v : Value) : TG W v v W := ⟨⟨rfl, rfl, rfl, Nat.le_refl _, fun _ _ _ => rfl⟩, fun _ h => .inl h⟩
theorem TG.step {W w w' : World} {v0 v v' : Value} (h : TG W v0 v w) (hg : w.grownBy w' v.ownBlock) (hp : ∀ g, v'.ownBlock = some g → v.ownBlock = some g ∨ w.heap.size ≤ g) : TG W v0 v' w' := by
  refine ⟨⟨hg.os.trans h.grown.os, hg.tape.trans h.grown.tape, hg.output.trans h.grown.output, Nat.le_trans h.grown.size hg.size, fun k hk hne => ?_⟩, fun g hgv => ?_⟩
  · refine (hg.block k (Nat.lt_of_lt_of_le hk h.grown.size) fun e => ?_).trans (h.grown.block k hk hne)
    rcases h.at_ k e.symm with h1 | h1
    · exact hne h1.symm
    · omega
  · rcases hp g hgv with h1 | h1
    · exact h.at_ g h1
    · exact .inr (Nat.le_trans h.grown.size h1)
theorem TG.alloc {W w : World} {v0 v : Value} (h : TG W v0 v w) (o : Obj) : TG W v0 v (w.alloc o) :=
  h.step (World.grownBy_alloc _ _ _) fun _ hg => .inl hg
theorem TG.trans {W V w : World} {v0 v1 v : Value} (h : TG W v0 v1 V) (k : TG V v1 v w) : TG W v0 v w := h.step k.grown k.at_
theorem TS.alloc {w0 w : World} {acc : List Tm} {v : Value} (h : TS w0 acc v w) (o : Obj) : TS w0 acc v (w.alloc o) := ⟨h.below.alloc h.below.size _, h.row.alloc o⟩
theorem TS.grow {w0 w w' : World} {acc : List Tm} {v v' : Value} {x : Tm} (h : TS w0 acc v w) (hown : w'.ownsRowF w0.heap.size 52 4 v' (acc.length + 1) (tmsC acc ++ x.cells)) (hg : w.grownBy w' v.ownBlock) : TS w0 (acc ++ [x]) v' w' := by
  refine ⟨h.below.grown hg h.below.size fun g hg' => (h.row.lt g hg').1, ?_⟩
  have e : tmsC (acc ++ [x]) = tmsC acc ++ x.cells := by simp [tmsC]
  rw [e]
  simpa using hown
/-- A block of another type is none of the row's. -/
theorem TG.keeps {W w : World} {v0 v : Value} {w0 : World} {n : Nat} {xs : List Value} {b : Nat} {cs : Array Value} {t : TypeId} {fz : Nat × Nat} (h : TG W v0 v w) (hr : W.ownsRowF w0.heap.size 52 4 v0 n xs) (hb : W.heap[b]? = some (.cells cs t fz)) (ht : t ≠ 52) : w.heap[b]? = some (.cells cs t fz) := by
  refine (h.grown.block b (Array.getElem?_eq_some_iff.1 hb).1 fun e => ?_).trans hb
  rcases hr.2 with ⟨hv, _⟩ | ⟨g, cap, cur, fz2, hv, _, hg2, _⟩
  · rw [hv] at e; cases e
  · rw [hv] at e
    obtain rfl : b = g := by simpa [Value.ownBlock] using e
    rw [hb] at hg2
    simp only [Option.some.injEq, Obj.cells.injEq] at hg2
    exact ht hg2.2.1
theorem own_sl4 {w : World} {B n : Nat} {e : TypeId} {v : Value} {xs : List Value} (h : w.ownsRowF B e 4 v n xs) : ∃ p cap, v = .slice p n cap := by
  rcases h.2 with ⟨hv, hn⟩ | ⟨g, cap, cur, fz, hv, _⟩
  · exact ⟨none, 0, by rw [hv, hn]⟩
  · exact ⟨_, cap, hv⟩
theorem new_tm (w : World) (l : List Value) (t : TypeId) : ∀ j u, l[j]? = some u → (w.alloc (.cells l.toArray t)).cell? ((⟨w.heap.size, 0, none⟩ : Addr).add j) = some u := by
  intro j u hj
  have h3 : (⟨w.heap.size, 0, none⟩ : Addr).add j = ⟨w.heap.size, j, none⟩ := by unfold Addr.add; split <;> simp_all
  rw [h3, Lib.cell_of_heap (heap_alloc_new w _)]
  simpa using hj
theorem tm_one (x : Tm) : ∀ u ∈ x.cells, u.oneCell' = true := by
  intro u hu
  simp [Tm.cells, Vl.cells] at hu
  rcases hu with rfl | rfl | rfl | rfl <;> rfl
def TPost (w0 : World) (acc : List Tm) (w : World) (v : Value) (e : Ending) (w' : World) : Prop := ∃ p c, e = .returned (.slice p acc.length c) ∧ TS w0 acc (.slice p acc.length c) w' ∧ TG w v (.slice p acc.length c) w'
theorem flat_snoc {α : Type} (f : α → List Tm) (l : List α) (k : Nat) (h : k < l.length) : (l.take (k + 1)).flatMap f = (l.take k).flatMap f ++ f l[k] := by
  rw [List.take_succ_eq_append_getElem h, List.flatMap_append]
  simp
theorem flat_le {α : Type} (f : α → List Tm) (l : List α) (k : Nat) (h : k < l.length) : ((l.take k).flatMap f).length + (f l[k]).length ≤ (l.flatMap f).length := by
  have h1 : ((l.take (k + 1)).flatMap f).length ≤ (l.flatMap f).length := by
    conv => rhs; rw [← List.take_append_drop (k + 1) l, List.flatMap_append, List.length_append]
    omega
  rw [flat_snoc f l k h, List.length_append] at h1
  exact h1
open Go.RowKit

open Go.RowKit

open Go.RowKit

def inB (l : List (List UInt8)) (s : ByteArray) : Bool := l.contains (bl s)
theorem tmsC_len (l : List Tm) : (tmsC l).length = l.length * 4 := by
  induction l with
  | nil => rfl
  | cons x r ih =>
    have e : tmsC (x :: r) = x.cells ++ tmsC r := rfl
    rw [e, List.length_append, ih]
    simp [Tm.cells, Vl.cells]
    omega
theorem tmsC_at : ∀ (l : List Tm) (i : Nat) (h : i < l.length) (q : Nat), q < 4 → (tmsC l)[i * 4 + q]? = l[i].cells[q]?
  | x :: r, 0, _, q, hq => by
    have e : tmsC (x :: r) = x.cells ++ tmsC r := rfl
    rw [e, List.getElem?_append_left (by simp [Tm.cells, Vl.cells]; omega)]
    simp
  | x :: r, i + 1, h, q, hq => by
    have e : tmsC (x :: r) = x.cells ++ tmsC r := rfl
    rw [e, List.getElem?_append_right (by simp [Tm.cells, Vl.cells]; omega)]
    have e2 : (i + 1) * 4 + q - x.cells.length = i * 4 + q := by simp [Tm.cells, Vl.cells]; omega
    rw [e2]
    exact tmsC_at r i (by simpa using h) q hq
theorem row_sl {w : World} {B : Nat} {v : Value} {l : List Tm} (h : w.ownsRowF B 52 4 v l.length (tmsC l)) (hn : l.length ≤ 10000) : TmSl w v l := by
  have hc := fun g hg => h.cells (g := g) hg
  rcases h.2 with ⟨hv, h0⟩ | ⟨g, cap, cur, fz, hv, _, hg, _⟩
  · exact ⟨none, 0, by rw [hv, h0], by unfold maxLen; omega, .inl h0⟩
  · refine ⟨some ⟨g, 0, none⟩, cap, hv, by unfold maxLen; omega, .inr ⟨g, 0, rfl, (Array.getElem?_eq_some_iff.1 hg).1, fun i hi => ?_⟩⟩
    have hq : ∀ q, q < 4 → ∀ u, l[i].cells[q]? = some u → w.cell? ⟨g, 0 + i * 4 + q, none⟩ = some u := fun q hq u hu => by
      have h1 := hc g (by rw [hv]; rfl) (i * 4 + q) u (by rw [tmsC_at l i hi q hq]; exact hu)
      have h3 : (⟨g, 0, none⟩ : Addr).add (i * 4 + q) = ⟨g, i * 4 + q, none⟩ := by unfold Addr.add; split <;> simp_all
      rw [h3] at h1
      rw [Nat.zero_add]
      exact h1
    exact ⟨hq 0 (by omega) _ rfl, hq 1 (by omega) _ rfl, hq 2 (by omega) _ rfl, hq 3 (by omega) _ rfl⟩
theorem new_s1 (w : World) (v : ByteArray) : ∀ j u, [Value.string v][j]? = some u → (w.alloc (.cells #[.string v] 9)).cell? ((⟨w.heap.size, 0, none⟩ : Addr).add j) = some u := new_tm w [.string v] _
open Go.RowKit

open Go.RowKit

theorem agOk_v {x : Ag} (hr : TmR x.t.v x.t.x.k x.t.x.n x.t.x.t) (h : agOk x = true) (h0 : x.g ≠ 0) (h1 : x.g ≠ 1) : x.t.v.size ≤ 802 := by
  unfold agOk at h
  rw [if_neg h0, if_neg h1] at h
  split at h
  · simp only [Bool.and_eq_true, solidB] at h
    have h5 := termL_le hr h.2.2
    have h6 : termL x.t = bl x.t.v := by
      unfold termL
      rw [if_neg]
      intro h9
      rw [h9] at h
      exact absurd h.1 (by decide)
    rw [h6, size_bl] at h5
    exact h5
  · cases h
open Go.RowKit

end Go.Proofs.YtdgbenadoaecoaaDoor
