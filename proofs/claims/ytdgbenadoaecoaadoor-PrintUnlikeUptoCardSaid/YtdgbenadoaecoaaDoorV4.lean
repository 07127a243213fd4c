/- The contracts of the reference's IsFact, Fact and Facts. Conditions: the facts lie in memory as they are told; no list is too long. -/
import Derived.Test.YtdgbenadoaecoaaDoorV2
import Derived.Test.YtdgbenadoaecoaaDoorA2
namespace Go.Proofs.YtdgbenadoaecoaaDoor
open Go.RowKit

def fcOk (f : Fc) : Bool := nameB (bl f.p) && decide (f.xs.length ≤ 24) && f.xs.all vlOk
def showTs (xs : List Vl) : List (List UInt8) := xs.map showL
def factL (f : Fc) : List UInt8 := colsL (bl f.p) (showTs f.xs)
def factsL : List Fc → List UInt8
  | [] => []
  | f :: r => factL f ++ ([46, 10] ++ factsL r)
theorem factsL_snoc (l : List Fc) (f : Fc) : factsL (l ++ [f]) = factsL l ++ (factL f ++ [46, 10]) := by
  induction l with
  | nil => simp [factsL]
  | cons x r ih => simp [factsL, ih]
theorem factsL_take (l : List Fc) (j : Nat) (h : j < l.length) : factsL (l.take (j + 1)) = factsL (l.take j) ++ (factL l[j] ++ [46, 10]) := by
  rw [← List.take_append_getElem h, factsL_snoc]
theorem factL_le {f : Fc} (hr : FcR f) (ho : fcOk f = true) : (factL f).length ≤ 20000 := by
  simp only [fcOk, Bool.and_eq_true, decide_eq_true_eq] at ho
  refine colsL_bound (nameB_le ho.1.1) ?_ (by simpa [showTs] using ho.1.2)
  intro x hx
  obtain ⟨t, ht, rfl⟩ := List.mem_map.1 hx
  exact showL_le (hr.r_ t ht)
theorem factsL_le (l : List Fc) (hr : ∀ f ∈ l, FcR f) : ∀ j, j ≤ l.length → (∀ m, (h : m < l.length) → m < j → fcOk l[m] = true) → (factsL (l.take j)).length ≤ 20002 * j
  | 0, _, _ => by simp [factsL]
  | j + 1, h, ho => by
    have h1 := factsL_le l hr j (by omega) (fun m hm hmj => ho m hm (by omega))
    have h2 := factL_le (hr l[j] (List.getElem_mem (by omega))) (ho j (by omega) (by omega))
    rw [factsL_take l j (by omega), List.length_append, List.length_append]
    simp
    omega
theorem all_vl {xs : List Vl} (h : ∀ m, (hm : m < xs.length) → vlOk xs[m] = true) : xs.all vlOk = true := by
  rw [List.all_eq_true]
  intro t ht
  obtain ⟨m, hm, rfl⟩ := List.mem_iff_getElem.1 ht
  exact h m hm
theorem not_vl {xs : List Vl} {m : Nat} (hm : m < xs.length) (h : vlOk xs[m] = false) : xs.all vlOk = false := by
  rw [List.all_eq_false]
  exact ⟨xs[m], List.getElem_mem hm, by simp [h]⟩
theorem all_fc {xs : List Fc} (h : ∀ m, (hm : m < xs.length) → fcOk xs[m] = true) : xs.all fcOk = true := by
  rw [List.all_eq_true]
  intro t ht
  obtain ⟨m, hm, rfl⟩ := List.mem_iff_getElem.1 ht
  exact h m hm
theorem not_fc {xs : List Fc} {m : Nat} (hm : m < xs.length) (h : fcOk xs[m] = false) : xs.all fcOk = false := by
  rw [List.all_eq_false]
  exact ⟨xs[m], List.getElem_mem hm, by simp [h]⟩
/-- At the head of the rounds that gather the values' texts. -/
def FtRel (ts : List Vl) (W : World) (v i : Value) (wr : World) : Prop :=
  ∃ j : Nat, i = .int .i64 j ∧ j ≤ ts.length ∧ wr.ownsRowF W.heap.size 9 1 v j (strVs ((showTs ts).take j)) ∧ Below W.heap.size W wr
/-- What a call leaves that writes facts. -/
def FsPost (fs : List Fc) (w : World) (e : Ending) (w' : World) : Prop := e = .returned (.tuple #[.string ⟨(txt (fs.all fcOk) (factsL fs)).toArray⟩, .int .i64 (okCode (fs.all fcOk) 10)]) ∧ Below w.heap.size w w'
theorem ret_no10 {b : Bool} {l : List UInt8} (hb : b = false) : Ending.returned (.tuple #[.string ⟨#[]⟩, .int .i64 10]) = .returned (.tuple #[.string ⟨(txt b l).toArray⟩, .int .i64 (okCode b 10)]) := by rw [hb]; rfl
theorem ret_yes10 {b : Bool} {l : List UInt8} {s : ByteArray} (hb : b = true) (hs : bl s = l) : Ending.returned (.tuple #[.string s, .int .i64 0]) = .returned (.tuple #[.string ⟨(txt b l).toArray⟩, .int .i64 (okCode b 10)]) := by
  subst hb hs
  simp [txt, okCode]
def RfRel (fs : List Fc) (w : World) (v i : Value) (wr : World) : Prop :=
  ∃ (j : Nat) (s : ByteArray), i = .int .i64 j ∧ v = .string s ∧ j ≤ fs.length ∧ bl s = factsL (fs.take j) ∧ (∀ m, (h : m < fs.length) → m < j → fcOk fs[m] = true) ∧ Below w.heap.size w wr
end Go.Proofs.YtdgbenadoaecoaaDoor
