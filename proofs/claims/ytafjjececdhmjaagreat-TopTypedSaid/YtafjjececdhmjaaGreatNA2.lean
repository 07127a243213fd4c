/- The contracts of the reference's atom, Atom and Query, and of print.Query. Conditions: the terms lie in memory as they are told. -/
import Derived.Test.YtafjjececdhmjaaGreatNA1
namespace Go.Proofs.YtafjjececdhmjaaGreat
open Go.RowKit

def strVs (l : List (List UInt8)) : List Value := l.map fun x => .string ⟨x.toArray⟩
theorem infoStr : (Tryz.prog.info? 9).map (fun i => (i.zero, i.size, i.bytes)) = some (some (.string ⟨#[]⟩), 1, 16) := by kernel_rfl
theorem strVs_one (l : List (List UInt8)) : ∀ u ∈ strVs l, u.oneCell' = true := by
  intro u hu
  obtain ⟨x, _, rfl⟩ := List.mem_map.1 hu
  rfl
theorem own_strs {w : World} {B n : Nat} {v : Value} {l : List (List UInt8)} (h : w.ownsRowF B 9 1 v n (strVs l)) (hn : n = l.length) : ∃ p cap, v = .slice p l.length cap ∧ StrsAt w p l := by
  subst hn
  rcases h.2 with ⟨hv, hn⟩ | ⟨g, cap, cur, fz, hv, _, hg, _, _, _, hcs, htake⟩
  · exact ⟨none, 0, by rw [hv, hn], .inl hn⟩
  · refine ⟨_, cap, hv, .inr ⟨g, 0, rfl, fun i hi => ?_⟩⟩
    rw [Nat.zero_add, Lib.cell_of_heap hg]
    have h1 : (strVs l)[i]? = some (.string ⟨l[i].toArray⟩) := by simp [strVs, hi]
    rw [← h1, ← htake, List.getElem?_take_of_lt (by omega), Array.getElem?_toList]
theorem own_below {w w' : World} {B n m : Nat} {e : TypeId} {v : Value} {xs : List Value} (h : w.ownsRowF B e m v n xs) (hb : Below w.heap.size w w') : w'.ownsRowF B e m v n xs := by
  refine ⟨h.1, ?_⟩
  rcases h.2 with h2 | ⟨g, cap, cur, fz, hv, hB, hg, h3⟩
  · exact .inl h2
  · exact .inr ⟨g, cap, cur, fz, hv, hB, (hb.block g (Array.getElem?_eq_some_iff.1 hg).1).trans hg, h3⟩
theorem own_slice1 {w : World} {B n : Nat} {e : TypeId} {v : Value} {xs : List Value} (h : w.ownsRowF B e 1 v n xs) : ∃ p cap, v = .slice p n cap := by
  rcases h.2 with ⟨hv, hn⟩ | ⟨g, cap, cur, fz, hv, _⟩
  · exact ⟨none, 0, by rw [hv, hn]⟩
  · exact ⟨_, cap, hv⟩
theorem strVs_snoc (l : List (List UInt8)) (j : Nat) (h : j < l.length) : strVs (l.take (j + 1)) = strVs (l.take j) ++ [.string ⟨l[j].toArray⟩] := by
  rw [← List.take_append_getElem h]
  unfold strVs
  rw [List.map_append]
  rfl
/-- At the head of the rounds that gather the columns' texts. -/
def AtRel (ts : List Tm) (W : World) (v i : Value) (wr : World) : Prop :=
  ∃ j : Nat, i = .int .i64 j ∧ j ≤ ts.length ∧ wr.ownsRowF W.heap.size 9 1 v j (strVs ((termTs ts).take j)) ∧ Below W.heap.size W wr
end Go.Proofs.YtafjjececdhmjaaGreat
