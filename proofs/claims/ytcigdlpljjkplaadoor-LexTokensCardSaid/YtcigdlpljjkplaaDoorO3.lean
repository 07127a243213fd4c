/- Four rows of tokens, each in a block of its own; the first tokens of them marked. No program in sight. Conditions: none. -/
import Derived.Test.YtcigdlpljjkplaaDoorO2
namespace Go.Proofs.YtcigdlpljjkplaaDoor
open Go.RowKit

def m99 (k : Nat) : Tk := ⟨99, ⟨#[]⟩, k, 0⟩
/-- The rows ahead of i are marked, row i up to j. -/
def mkd (l : Nat → List Tk) (i j k : Nat) : List Tk := if k < i then List.replicate (l k).length (m99 k) else if k = i then List.replicate j (m99 k) ++ (l k).drop j else l k
structure Rows4 (w : World) (B LB : Nat) (v : Nat → Value) (l : Nat → List Tk) : Prop where
  lb : LB < w.heap.size
  lists : ∀ k, k < 4 → w.cell? ⟨LB, k, none⟩ = some (v k)
  own : ∀ k, k < 4 → w.ownsRow B 36 4 (v k) (l k).length ((l k).flatMap Tk.cells)
  apart : ∀ k m, k < 4 → m < 4 → k ≠ m → ∀ g, (v k).ownBlock = some g → (v m).ownBlock ≠ some g
  notLB : ∀ k, k < 4 → (v k).ownBlock ≠ some LB
theorem Rows4.same {w : World} {B LB : Nat} {v : Nat → Value} {l l' : Nat → List Tk} (h : Rows4 w B LB v l) (he : ∀ k, k < 4 → l k = l' k) : Rows4 w B LB v l' :=
  ⟨h.lb, h.lists, fun k hk => by rw [← he k hk]; exact h.own k hk, h.apart, h.notLB⟩
theorem mkd_start (l : Nat → List Tk) (k : Nat) : mkd l 0 0 k = l k := by
  unfold mkd
  by_cases h : k = 0 <;> simp [h]
theorem mkd_len (l : Nat → List Tk) (i j k : Nat) (hj : j ≤ (l i).length) : (mkd l i j k).length = (l k).length := by
  unfold mkd
  split
  · simp
  · split
    · rename_i h; subst h; simp; omega
    · rfl
theorem mkd_next (l : Nat → List Tk) (i k : Nat) : mkd l i (l i).length k = mkd l (i + 1) 0 k := by
  unfold mkd
  by_cases h1 : k < i
  · simp [h1, show k < i + 1 by omega]
  · by_cases h2 : k = i
    · subst h2; simp
    · simp only [h1, h2, if_false, show ¬ k < i + 1 by omega]
      by_cases h3 : k = i + 1 <;> simp [h3]
theorem mkd_step (l : Nat → List Tk) (i j : Nat) (hj : j < (l i).length) : (mkd l i j i).set j (m99 i) = mkd l i (j + 1) i := by
  unfold mkd
  simp only [Nat.lt_irrefl, if_false, if_true]
  rw [List.set_append_right _ _ (by simp), List.length_replicate, Nat.sub_self, List.drop_eq_getElem_cons hj, List.set_cons_zero, List.replicate_succ', List.append_assoc]
  rfl
theorem mkd_other (l : Nat → List Tk) (i j k : Nat) (hk : k ≠ i) : mkd l i (j + 1) k = mkd l i j k := by
  unfold mkd
  simp [hk]
theorem mkd_end (l : Nat → List Tk) (k : Nat) (hk : k < 4) : mkd l 4 0 k = List.replicate (l k).length (m99 k) := by
  unfold mkd
  simp [hk]
/-- One store. -/
theorem Rows4.put {w : World} {B LB : Nat} {v : Nat → Value} {l : Nat → List Tk} {i j g cap : Nat} (h : Rows4 w B LB v (mkd l i j)) (hi : i < 4) (hj : j < (l i).length) (hv : v i = .slice (some ⟨g, 0, none⟩) (l i).length cap) :
    Rows4 (putT w g (j * 4) (m99 i)) B LB v (mkd l i (j + 1)) := by
  have hgL : LB ≠ g := fun he => h.notLB i hi (by rw [hv, he]; rfl)
  refine ⟨by rw [putT_size]; exact h.lb, fun k hk => ?_, fun k hk => ?_, h.apart, h.notLB⟩
  · rw [← h.lists k hk]
    unfold World.cell?
    simp only [putT_block w hgL]
  · by_cases hki : k = i
    · subst hki
      have h1 := h.own k hk
      rw [hv, mkd_len l k j k (by omega)] at h1
      rw [← mkd_step l k j hj, hv, List.length_set, mkd_len l k j k (by omega)]
      exact own_putT (mkd_len l k j k (by omega)) h1 hj (m99 k)
    · rw [mkd_other l i j k hki]
      refine own_frame (h.own k hk) fun b hb => putT_block w (fun he => ?_) _ _
      subst he
      exact h.apart k i hk hi hki b hb (by rw [hv]; rfl)
end Go.Proofs.YtcigdlpljjkplaaDoor
