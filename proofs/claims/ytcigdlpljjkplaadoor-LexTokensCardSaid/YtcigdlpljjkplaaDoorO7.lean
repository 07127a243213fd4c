/- What both Tokens answer, said in one shape; four rows gathered. No program in sight. Conditions: none. -/
import Derived.Test.YtcigdlpljjkplaaDoorO4
import Derived.Test.YtcigdlpljjkplaaDoorK10
import Derived.Test.YtcigdlpljjkplaaDoorN6
namespace Go.Proofs.YtcigdlpljjkplaaDoor
open Go.RowKit

/-- What Tokens answers, in one shape: the tokens, none beside a fault, and the fault. -/
def TsU (l : List Tk) (fc fp : Int) (w : World) (e : Ending) (w' : World) : Prop :=
  ∃ v, e = .returned (.tuple #[v, .agg #[.int .i64 fc, .int .i64 fp]]) ∧ w'.ownsRow w.heap.size 36 4 v l.length (l.flatMap Tk.cells) ∧ Below w.heap.size w w'
theorem toks_le (l : List UInt8) (k : Nat) : ∀ ts, toksT l k = .ok ts → ts.length ≤ l.length + 1 := by
  induction l, k using toksT.induct with
  | case1 k =>
    intro ts h
    rw [toks_nil] at h
    simp only [Except.ok.injEq] at h
    rw [← h]; simp
  | case2 k c r hb ih =>
    intro ts h
    rw [toks_blank hb] at h
    have := ih ts h
    simp; omega
  | case3 k c r hb h35 ih =>
    intro ts h
    have hb' : blankB c = false := by simpa using hb
    rw [toks_hash hb' h35] at h
    have h1 := ih ts h
    have h2 := (List.dropWhile_sublist (fun b : UInt8 => b != 10) (l := r)).length_le
    simp; omega
  | case4 k c r hb h35 he ih =>
    intro ts h
    have hb' : blankB c = false := by simpa using hb
    obtain ⟨t, n, hq⟩ : ∃ t n, headT (c :: r) = ((0, t), n) := ⟨_, _, by rw [← he]⟩
    obtain ⟨hn1, hn2⟩ := head_len hq
    rw [toks_ok hb' h35 hq hn1] at h
    rw [hq] at ih
    have e1 : r.drop (n - 1) = (c :: r).drop n := by
      obtain ⟨j, rfl⟩ : ∃ j, n = j + 1 := ⟨n - 1, by omega⟩
      simp
    simp only [e1, show k + 1 + (n - 1) = k + n by omega] at ih
    cases hx : toksT ((c :: r).drop n) (k + n) with
    | error e => rw [hx] at h; cases h
    | ok us =>
      rw [hx] at h
      have h1 := ih us hx
      simp only [Except.map, Except.ok.injEq] at h
      rw [← h]
      rw [List.length_drop] at h1
      simp at h1 hn2 ⊢; omega
  | case5 k c r hb h35 he =>
    intro ts h
    rw [toks_err (by simpa using hb) h35 he] at h
    cases h
theorem ts_u (l : List UInt8) : ∃ ts fc fp, ts.length ≤ 65538 ∧ ∀ w e w', TsPost (tokR l) w e w' → TsU ts fc fp w e w' := by
  cases hx : tokR l with
  | error ep =>
    obtain ⟨er, p⟩ := ep
    refine ⟨[], er, p, by simp, fun w e w' h => ?_⟩
    obtain ⟨he, hb⟩ := h
    exact ⟨_, he, World.ownsRow_nil _ _ _ _, hb⟩
  | ok ts =>
    refine ⟨ts, 0, 0, ?_, fun w e w' h => h⟩
    unfold tokR at hx
    split at hx
    · cases hx
    · have := toks_le l 0 ts hx
      omega
/-- A row laid later shares nothing with one that lay there. -/
theorem own_apart {w w' : World} {B n n' : Nat} {e e' : TypeId} {m m' : Nat} {v v' : Value} {xs xs' : List Value} (h : w.ownsRow B e m v n xs) (h' : w'.ownsRow w.heap.size e' m' v' n' xs') : ∀ g, v.ownBlock = some g → v'.ownBlock ≠ some g := by
  intro g hg hg'
  have h1 := (h.lt g hg).2
  have h2 := ownT_lt h' hg'
  omega
def sel4 {α : Type} (a b c d : α) (k : Nat) : α := if k = 0 then a else if k = 1 then b else if k = 2 then c else d
/-- Four rows of tokens of one's own, gathered in a new list. -/
theorem rows4_of {w : World} {B : Nat} {v0 v1 v2 v3 : Value} {l0 l1 l2 l3 : List Tk} (h0 : w.ownsRow B 36 4 v0 l0.length (l0.flatMap Tk.cells)) (h1 : w.ownsRow B 36 4 v1 l1.length (l1.flatMap Tk.cells))
    (h2 : w.ownsRow B 36 4 v2 l2.length (l2.flatMap Tk.cells)) (h3 : w.ownsRow B 36 4 v3 l3.length (l3.flatMap Tk.cells))
    (d01 : ∀ g, v0.ownBlock = some g → v1.ownBlock ≠ some g) (d02 : ∀ g, v0.ownBlock = some g → v2.ownBlock ≠ some g) (d03 : ∀ g, v0.ownBlock = some g → v3.ownBlock ≠ some g)
    (d12 : ∀ g, v1.ownBlock = some g → v2.ownBlock ≠ some g) (d13 : ∀ g, v1.ownBlock = some g → v3.ownBlock ≠ some g) (d23 : ∀ g, v2.ownBlock = some g → v3.ownBlock ≠ some g) :
    Rows4 (w.alloc (.cells #[v0, v1, v2, v3] 22)) B w.heap.size (sel4 v0 v1 v2 v3) (sel4 l0 l1 l2 l3) := by
  have k4 : ∀ k, k < 4 → k = 0 ∨ k = 1 ∨ k = 2 ∨ k = 3 := fun k h => by omega
  refine ⟨by simp, fun k hk => ?_, fun k hk => ?_, fun k m hk hm hne g hg hg' => ?_, fun k hk hg => ?_⟩
  · rw [Lib.cell_of_heap (heap_alloc_new w _)]
    rcases k4 k hk with rfl | rfl | rfl | rfl <;> rfl
  · rcases k4 k hk with rfl | rfl | rfl | rfl
    · exact h0.alloc _
    · exact h1.alloc _
    · exact h2.alloc _
    · exact h3.alloc _
  · rcases k4 k hk with rfl | rfl | rfl | rfl <;> rcases k4 m hm with rfl | rfl | rfl | rfl <;>
      first | exact hne rfl | exact d01 g hg hg' | exact d02 g hg hg' | exact d03 g hg hg' | exact d12 g hg hg' | exact d13 g hg hg' | exact d23 g hg hg' | exact d01 g hg' hg | exact d02 g hg' hg | exact d03 g hg' hg | exact d12 g hg' hg | exact d13 g hg' hg | exact d23 g hg' hg
  · rcases k4 k hk with rfl | rfl | rfl | rfl
    · exact absurd (h0.lt _ hg).2 (Nat.lt_irrefl _)
    · exact absurd (h1.lt _ hg).2 (Nat.lt_irrefl _)
    · exact absurd (h2.lt _ hg).2 (Nat.lt_irrefl _)
    · exact absurd (h3.lt _ hg).2 (Nat.lt_irrefl _)
end Go.Proofs.YtcigdlpljjkplaaDoor
