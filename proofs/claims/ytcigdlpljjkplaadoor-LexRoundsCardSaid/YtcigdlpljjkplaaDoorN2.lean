/- Laws of a source's tokens in plain Lean, more: a line's end and a wrong byte put behind a good source; a source cut at its fault. No program in sight. Conditions: none. -/
import Derived.Test.YtcigdlpljjkplaaDoorN1
import Derived.Test.YtcigdlpljjkplaaDoorK4
namespace Go.Proofs.YtcigdlpljjkplaaDoor
open Go.RowKit

theorem tw_ext {p : UInt8 → Bool} {x : UInt8} (hx : p x = false) (q : List UInt8) : ∀ l : List UInt8, (l ++ x :: q).takeWhile p = l.takeWhile p
  | [] => by simp [hx]
  | y :: r => by
    rw [List.cons_append, List.takeWhile_cons, List.takeWhile_cons, tw_ext hx q r]
theorem dw_ext {p : UInt8 → Bool} {x : UInt8} (hx : p x = false) (q : List UInt8) : ∀ l : List UInt8, (l ++ x :: q).dropWhile p = l.dropWhile p ++ x :: q
  | [] => by simp [hx]
  | y :: r => by
    rw [List.cons_append, List.dropWhile_cons, List.dropWhile_cons, dw_ext hx q r]
    split <;> rfl
theorem tw_cut {p : UInt8 → Bool} : ∀ (l : List UInt8) (m : Nat), (l.take m).takeWhile p = (l.takeWhile p).take m
  | [], m => by simp
  | y :: r, 0 => by simp
  | y :: r, m + 1 => by
    rw [List.take_succ_cons, List.takeWhile_cons, List.takeWhile_cons, tw_cut r m]
    split
    · simp
    · simp
theorem pre_ext (q : List UInt8) : ∀ (g l : List UInt8), (∀ b ∈ g, b ≠ 10) → g.isPrefixOf (l ++ 10 :: q) = g.isPrefixOf l
  | [], _, _ => by simp
  | a :: g, [], h => by
    have := h a (by simp)
    simp [List.isPrefixOf, this]
  | a :: g, c :: l, h => by
    rw [List.cons_append, List.isPrefixOf, List.isPrefixOf, pre_ext q g l (fun b hb => h b (by simp [hb]))]
theorem sg_ext (q l : List UInt8) : sgFrom 0 (l ++ 10 :: q) = sgFrom 0 l := by
  unfold sgFrom
  have h : ∀ g ∈ signsT, ∀ b ∈ bl g, b ≠ 10 := by decide
  have h2 : ∀ ss : List ByteArray, (∀ g ∈ ss, ∀ b ∈ bl g, b ≠ 10) → ss.find? (fun s => (bl s).isPrefixOf (l ++ 10 :: q)) = ss.find? (fun s => (bl s).isPrefixOf l) := by
    intro ss
    induction ss with
    | nil => intro _; rfl
    | cons g r ih =>
      intro hg
      rw [List.find?_cons, List.find?_cons, pre_ext q (bl g) l (hg g (by simp)), ih (fun g' hg' => hg g' (by simp [hg']))]
  exact h2 (signsT.drop 0) h
theorem sg_cut {l : List UInt8} {g : ByteArray} (h : sgFrom 0 l = some g) {m : Nat} (hm : g.size ≤ m) : sgFrom 0 (l.take m) = some g := by
  unfold sgFrom at h ⊢
  have h2 : ∀ ss : List ByteArray, ss.find? (fun s => (bl s).isPrefixOf l) = some g → ss.find? (fun s => (bl s).isPrefixOf (l.take m)) = some g := by
    intro ss
    induction ss with
    | nil => intro h; simp at h
    | cons x r ih =>
      intro h
      rw [List.find?_cons] at h ⊢
      split at h
      · rename_i hx
        simp only [Option.some.injEq] at h
        subst h
        have h3 : (bl x).isPrefixOf (l.take m) = true := by
          rw [List.isPrefixOf_iff_prefix] at hx ⊢
          exact List.prefix_take_iff.2 ⟨hx, by rw [size_bl]; exact hm⟩
        rw [h3]
      · rename_i hx
        have h3 : (bl x).isPrefixOf (l.take m) = false := by
          rw [Bool.eq_false_iff]
          intro h4
          rw [List.isPrefixOf_iff_prefix] at h4
          have h5 := h4.trans (List.take_prefix m l)
          rw [← List.isPrefixOf_iff_prefix] at h5
          rw [h5] at hx
          exact absurd hx (by decide)
        rw [h3]
        exact ih h
  exact h2 _ h
theorem take_app (A B : List UInt8) (d : Nat) : (A ++ B).take (A.length + d) = A ++ B.take d := by
  rw [List.take_append, List.take_of_length_le (by omega), Nat.add_sub_cancel_left]
theorem drop_app (A B : List UInt8) (d : Nat) : (A ++ B).drop (A.length + d) = B.drop d := by
  rw [List.drop_append, List.drop_of_length_le (by omega), Nat.add_sub_cancel_left, List.nil_append]
theorem head_if (c : UInt8) (r : List UInt8) : headT (c :: r) = if c.toNat = 34 then quotedT (c :: r) else firstT (c :: r) := by
  unfold headT
  by_cases h : c.toNat = 34
  · rw [if_pos h, if_pos (by simp [h])]
  · rw [if_neg h, if_neg (by simpa using h)]
theorem mem_tw {p : UInt8 → Bool} : ∀ (l : List UInt8) (x : UInt8), x ∈ l.takeWhile p → p x = true
  | [], _, h => by simp at h
  | y :: r, x, h => by
    rw [List.takeWhile_cons] at h
    split at h
    · rename_i hy
      rcases List.mem_cons.1 h with rfl | h
      · exact hy
      · exact mem_tw r x h
    · simp at h
theorem head_ext {c : UInt8} {r : List UInt8} {t : Tk} {n : Nat} (h : headT (c :: r) = ((0, t), n)) (q : List UInt8) : headT (c :: (r ++ 10 :: q)) = ((0, t), n) := by
  rw [head_if] at h ⊢
  split at h
  · rename_i h34
    rw [if_pos h34]
    unfold quotedT at h ⊢
    simp only [List.drop_succ_cons, List.drop_zero] at h ⊢
    split at h
    · simp at h
    · rename_i b k hq
      rw [qT_ext _ _ _ (10 :: q) _ _ hq]
      exact h
  · rename_i h34
    rw [if_neg h34]
    unfold firstT at h ⊢
    simp only at h ⊢
    split at h
    · rename_i hw
      rw [if_pos hw]
      rw [show runL (c :: (r ++ 10 :: q)) = runL (c :: r) from tw_ext (x := 10) (by decide) q (c :: r)]
      exact h
    · rename_i hw
      rw [if_neg hw, show sgFrom 0 (c :: (r ++ 10 :: q)) = sgFrom 0 (c :: r) from sg_ext q (c :: r)]
      exact h
theorem head_cut {c : UInt8} {r : List UInt8} {t : Tk} {n : Nat} (h : headT (c :: r) = ((0, t), n)) {m : Nat} (hm : n ≤ m + 1) (hml : m ≤ r.length) : headT (c :: r.take m) = ((0, t), n) := by
  rw [head_if] at h ⊢
  split at h
  · rename_i h34
    rw [if_pos h34]
    unfold quotedT at h ⊢
    simp only [List.drop_succ_cons, List.drop_zero] at h ⊢
    split at h
    · simp at h
    · rename_i b k hq
      rw [qT_cut _ _ _ _ _ hq m (by simp at h; omega) hml]
      exact h
  · rename_i h34
    rw [if_neg h34]
    unfold firstT at h ⊢
    simp only at h ⊢
    split at h
    · rename_i hw
      rw [if_pos hw]
      have h1 : runL (c :: r.take m) = (runL (c :: r)).take (m + 1) := tw_cut (c :: r) (m + 1)
      have h2 : (runL (c :: r)).length = n := by simp only [Prod.mk.injEq] at h; exact h.2
      rw [h1, List.take_of_length_le (by omega)]
      exact h
    · rename_i hw
      rw [if_neg hw]
      split at h
      · rename_i g hg
        have h2 : g.size = n := by simp only [Prod.mk.injEq] at h; exact h.2
        rw [show sgFrom 0 (c :: r.take m) = some g from sg_cut (l := c :: r) (m := m + 1) hg (by omega)]
        exact h
      · simp at h
/-- Behind a source without a fault a line's end and a byte that begins nothing: the fault stands at that byte. -/
theorem toks_ext (l : List UInt8) (k : Nat) : ∀ ts, toksT l k = .ok ts → toksT (l ++ [10, 36]) k = .error (31, k + l.length + 1) := by
  induction l, k using toksT.induct with
  | case1 k =>
    intro ts _
    rw [List.nil_append, toks_blank (by decide), toks_err (by decide) (by decide) (by decide)]
    rfl
  | case2 k c r hb ih =>
    intro ts h
    rw [toks_blank hb] at h
    rw [List.cons_append, toks_blank hb, ih ts h]
    simp; omega
  | case3 k c r hb h35 ih =>
    intro ts h
    have hb' : blankB c = false := by simpa using hb
    rw [toks_hash hb' h35] at h
    rw [List.cons_append, toks_hash hb' h35, dw_ext (by decide) [36] r, tw_ext (by decide) [36] r, ih ts h]
    have hlen := congrArg List.length (List.takeWhile_append_dropWhile (p := fun b : UInt8 => b != 10) (l := r))
    rw [List.length_append] at hlen
    rw [show k + 1 + (r.takeWhile (fun b => b != 10)).length + (r.dropWhile (fun b => b != 10)).length + 1 = k + (c :: r).length + 1 by simp only [List.length_cons]; omega]
  | case4 k c r hb h35 he ih =>
    intro ts h
    have hb' : blankB c = false := by simpa using hb
    obtain ⟨t, n, hq⟩ : ∃ t n, headT (c :: r) = ((0, t), n) := ⟨_, _, by rw [← he]⟩
    obtain ⟨hn1, hn2⟩ := head_len hq
    rw [toks_ok hb' h35 hq hn1] at h
    rw [List.cons_append, toks_ok hb' h35 (head_ext hq [36]) hn1, ← List.cons_append, List.drop_append_of_le_length hn2]
    rw [hq] at ih
    have e1 : r.drop (n - 1) = (c :: r).drop n := by
      obtain ⟨j, rfl⟩ : ∃ j, n = j + 1 := ⟨n - 1, by omega⟩
      simp
    simp only [e1, show k + 1 + (n - 1) = k + n by omega] at ih
    cases hx : toksT ((c :: r).drop n) (k + n) with
    | error e => rw [hx] at h; cases h
    | ok us =>
      rw [ih us hx]
      simp [Except.map]
      simp at hn2
      omega
  | case5 k c r hb h35 he =>
    intro ts h
    rw [toks_err (by simpa using hb) h35 he] at h
    cases h
theorem dw_head (r : List UInt8) (d : Nat) : ∀ x q, (r.dropWhile (fun b : UInt8 => b != 10)).take d = x :: q → (x != 10) = false := by
  intro x q h
  match hr : r.dropWhile (fun b : UInt8 => b != 10), d with
  | [], d => rw [hr] at h; simp at h
  | y :: s, 0 => rw [hr] at h; simp at h
  | y :: s, d + 1 =>
    rw [hr] at h
    simp only [List.take_succ_cons, List.cons.injEq] at h
    have h2 := List.head?_dropWhile_not (fun b : UInt8 => b != 10) r
    rw [hr] at h2
    rw [← h.1]
    simpa using h2
theorem dw_app {r s : List UInt8} (h : ∀ x q, s = x :: q → (x != 10) = false) : (r.takeWhile (fun b : UInt8 => b != 10) ++ s).dropWhile (fun b => b != 10) = s := by
  rw [List.dropWhile_append_of_pos (fun x hx => mem_tw r x hx)]
  match s, h with
  | [], _ => rfl
  | x :: q, h => rw [List.dropWhile_cons, h x q rfl]; rfl
theorem tw_app {r s : List UInt8} (h : ∀ x q, s = x :: q → (x != 10) = false) : (r.takeWhile (fun b : UInt8 => b != 10) ++ s).takeWhile (fun b => b != 10) = r.takeWhile (fun b => b != 10) := by
  rw [List.takeWhile_append_of_pos (fun x hx => mem_tw r x hx)]
  match s, h with
  | [], _ => simp
  | x :: q, h => rw [List.takeWhile_cons, h x q rfl]; simp
/-- Where a fault is told: all ahead of it is a source without one, and what begins there has it at its head. -/
theorem toks_fault (l : List UInt8) (k : Nat) : ∀ e p, toksT l k = .error (e, p) → k ≤ p ∧ p < k + l.length ∧ e ≠ 0 ∧ (∃ ts, toksT (l.take (p - k)) k = .ok ts) ∧ ∀ j, toksT (l.drop (p - k)) j = .error (e, j) := by
  induction l, k using toksT.induct with
  | case1 k => intro e p h; rw [toks_nil] at h; cases h
  | case2 k c r hb ih =>
    intro e p h
    rw [toks_blank hb] at h
    obtain ⟨h1, h2, h3, ⟨ts, h4⟩, h5⟩ := ih e p h
    obtain ⟨d, rfl⟩ : ∃ d, p = k + (d + 1) := ⟨p - k - 1, by omega⟩
    rw [show k + (d + 1) - (k + 1) = d by omega] at h4 h5
    refine ⟨by omega, by simp; omega, h3, ⟨ts, ?_⟩, ?_⟩
    · rw [show k + (d + 1) - k = d + 1 by omega, List.take_succ_cons, toks_blank hb]; exact h4
    · rw [show k + (d + 1) - k = d + 1 by omega, List.drop_succ_cons]; exact h5
  | case3 k c r hb h35 ih =>
    intro e p h
    have hb' : blankB c = false := by simpa using hb
    rw [toks_hash hb' h35] at h
    obtain ⟨h1, h2, h3, ⟨ts, h4⟩, h5⟩ := ih e p h
    have hsp := List.takeWhile_append_dropWhile (p := fun b : UInt8 => b != 10) (l := r)
    have hlen := congrArg List.length hsp
    rw [List.length_append] at hlen
    obtain ⟨d, rfl⟩ : ∃ d, p = k + 1 + (r.takeWhile (fun b => b != 10)).length + d := ⟨p - (k + 1 + (r.takeWhile (fun b => b != 10)).length), by omega⟩
    rw [show k + 1 + (r.takeWhile (fun b => b != 10)).length + d - (k + 1 + (r.takeWhile (fun b => b != 10)).length) = d by omega] at h4 h5
    have e1 : k + 1 + (r.takeWhile (fun b => b != 10)).length + d - k = ((r.takeWhile (fun b => b != 10)).length + d) + 1 := by omega
    have e2 : r.take ((r.takeWhile (fun b => b != 10)).length + d) = r.takeWhile (fun b => b != 10) ++ (r.dropWhile (fun b => b != 10)).take d := by
      have h9 := take_app (r.takeWhile (fun b => b != 10)) (r.dropWhile (fun b => b != 10)) d
      rw [hsp] at h9
      exact h9
    have e3 : r.drop ((r.takeWhile (fun b => b != 10)).length + d) = (r.dropWhile (fun b => b != 10)).drop d := by
      have h9 := drop_app (r.takeWhile (fun b => b != 10)) (r.dropWhile (fun b => b != 10)) d
      rw [hsp] at h9
      exact h9
    refine ⟨by omega, by simp; omega, h3, ?_, ?_⟩
    · rw [e1, List.take_succ_cons, e2, toks_hash hb' h35, dw_app, tw_app]
      · exact ⟨ts, h4⟩
      · exact dw_head r d
      · exact dw_head r d
    · rw [e1, List.drop_succ_cons, e3]; exact h5
  | case4 k c r hb h35 he ih =>
    intro e p h
    have hb' : blankB c = false := by simpa using hb
    obtain ⟨t, n, hq⟩ : ∃ t n, headT (c :: r) = ((0, t), n) := ⟨_, _, by rw [← he]⟩
    obtain ⟨hn1, hn2⟩ := head_len hq
    rw [toks_ok hb' h35 hq hn1] at h
    rw [hq] at ih
    have e1 : r.drop (n - 1) = (c :: r).drop n := by
      obtain ⟨j, rfl⟩ : ∃ j, n = j + 1 := ⟨n - 1, by omega⟩
      simp
    simp only [e1, show k + 1 + (n - 1) = k + n by omega] at ih
    cases hx : toksT ((c :: r).drop n) (k + n) with
    | ok us => rw [hx] at h; cases h
    | error e' =>
      rw [hx] at h
      have he' : e' = (e, p) := by simpa [Except.map] using h
      subst he'
      obtain ⟨h1, h2, h3, ⟨ts, h4⟩, h5⟩ := ih e p hx
      obtain ⟨d, rfl⟩ : ∃ d, p = k + n + d := ⟨p - (k + n), by omega⟩
      rw [show k + n + d - (k + n) = d by omega] at h4 h5
      have hnl : n ≤ (c :: r).length := hn2
      refine ⟨by omega, by rw [List.length_drop] at h2; omega, h3, ?_, ?_⟩
      · rw [show k + n + d - k = (n - 1 + d) + 1 by omega, List.take_succ_cons]
        have hc := head_cut hq (m := n - 1 + d) (by omega) (by rw [List.length_drop] at h2; simp at h2 hnl; omega)
        rw [toks_ok hb' h35 hc hn1]
        have e4 : (c :: r.take (n - 1 + d)).drop n = ((c :: r).drop n).take d := by
          rw [← List.take_succ_cons, List.drop_take, show n - 1 + d + 1 - n = d by omega]
        rw [e4, h4]
        exact ⟨_, rfl⟩
      · rw [show k + n + d - k = n + d by omega, ← List.drop_drop]; exact h5
  | case5 k c r hb h35 he =>
    intro e p h
    have hb' : blankB c = false := by simpa using hb
    rw [toks_err hb' h35 he] at h
    simp only [Except.error.injEq, Prod.mk.injEq] at h
    obtain ⟨rfl, rfl⟩ := h
    refine ⟨by omega, by simp, he, ⟨_, by rw [Nat.sub_self, List.take_zero, toks_nil]⟩, fun j => by rw [Nat.sub_self, List.drop_zero, toks_err hb' h35 he]⟩
end Go.Proofs.YtcigdlpljjkplaaDoor
