/- Laws of a source's tokens in plain Lean: a source cut right ahead of each token. No program in sight. Conditions: none. -/
import Derived.Test.YtcigdlpljjkplaaDoorN2
namespace Go.Proofs.YtcigdlpljjkplaaDoor
open Go.RowKit

def endT (p : Nat) : Tk := ⟨8, ⟨#[]⟩, 0, p⟩
/-- The tokens with their places, one behind the other; between them nothing. -/
def Chain : List UInt8 → Nat → List (Nat × Tk) → Prop
  | l, _, [] => ∀ j, toksT l j = .ok [endT (j + l.length)]
  | l, k, q :: qs => ∃ (g n : Nat), g + n ≤ l.length ∧ 1 ≤ n ∧ q.1 = k + g ∧ (∀ j, toksT (l.take g) j = .ok [endT (j + g)]) ∧
      (∃ c r, l.drop g = c :: r ∧ blankB c = false ∧ c.toNat ≠ 35 ∧ headT (c :: r) = ((0, q.2), n)) ∧ Chain (l.drop (g + n)) (k + g + n) qs
/-- What is skipped ahead of a chain is part of its first gap. -/
theorem chain_pre {pre s : List UInt8} {k : Nat} {qs : List (Nat × Tk)} (hp : ∀ g j, g ≤ s.length → toksT (pre ++ s.take g) j = toksT (s.take g) (j + pre.length)) (h : Chain s (k + pre.length) qs) : Chain (pre ++ s) k qs := by
  match qs, h with
  | [], h =>
    intro j
    have h1 := hp s.length j (Nat.le_refl _)
    rw [List.take_length] at h1
    rw [h1, h (j + pre.length), List.length_append, Nat.add_assoc]
  | q :: qs, ⟨g, n, hgn, hn, hq, hg, ⟨c, r, hd, hb, h35, hh⟩, hc⟩ =>
    refine ⟨pre.length + g, n, by rw [List.length_append]; omega, hn, by omega, fun j => ?_, ⟨c, r, ?_, hb, h35, hh⟩, ?_⟩
    · rw [take_app, hp g j (by omega), hg, show j + pre.length + g = j + (pre.length + g) by omega]
    · rw [drop_app]; exact hd
    · rw [show pre.length + g + n = pre.length + (g + n) by omega, drop_app, show k + (pre.length + g) + n = k + pre.length + g + n by omega]
      exact hc
def placed (q : Nat × Tk) : Tk := ⟨q.2.k, q.2.t, q.2.n, q.1⟩
theorem chain_of (l : List UInt8) (k : Nat) : ∀ ts, toksT l k = .ok ts → ∃ qs, ts = qs.map placed ++ [endT (k + l.length)] ∧ Chain l k qs := by
  induction l, k using toksT.induct with
  | case1 k =>
    intro ts h
    rw [toks_nil] at h
    simp only [Except.ok.injEq] at h
    exact ⟨[], by rw [← h]; rfl, fun j => toks_nil j⟩
  | case2 k c r hb ih =>
    intro ts h
    rw [toks_blank hb] at h
    obtain ⟨qs, h1, h2⟩ := ih ts h
    exact ⟨qs, by rw [h1, List.length_cons, show k + 1 + r.length = k + (r.length + 1) by omega], chain_pre (pre := [c]) (fun g j _ => toks_blank hb) h2⟩
  | case3 k c r hb h35 ih =>
    intro ts h
    have hb' : blankB c = false := by simpa using hb
    rw [toks_hash hb' h35] at h
    obtain ⟨qs, h1, h2⟩ := ih ts h
    have hsp := List.takeWhile_append_dropWhile (p := fun b : UInt8 => b != 10) (l := r)
    have hlen := congrArg List.length hsp
    rw [List.length_append] at hlen
    refine ⟨qs, by rw [h1, List.length_cons, show k + 1 + (r.takeWhile (fun b => b != 10)).length + (r.dropWhile (fun b => b != 10)).length = k + (r.length + 1) by omega], ?_⟩
    have h3 := chain_pre (pre := c :: r.takeWhile (fun b => b != 10)) (s := r.dropWhile (fun b => b != 10)) (k := k) (qs := qs) (fun g j _ => by
      rw [List.cons_append, toks_hash hb' h35, dw_app (dw_head r g), tw_app (dw_head r g), List.length_cons, show j + 1 + (r.takeWhile (fun b => b != 10)).length = j + ((r.takeWhile (fun b => b != 10)).length + 1) by omega]) (by
      rw [List.length_cons, show k + ((r.takeWhile (fun b => b != 10)).length + 1) = k + 1 + (r.takeWhile (fun b => b != 10)).length by omega]; exact h2)
    rw [List.cons_append, hsp] at h3
    exact h3
  | case4 k c r hb h35 he ih =>
    intro ts h
    have hb' : blankB c = false := by simpa using hb
    obtain ⟨t, n, hq⟩ : ∃ t n, headT (c :: r) = ((0, t), n) := ⟨_, _, by rw [← he]⟩
    obtain ⟨hn1, hn2⟩ := head_len hq
    rw [toks_ok hb' h35 hq hn1] at h
    rw [hq] at ih
    have e1 : r.drop (n - 1) = (c :: r).drop n := by
      obtain ⟨j, rfl⟩ : ∃ j, n = j + 1 := ⟨n - 1, by omega⟩
      simp
    simp only [e1, show k + 1 + (n - 1) = k + n by omega] at ih
    cases hx : toksT ((c :: r).drop n) (k + n) with
    | error e => rw [hx] at h; cases h
    | ok us =>
      rw [hx] at h
      obtain ⟨qs, h1, h2⟩ := ih us hx
      simp only [Except.map, Except.ok.injEq] at h
      refine ⟨(k, t) :: qs, ?_, 0, n, by omega, hn1, rfl, fun j => by rw [List.take_zero, toks_nil]; rfl, ⟨c, r, rfl, hb', h35, hq⟩, ?_⟩
      · rw [← h, h1, List.length_drop, show k + n + ((c :: r).length - n) = k + (c :: r).length by omega]
        rfl
      · rw [Nat.zero_add, Nat.add_zero]; exact h2
  | case5 k c r hb h35 he =>
    intro ts h
    rw [toks_err (by simpa using hb) h35 he] at h
    cases h
/-- Where the first token stands; none: the source's end. -/
def fstP (qs : List (Nat × Tk)) (N : Nat) : Nat := match qs with | [] => N | q :: _ => q.1
theorem chain_gap {l : List UInt8} {k : Nat} {qs : List (Nat × Tk)} (h : Chain l k qs) : ∃ g, g ≤ l.length ∧ fstP qs (k + l.length) = k + g ∧ ∀ j, toksT (l.take g) j = .ok [endT (j + g)] := by
  match qs, h with
  | [], h => exact ⟨l.length, Nat.le_refl _, rfl, fun j => by rw [List.take_length]; exact h j⟩
  | q :: qs, ⟨g, n, hgn, _, hq, hg, _⟩ => exact ⟨g, by omega, hq, hg⟩
/-- Each piece has its token alone. -/
theorem chain_piece : ∀ (qs : List (Nat × Tk)) (l : List UInt8) (k : Nat), Chain l k qs → ∀ i, (h : i < qs.length) →
    k ≤ qs[i].1 ∧ qs[i].1 < fstP (qs.drop (i + 1)) (k + l.length) ∧ fstP (qs.drop (i + 1)) (k + l.length) ≤ k + l.length ∧
    toksT ((l.drop (qs[i].1 - k)).take (fstP (qs.drop (i + 1)) (k + l.length) - qs[i].1)) 0 = .ok [⟨qs[i].2.k, qs[i].2.t, qs[i].2.n, (0 : Nat)⟩, endT (fstP (qs.drop (i + 1)) (k + l.length) - qs[i].1)]
  | [], _, _, _, i, h => by simp at h
  | q :: qs, l, k, ⟨g, n, hgn, hn, hq, hg, ⟨c, r, hd, hb, h35, hh⟩, hc⟩, 0, _ => by
    obtain ⟨g2, hg2, hf, hg3⟩ := chain_gap hc
    rw [List.length_drop] at hg2 hf
    have hN : k + g + n + (l.length - (g + n)) = k + l.length := by omega
    rw [hN] at hf
    simp only [List.getElem_cons_zero, List.drop_succ_cons, List.drop_zero, Nat.zero_add]
    rw [hf, hq]
    refine ⟨by omega, by omega, by omega, ?_⟩
    rw [show k + g - k = g by omega, show k + g + n + g2 - (k + g) = n + g2 by omega, hd]
    have hlr : (c :: r).length = l.length - g := by rw [← hd, List.length_drop]
    have hlr2 : r.length + 1 = l.length - g := by simpa using hlr
    rw [show n + g2 = (n - 1 + g2) + 1 by omega, List.take_succ_cons]
    rw [toks_ok hb h35 (head_cut hh (m := n - 1 + g2) (by omega) (by omega)) hn]
    have e4 : (c :: r.take (n - 1 + g2)).drop n = (l.drop (g + n)).take g2 := by
      rw [← List.take_succ_cons, List.drop_take, ← hd, List.drop_drop, show n - 1 + g2 + 1 - n = g2 by omega]
    rw [e4, hg3]
    simp only [Except.map, Except.ok.injEq]
    rw [show 0 + n + g2 = n - 1 + g2 + 1 by omega]
  | q :: qs, l, k, ⟨g, n, hgn, hn, hq, hg, _, hc⟩, i + 1, h => by
    have hi : i < qs.length := by simpa using h
    have ih := chain_piece qs (l.drop (g + n)) (k + g + n) hc i hi
    rw [List.length_drop, show k + g + n + (l.length - (g + n)) = k + l.length by omega] at ih
    obtain ⟨h1, h2, h3, h4⟩ := ih
    simp only [List.getElem_cons_succ, List.drop_succ_cons]
    refine ⟨by omega, h2, h3, ?_⟩
    rw [List.drop_drop, show g + n + (qs[i].1 - (k + g + n)) = qs[i].1 - k by omega] at h4
    exact h4
end Go.Proofs.YtcigdlpljjkplaaDoor
