/- The writer's expr at every expression that may be, by its depth; how long such a text is. Conditions: the expression lies in memory as it is told; what is held and what is written together take at most 2^47 bytes. -/
import Derived.Test.YtlghiakckkhekaaDoorW25
namespace Go.Proofs.YtlghiakckkhekaaDoor
open Go.RowKit

theorem arity_one {op : Int} {n : Nat} (h : ((n : Nat) : Int) = arityI op) : (n = 1 ∧ (op = 1 ∨ (8 ≤ op ∧ op ≤ 10))) ∨ (n = 2 ∧ 2 ≤ op ∧ op ≤ 7) := by
  unfold arityI at h
  split at h
  · omega
  · split at h <;> omega
theorem ex_open {n d : Nat} {op : Int} {tm : Tm} {sl : Value} {ks : List (Ex d)} (h : exOk (n + 1) (d + 1) (op, tm, sl, ks) = true) :
    (op = 0 ∧ ks = [] ∧ solidB tm = true) ∨ (∃ k, op = 1 ∧ ks = [k] ∧ exOk n d k = true) ∨ (∃ k, 8 ≤ op ∧ op ≤ 10 ∧ ks = [k] ∧ exOk n d k = true) ∨
      (∃ k m, 2 ≤ op ∧ op ≤ 7 ∧ ks = [k, m] ∧ exOk n d k = true ∧ exOk n d m = true) := by
  have h2 : (if op = 0 then ks.isEmpty && solidB tm else tmZero tm && decide ((ks.length : Int) = arityI op) && ks.all (exOk n d)) = true := h
  clear h
  by_cases h0 : op = 0
  · rw [if_pos h0] at h2
    simp only [Bool.and_eq_true, List.isEmpty_iff] at h2
    exact .inl ⟨h0, h2.1, h2.2⟩
  · rw [if_neg h0] at h2
    simp only [Bool.and_eq_true, decide_eq_true_eq, List.all_eq_true] at h2
    obtain ⟨⟨_, hlen⟩, hall⟩ := h2
    have hl := arity_one hlen
    match ks, hl, hall with
    | [], hl, _ => simp at hl
    | [k], hl, hall =>
      rcases hl with ⟨_, h | h⟩ | ⟨h, _⟩
      · exact .inr (.inl ⟨k, h, rfl, hall k (by simp)⟩)
      · exact .inr (.inr (.inl ⟨k, h.1, h.2, rfl, hall k (by simp)⟩))
      · simp at h
    | [k, m], hl, hall =>
      rcases hl with ⟨h, _⟩ | ⟨_, h⟩
      · simp at h
      · exact .inr (.inr (.inr ⟨k, m, h.1, h.2, rfl, hall k (by simp), hall m (by simp)⟩))
    | _ :: _ :: _ :: _, hl, _ => simp at hl
theorem exprL_term {d : Nat} (tm : Tm) (sl : Value) (ks : List (Ex d)) : exprL (d + 1) ((0 : Int), tm, sl, ks) = termL tm := rfl
theorem exprL_neg {d : Nat} (tm : Tm) (sl : Value) (k : Ex d) : exprL (d + 1) ((1 : Int), tm, sl, [k]) = 45 :: sideL (exprL d k) (negB (exOp d k) (exTm d k)) := rfl
theorem exprL_word {d : Nat} {op : Int} (tm : Tm) (sl : Value) (k : Ex d) (h : 8 ≤ op) : exprL (d + 1) (op, tm, sl, [k]) = bl (wordL.getD op.toNat ⟨#[]⟩) ++ sideL (exprL d k) true := by
  show (if op = 0 then _ else if op = 1 then _ else _) = _
  rw [if_neg (by omega), if_neg (by omega)]
theorem exprL_two {d : Nat} {op : Int} (tm : Tm) (sl : Value) (k m : Ex d) (h : 2 ≤ op) : exprL (d + 1) (op, tm, sl, [k, m]) =
    sideL (exprL d k) (decide (holdI (exOp d k) < holdI op)) ++ (32 :: (bl (signL.getD op.toNat ⟨#[]⟩) ++ [32])) ++ sideL (exprL d m) (decide (holdI (exOp d m) ≤ holdI op)) := by
  show (if op = 0 then _ else _) = _
  rw [if_neg (by omega)]
theorem sign_len : ∀ i, i < 8 → (bl (signL.getD i ⟨#[]⟩)).length ≤ 1 := by decide
theorem word_len : ∀ i, i < 11 → (bl (wordL.getD i ⟨#[]⟩)).length ≤ 5 := by decide
theorem sideL_le (l : List UInt8) (b : Bool) : (sideL l b).length ≤ l.length + 2 := by
  cases b <;> simp [sideL]
theorem solid_ok {t : Tm} (h : solidB t = true) : tmOk t = true := by
  simp only [solidB, Bool.and_eq_true] at h
  exact h.2
theorem exprL_le : ∀ (n d : Nat) (e : Ex d), exOk n d e = true → ExR d e → (exprL d e).length + 8 ≤ 810 * 2 ^ n
  | _, 0, e, _, _ => nomatch e
  | 0, _ + 1, _, h, _ => nomatch h
  | n + 1, d + 1, (op, tm, sl, ks), h, hr => by
    obtain ⟨_, htr, hrk⟩ := hr
    have hp : 1 ≤ 2 ^ n := Nat.one_le_two_pow
    have hq : (2 : Nat) ^ (n + 1) = 2 * 2 ^ n := by rw [Nat.pow_succ]; omega
    rcases ex_open h with ⟨rfl, rfl, hs⟩ | ⟨k, rfl, rfl, hk⟩ | ⟨k, h8, h10, rfl, hk⟩ | ⟨k, m, h2, h7, rfl, hk, hm⟩
    · rw [exprL_term]
      have : (termL tm).length ≤ 802 := termL_le htr (solid_ok hs)
      omega
    · rw [exprL_neg]
      have h1 := exprL_le n d k hk (hrk k (by simp))
      have h2 := sideL_le (exprL d k) (negB (exOp d k) (exTm d k))
      simp only [List.length_cons]
      omega
    · rw [exprL_word tm sl k h8]
      have h1 := exprL_le n d k hk (hrk k (by simp))
      have h2 := sideL_le (exprL d k) true
      have h3 := word_len op.toNat (by omega)
      simp only [List.length_append]
      omega
    · rw [exprL_two tm sl k m h2]
      have h1 := exprL_le n d k hk (hrk k (by simp))
      have h3 := exprL_le n d m hm (hrk m (by simp))
      have h4 := sideL_le (exprL d k) (decide (holdI (exOp d k) < holdI op))
      have h5 := sideL_le (exprL d m) (decide (holdI (exOp d m) ≤ holdI op))
      have h6 := sign_len op.toNat (by omega)
      simp only [List.length_append, List.length_cons, List.length_nil]
      omega
theorem writes_step (d : Nat) (ih : WritesAt d) : WritesAt (d + 1) := by
  intro w0 e n b pre w ho hE hT he hr hw hl
  obtain ⟨op, tm, sl, ks⟩ := e
  cases n with
  | zero => cases ho
  | succ n =>
    obtain ⟨p, cap, h1, hm, hs, hk⟩ := he
    obtain ⟨_, htr, hrk⟩ := hr
    have h1' : sl = .slice p ks.length cap := h1
    clear h1
    subst h1'
    obtain ⟨v, ⟨kd, x, t⟩⟩ := tm
    rcases ex_open ho with ⟨rfl, rfl, hs⟩ | ⟨k, rfl, rfl, hok⟩ | ⟨k, h8, h10, rfl, hok⟩ | ⟨k, m, h2, h7, rfl, hok, hom⟩
    · rw [exprL_term] at hl ⊢
      exact wTerm b pre v kd x t _ w htr (hT.at hE.bel) hw hl
    · rw [exprL_neg] at hl ⊢
      rcases hs with hs | ⟨a, o, hp, ha, hc⟩
      · simp at hs
      · have hp' : p = some ⟨a, o, none⟩ := hp
        subst hp'
        have hc0 := hc 0 (by simp)
        rw [Nat.zero_mul, Nat.add_zero] at hc0
        exact wNeg d ih w0 k n b a o cap v kd x t pre w hok hE hT ha hc0 (hk k (by simp)) (hrk k (by simp)) hw (by simp only [List.length_cons] at hl; omega)
    · rw [exprL_word _ _ k h8] at hl ⊢
      rcases hs with hs | ⟨a, o, hp, ha, hc⟩
      · simp at hs
      · have hp' : p = some ⟨a, o, none⟩ := hp
        subst hp'
        have hc0 := hc 0 (by simp)
        rw [Nat.zero_mul, Nat.add_zero] at hc0
        exact wWord d ih w0 k n b a o cap op v kd x t pre w h8 h10 hok hE hT ha hc0 (hk k (by simp)) (hrk k (by simp)) hw (by simp only [List.length_append] at hl; omega)
    · rw [exprL_two _ _ k m h2] at hl ⊢
      rcases hs with hs | ⟨a, o, hp, ha, hc⟩
      · simp at hs
      · have hp' : p = some ⟨a, o, none⟩ := hp
        subst hp'
        have hc0 := hc 0 (by simp)
        have hc1 := hc 1 (by simp)
        rw [Nat.zero_mul, Nat.add_zero] at hc0
        rw [Nat.one_mul] at hc1
        exact wTwo d ih w0 k m n b a o cap op v kd x t pre w h2 h7 hok hom hE hT ha hc0 hc1 (hk k (by simp)) (hk m (by simp)) (hrk k (by simp)) (hrk m (by simp)) hw (by simp only [List.length_append, List.length_cons, List.length_nil] at hl; omega)
theorem writes_all : ∀ d, WritesAt d
  | 0 => fun _ e => nomatch e
  | d + 1 => writes_step d (writes_all d)
end Go.Proofs.YtlghiakckkhekaaDoor
