/- Every byte of a text that is written lies from 32 to 126; in plain Lean, no program in sight. Conditions: what is written is as it may be. -/
import Derived.Test.YtdgbenadoaecoaaDoorS1
namespace Go.Proofs.YtdgbenadoaecoaaDoor
open Go.RowKit

def plainB (c : UInt8) : Bool := decide (32 ≤ c.toNat) && decide (c.toNat ≤ 126)
theorem digit_plain {c : UInt8} (h : digitB c = true) : plainB c = true := by
  simp only [digitB, plainB, Bool.and_eq_true, decide_eq_true_eq] at h ⊢
  omega
theorem word_plain {c : UInt8} (h : wordB c = true) : plainB c = true := by
  simp only [wordB, lowerB, upperB, digitB, plainB, Bool.or_eq_true, Bool.and_eq_true, decide_eq_true_eq, beq_iff_eq] at h ⊢
  omega
theorem words_plain {l : List UInt8} (h : l.all wordB = true) : l.all plainB = true := by
  rw [List.all_eq_true] at h ⊢
  exact fun c hc => word_plain (h c hc)
theorem run_words {a b : UInt8} {l : List UInt8} (h : runB a b l = true) : l.all wordB = true := by
  match l with
  | [] => rfl
  | c :: r =>
    simp only [runB, Bool.and_eq_true] at h
    exact h.2
theorem name_words {l : List UInt8} (h : nameB l = true) : l.all wordB = true := by
  rw [nameB, Bool.and_eq_true] at h
  exact run_words h.1
theorem dec_all (u : Nat) : (Lib.decDigits u).all digitB = true := by
  induction u using Nat.strongRecOn with
  | _ u ih =>
    rw [Lib.decDigits]
    split
    · rename_i h
      have h1 : (UInt8.ofNat (48 + u)).toNat = 48 + u := by simp; omega
      simp only [List.all_cons, List.all_nil, Bool.and_true, digitB, h1]
      simp; omega
    · rename_i h
      rw [List.all_append, ih (u / 10) (by omega)]
      have h1 : (UInt8.ofNat (48 + u % 10)).toNat = 48 + u % 10 := by simp; omega
      simp only [List.all_cons, List.all_nil, Bool.and_true, digitB, h1]
      simp; omega
theorem dec_plain (u : Nat) : (Lib.decDigits u).all plainB = true := by
  have h := dec_all u
  rw [List.all_eq_true] at h ⊢
  exact fun c hc => digit_plain (h c hc)
theorem itoa_plain (n : Int) : (Lib.itoa n).all plainB = true := by
  unfold Lib.itoa
  split
  · rw [List.all_cons, dec_plain]; rfl
  · exact dec_plain _
theorem hex_plain : ∀ n, n < 16 → plainB (hexD n) = true := by decide
theorem esc1_plain (c : UInt8) : (escB c).all plainB = true := by
  have hc : c.toNat < 256 := c.toNat_lt
  unfold escB
  split
  · decide
  · split
    · rename_i h
      rcases h with h | h <;> simp [plainB, h]
    · split
      · rename_i h
        simp [plainB, h]
      · have h1 := hex_plain (c.toNat / 16) (by omega)
        have h2 := hex_plain (c.toNat % 16) (by omega)
        simp only [List.all_cons, List.all_nil, h1, h2]
        decide
theorem esc_plain : ∀ l : List UInt8, (escL l).all plainB = true
  | [] => rfl
  | c :: r => by rw [escL, List.all_append, esc1_plain, esc_plain r]; rfl
theorem quote_plain (l : List UInt8) : (quoteL l).all plainB = true := by
  rw [quoteL, List.all_cons, List.all_append, esc_plain]
  rfl
theorem show_plain (x : Vl) : (showL x).all plainB = true := by
  unfold showL
  split
  · split
    · exact itoa_plain _
    · split
      · rename_i h
        exact words_plain (name_words h)
      · exact quote_plain _
  · rfl
theorem var_words {t : Tm} (hv : ¬ (bl t.v).isEmpty = true) (ho : tmOk t = true) : (bl t.v).all wordB = true := by
  unfold tmOk at ho
  rw [if_neg hv, Bool.and_eq_true, Bool.or_eq_true, beq_iff_eq] at ho
  rcases ho.2 with h | h
  · rw [h]; decide
  · exact run_words h
theorem term_plain {t : Tm} (ho : tmOk t = true) : (termL t).all plainB = true := by
  unfold termL
  split
  · exact show_plain _
  · rename_i h
    exact words_plain (var_words h ho)
theorem sep_plain : ∀ (f : Bool) (l : List (List UInt8)), (∀ x ∈ l, x.all plainB = true) → (sepL f l).all plainB = true
  | _, [], _ => rfl
  | f, x :: r, h => by
    rw [sepL, List.all_append, List.all_append, h x (by simp), sep_plain false r (fun y hy => h y (by simp [hy]))]
    cases f <;> decide
theorem cols_plain {n : List UInt8} {l : List (List UInt8)} (hn : nameB n = true) (h : ∀ x ∈ l, x.all plainB = true) : (colsL n l).all plainB = true := by
  rw [colsL, List.all_append, List.all_append, words_plain (name_words hn), sep_plain true l h]
  split <;> decide
theorem tab_plain (l : List ByteArray) (h : ∀ s ∈ l, (bl s).all plainB = true) (i : Nat) : (bl (l.getD i ⟨#[]⟩)).all plainB = true := by
  rw [List.getD_eq_getElem?_getD]
  cases hi : l[i]? with
  | none => rfl
  | some s => exact h s (List.mem_of_getElem? hi)
theorem side_plain {l : List UInt8} (b : Bool) (h : l.all plainB = true) : (sideL l b).all plainB = true := by
  unfold sideL
  split
  · rw [List.all_cons, List.all_append, h]; decide
  · exact h
theorem expr_plain : ∀ (n d : Nat) (e : Ex d), exOk n d e = true → (exprL d e).all plainB = true
  | _, 0, e, _ => nomatch e
  | 0, d + 1, e, h => by simp [exOk] at h
  | n + 1, d + 1, e, h => by
    rw [exOk] at h
    rw [exprL]
    split at h
    · rename_i h0
      rw [if_pos h0]
      rw [Bool.and_eq_true, solidB, Bool.and_eq_true] at h
      exact term_plain h.2.2
    · rename_i h0
      rw [if_neg h0]
      simp only [Bool.and_eq_true] at h
      have ih : ∀ k ∈ e.2.2.2, (exprL d k).all plainB = true := fun k hk => expr_plain n d k (List.all_eq_true.1 h.2 k hk)
      match hk : e.2.2.2 with
      | [] => rfl
      | [a] =>
        have h1 := ih a (by rw [hk]; simp)
        simp only
        split
        · rw [List.all_cons, side_plain _ h1]; rfl
        · rw [List.all_append, side_plain _ h1, tab_plain wordL (by decide)]; rfl
      | [a, b] =>
        have h1 := ih a (by rw [hk]; simp)
        have h2 := ih b (by rw [hk]; simp)
        simp only
        rw [List.all_append, List.all_append, List.all_cons, List.all_append, side_plain _ h1, side_plain _ h2, tab_plain signL (by decide)]
        rfl
      | a :: b :: c :: r => rfl
theorem atom_plain {p : ByteArray} {ts : List Tm} (h : atOk p ts = true) : (atomL p ts).all plainB = true := by
  simp only [atOk, Bool.and_eq_true, Bool.not_eq_true'] at h
  refine cols_plain h.1.1 fun x hx => ?_
  obtain ⟨t, ht, rfl⟩ := List.mem_map.1 hx
  have h1 := List.any_eq_false.1 h.2 t ht
  refine term_plain ?_
  simpa [tmBad] using h1
theorem lit_plain {d : Nat} {x : Lt d} (h : ltOk x = true) : (litL x).all plainB = true := by
  unfold ltOk at h
  unfold litL
  split at h
  · rename_i hk
    simp only [Bool.and_eq_true] at h
    have h1 := atom_plain h.1.1.1
    split
    · exact h1
    · split
      · rw [List.all_append, h1]; decide
      · omega
  · split at h
    · rename_i h1 h3
      simp only [Bool.and_eq_true] at h
      rw [if_neg (by omega), if_neg (by omega), List.all_append, List.all_append, List.all_cons, List.all_append, expr_plain 8 d x.l h.1.2, expr_plain 8 d x.g h.2, tab_plain relL (by decide)]
      rfl
    · cases h
theorem ag_plain {a : Ag} (h : agOk a = true) : (agL a).all plainB = true := by
  unfold agOk at h
  unfold agL
  split
  · rename_i h0
    rw [if_pos h0, solidB, Bool.and_eq_true] at h
    exact term_plain h.2
  · rename_i h0
    split
    · decide
    · rename_i h1
      rw [if_neg h0, if_neg h1] at h
      split at h
      · simp only [Bool.and_eq_true, solidB, Bool.not_eq_true'] at h
        have h2 := words_plain (var_words (by rw [h.1]; decide) h.2.2)
        rw [List.all_append, List.all_cons, List.all_append, h2, tab_plain foldsL (by decide)]
        rfl
      · cases h
theorem bod_plain {d : Nat} : ∀ (f : Bool) (l : List (Lt d)), (∀ x ∈ l, ltOk x = true) → (bodL f l).all plainB = true
  | _, [], _ => rfl
  | f, x :: r, h => by
    rw [bodL, List.all_append, List.all_append, lit_plain (h x (by simp)), bod_plain false r (fun y hy => h y (by simp [hy]))]
    cases f <;> decide
theorem rule_plain {d : Nat} {p : ByteArray} {hs : List Ag} {bs : List (Lt d)} (h : ruOk p hs bs = true) : (ruL p hs bs).all plainB = true := by
  simp only [ruOk, Bool.and_eq_true, List.all_eq_true] at h
  rw [ruL, List.all_append, List.all_append, cols_plain h.1.1.1.1.1 (fun x hx => by
    obtain ⟨a, ha, rfl⟩ := List.mem_map.1 hx
    exact ag_plain (h.1.1.2 a ha)), bod_plain true bs (fun x hx => h.1.2 x hx)]
  decide
end Go.Proofs.YtdgbenadoaecoaaDoor
