/- No two terms have one text, whatever stands behind them that ends a word; in plain Lean, no program in sight. No two expressions have one text, whatever stands behind them that ends an expression; in plain Lean, no program in sight. Two expressions have one text just if they are the same; in plain Lean, no program in sight. Expressions as they are held, and as trees; two that have one text are alike; in plain Lean, no program in sight. Two rules, two lists of facts, two queries have one text just if they are the same; in plain Lean, no program in sight. Conditions: the terms are as they may be. the expressions are as they may be. they are as they may be. -/
import Derived.Test.YtdgbenadoaecoaaDoorD1
import Derived.Test.YtdgbenadoaecoaaDoorS24
namespace Go.Proofs.YtdgbenadoaecoaaDoor
open Go.RowKit

/-- What ends a word. -/
def stopB : List UInt8 → Bool
  | [] => true
  | c :: _ => !wordB c
theorem run_inj : ∀ {l m r s : List UInt8}, l.all wordB = true → m.all wordB = true → stopB r = true → stopB s = true → l ++ r = m ++ s → l = m ∧ r = s
  | [], [], _, _, _, _, _, _, h => ⟨rfl, h⟩
  | [], c :: m, r, s, _, hm, hr, _, h => by
    have e : r = c :: (m ++ s) := h
    simp only [List.all_cons, Bool.and_eq_true] at hm
    rw [e, stopB, hm.1] at hr
    cases hr
  | c :: l, [], r, s, hl, _, _, hs, h => by
    have e : s = c :: (l ++ r) := h.symm
    simp only [List.all_cons, Bool.and_eq_true] at hl
    rw [e, stopB, hl.1] at hs
    cases hs
  | c :: l, c' :: m, r, s, hl, hm, hr, hs, h => by
    simp only [List.cons_append, List.cons.injEq] at h
    simp only [List.all_cons, Bool.and_eq_true] at hl hm
    obtain ⟨h1, h2⟩ := run_inj hl.2 hm.2 hr hs h.2
    exact ⟨by rw [h.1, h1], h2⟩
theorem bl_eq {s t : ByteArray} (h : bl s = bl t) : s = t := by
  cases s; cases t
  simpa [bl] using h
theorem bl_nil {s : ByteArray} (h : bl s = []) : s = ⟨#[]⟩ := bl_eq h
theorem dec_val (u : Nat) : (Lib.decDigits u).foldl (fun a c => 10 * a + (c.toNat - 48)) 0 = u := by
  induction u using Nat.strongRecOn with
  | _ u ih =>
    rw [Lib.decDigits]
    split
    · rename_i h
      have h1 : (UInt8.ofNat (48 + u)).toNat = 48 + u := by simp; omega
      simp only [List.foldl_cons, List.foldl_nil, h1]
      omega
    · rename_i h
      have h1 : (UInt8.ofNat (48 + u % 10)).toNat = 48 + u % 10 := by simp; omega
      rw [List.foldl_append, ih (u / 10) (by omega)]
      simp only [List.foldl_cons, List.foldl_nil, h1]
      omega
theorem dec_words (u : Nat) : (Lib.decDigits u).all wordB = true := by
  have h := dec_all u
  rw [List.all_eq_true] at h ⊢
  intro c hc
  simp [wordB, h c hc]
/-- The first byte; 0: there is none. -/
def fst1 : List UInt8 → Nat
  | [] => 0
  | c :: _ => c.toNat
theorem dec_fst (u : Nat) (r : List UInt8) : 48 ≤ fst1 (Lib.decDigits u ++ r) ∧ fst1 (Lib.decDigits u ++ r) ≤ 57 := by
  have h1 := Lib.decDigits_length u
  have h2 := Lib.nDigits_pos u
  have h3 := dec_all u
  match hd : Lib.decDigits u with
  | [] => rw [hd] at h1; simp at h1; omega
  | c :: l =>
    rw [hd, List.all_cons, Bool.and_eq_true] at h3
    simpa [digitB, fst1] using h3.1
theorem itoa_inj {n m : Int} {r s : List UInt8} (hr : stopB r = true) (hs : stopB s = true) (h : Lib.itoa n ++ r = Lib.itoa m ++ s) : n = m ∧ r = s := by
  unfold Lib.itoa at h
  split at h
  · split at h
    · simp only [List.cons_append, List.cons.injEq, true_and] at h
      obtain ⟨h1, h2⟩ := run_inj (dec_words _) (dec_words _) hr hs h
      have h3 := dec_val n.natAbs
      rw [h1, dec_val] at h3
      exact ⟨by omega, h2⟩
    · have h1 : 45 = fst1 (Lib.decDigits m.toNat ++ s) := congrArg fst1 h
      have h2 := dec_fst m.toNat s
      omega
  · split at h
    · have h1 : fst1 (Lib.decDigits n.toNat ++ r) = 45 := congrArg fst1 h
      have h2 := dec_fst n.toNat r
      omega
    · obtain ⟨h1, h2⟩ := run_inj (dec_words _) (dec_words _) hr hs h
      have h3 := dec_val n.toNat
      rw [h1, dec_val] at h3
      exact ⟨by omega, h2⟩
/-! Quoted texts. -/
def unhex (c : UInt8) : Nat := if c.toNat < 58 then c.toNat - 48 else c.toNat - 87
theorem unhex_hex : ∀ n, n < 16 → unhex (hexD n) = n := by decide
/-- The first byte of a quoted text's inside. -/
def unq : List UInt8 → Option (UInt8 × List UInt8)
  | [] => none
  | c :: r =>
    if c.toNat = 34 then none
    else if c.toNat = 92 then
      match r with
      | [] => none
      | e :: r2 =>
        if e.toNat = 110 then some (10, r2)
        else if e.toNat = 120 then
          match r2 with
          | a :: b :: r3 => some (UInt8.ofNat (unhex a * 16 + unhex b), r3)
          | _ => none
        else some (e, r2)
    else some (c, r)
theorem unq_esc (c : UInt8) (X : List UInt8) : unq (escB c ++ X) = some (c, X) := by
  have hc : c.toNat < 256 := c.toNat_lt
  unfold escB
  split
  · rename_i h
    have e : c = 10 := UInt8.toNat_inj.1 h
    subst e
    rfl
  · split
    · rename_i h1 h
      have e : unq (92 :: c :: X) = if c.toNat = 110 then some (10, X) else if c.toNat = 120 then (match X with | a :: b :: r3 => some (UInt8.ofNat (unhex a * 16 + unhex b), r3) | _ => none) else some (c, X) := rfl
      show unq (92 :: c :: X) = _
      rw [e, if_neg (by omega), if_neg (by omega)]
    · split
      · rename_i h1 h2 h
        show unq (c :: X) = _
        simp only [unq]
        rw [if_neg (by omega), if_neg (by omega)]
      · show unq (92 :: 120 :: hexD (c.toNat / 16) :: hexD (c.toNat % 16) :: X) = _
        have e0 : unq (92 :: 120 :: hexD (c.toNat / 16) :: hexD (c.toNat % 16) :: X) = some (UInt8.ofNat (unhex (hexD (c.toNat / 16)) * 16 + unhex (hexD (c.toNat % 16))), X) := rfl
        rw [e0, unhex_hex _ (by omega), unhex_hex _ (by omega)]
        have e : c.toNat / 16 * 16 + c.toNat % 16 = c.toNat := by omega
        rw [e]
        simp
theorem unq_end (r : List UInt8) : unq (34 :: r) = none := rfl
theorem esc_inj : ∀ {l m r s : List UInt8}, escL l ++ 34 :: r = escL m ++ 34 :: s → l = m ∧ r = s
  | [], [], r, s, h => ⟨rfl, by simpa [escL] using h⟩
  | [], c :: m, r, s, h => by
    rw [escL, escL, List.append_assoc, List.nil_append] at h
    have h1 := congrArg unq h
    rw [unq_esc, unq_end] at h1
    cases h1
  | c :: l, [], r, s, h => by
    rw [escL, escL, List.append_assoc, List.nil_append] at h
    have h1 := congrArg unq h
    rw [unq_esc, unq_end] at h1
    cases h1
  | c :: l, c' :: m, r, s, h => by
    rw [escL, escL, List.append_assoc, List.append_assoc] at h
    have h1 := congrArg unq h
    rw [unq_esc, unq_esc] at h1
    simp only [Option.some.injEq, Prod.mk.injEq] at h1
    obtain ⟨h2, h3⟩ := esc_inj h1.2
    exact ⟨by rw [h1.1, h2], h3⟩
theorem quote_inj {l m r s : List UInt8} (h : quoteL l ++ r = quoteL m ++ s) : l = m ∧ r = s := by
  simp only [quoteL, List.cons_append, List.append_assoc, List.cons.injEq, true_and, List.nil_append] at h
  exact esc_inj h
/-! Terms. -/
theorem vl_eq {x y : Vl} (hk : x.k = y.k) (hn : x.n = y.n) (ht : bl x.t = bl y.t) : x = y := by
  cases x; cases y
  simp only at hk hn ht
  subst hk hn
  obtain rfl := bl_eq ht
  rfl
theorem tm_eq {t u : Tm} (hv : bl t.v = bl u.v) (hx : t.x = u.x) : t = u := by
  cases t; cases u
  simp only at hx hv
  subst hx
  obtain rfl := bl_eq hv
  rfl
theorem vl_zero {x : Vl} (h : vlZero x = true) : x = ⟨0, 0, ⟨#[]⟩⟩ := by
  simp only [vlZero, Bool.and_eq_true, beq_iff_eq, List.isEmpty_iff] at h
  exact vl_eq h.1.1 h.1.2 h.2
/-- What stands in a term. -/
inductive TmK (t : Tm) : Prop where
  | var (c : UInt8) (r : List UInt8) (e : bl t.v = c :: r) (l : termL t = bl t.v) (w : (bl t.v).all wordB = true) (f : c.toNat = 95 ∨ (65 ≤ c.toNat ∧ c.toNat ≤ 90)) (x : t.x = ⟨0, 0, ⟨#[]⟩⟩)
  | num (v : bl t.v = []) (k : t.x.k = 1) (z : bl t.x.t = []) (l : termL t = Lib.itoa t.x.n)
  | nam (v : bl t.v = []) (k : t.x.k = 2) (n : t.x.n = 0) (h : nameB (bl t.x.t) = true) (l : termL t = bl t.x.t)
  | quo (v : bl t.v = []) (k : t.x.k = 2) (n : t.x.n = 0) (l : termL t = quoteL (bl t.x.t))
theorem tmK {t : Tm} (h : tmOk t = true) : TmK t := by
  unfold tmOk at h
  by_cases hv : (bl t.v).isEmpty = true
  · rw [if_pos hv] at h
    have hv' : bl t.v = [] := List.isEmpty_iff.1 hv
    have hl : termL t = showL t.x := by unfold termL; rw [if_pos hv]
    unfold showL at hl
    rw [if_pos h] at hl
    simp only [vlOk, Bool.or_eq_true, Bool.and_eq_true, beq_iff_eq, List.isEmpty_iff] at h
    rcases h with h | h
    · rw [if_pos (by simp [h.1])] at hl
      exact .num hv' h.1 h.2 hl
    · rw [if_neg (by simp [h.1.1])] at hl
      by_cases hn : nameB (bl t.x.t) = true
      · rw [if_pos hn] at hl
        exact .nam hv' h.1.1 h.1.2 hn hl
      · rw [if_neg hn] at hl
        exact .quo hv' h.1.1 h.1.2 hl
  · rw [if_neg hv, Bool.and_eq_true, Bool.or_eq_true, beq_iff_eq] at h
    have hl : termL t = bl t.v := by unfold termL; rw [if_neg hv]
    have hw : (bl t.v).all wordB = true := by
      rcases h.2 with h2 | h2
      · rw [h2]; decide
      · exact run_words h2
    match hb : bl t.v with
    | [] => rw [hb] at hv; exact absurd rfl hv
    | c :: r =>
      refine .var c r hb hl hw ?_ (vl_zero h.1)
      rcases h.2 with h2 | h2
      · rw [hb] at h2
        simp only [List.cons.injEq] at h2
        rw [h2.1]
        exact .inl rfl
      · rw [hb, varB, runB] at h2
        simp only [Bool.and_eq_true, decide_eq_true_eq] at h2
        exact .inr ⟨h2.1.1.2, h2.1.2⟩
/-- The first byte of a term. -/
theorem name_fst {l : List UInt8} (h : nameB l = true) (r : List UInt8) : 97 ≤ fst1 (l ++ r) ∧ fst1 (l ++ r) ≤ 122 := by
  match l with
  | [] => simp [nameB, runB] at h
  | c :: l =>
    simp only [nameB, runB, Bool.and_eq_true, decide_eq_true_eq] at h
    exact ⟨h.1.1.1.2, h.1.1.2⟩
theorem itoa_fst (n : Int) (r : List UInt8) : (n < 0 ∧ fst1 (Lib.itoa n ++ r) = 45) ∨ (0 ≤ n ∧ 48 ≤ fst1 (Lib.itoa n ++ r) ∧ fst1 (Lib.itoa n ++ r) ≤ 57) := by
  unfold Lib.itoa
  split
  · exact .inl ⟨by assumption, rfl⟩
  · exact .inr ⟨by omega, dec_fst _ _⟩
theorem term_inj {t u : Tm} {r s : List UInt8} (ht : tmOk t = true) (hu : tmOk u = true) (hr : stopB r = true) (hs : stopB s = true) (h : termL t ++ r = termL u ++ s) : t = u ∧ r = s := by
  have hf := congrArg fst1 h
  cases tmK ht with
  | var c l e1 l1 w1 f1 x1 =>
    cases tmK hu with
    | var c' l' e2 l2 w2 f2 x2 =>
      rw [l1, l2] at h
      obtain ⟨h1, h2⟩ := run_inj w1 w2 hr hs h
      exact ⟨tm_eq h1 (by rw [x1, x2]), h2⟩
    | num v2 k2 z2 l2 =>
      rw [l1, l2, e1] at hf
      have h2 := itoa_fst u.x.n s
      have hf' : c.toNat = fst1 (Lib.itoa u.x.n ++ s) := hf
      omega
    | nam v2 k2 n2 h2 l2 =>
      rw [l1, l2, e1] at hf
      have h3 := name_fst h2 s
      have hf' : c.toNat = fst1 (bl u.x.t ++ s) := hf
      omega
    | quo v2 k2 n2 l2 =>
      rw [l1, l2, e1, quoteL] at hf
      have hf' : c.toNat = 34 := hf
      omega
  | num v1 k1 z1 l1 =>
    have h1 := itoa_fst t.x.n r
    cases tmK hu with
    | var c' l' e2 l2 w2 f2 x2 =>
      rw [l1, l2, e2] at hf
      have hf' : fst1 (Lib.itoa t.x.n ++ r) = c'.toNat := hf
      omega
    | num v2 k2 z2 l2 =>
      rw [l1, l2] at h
      obtain ⟨h1, h2⟩ := itoa_inj hr hs h
      exact ⟨tm_eq (by rw [v1, v2]) (vl_eq (by rw [k1, k2]) h1 (by rw [z1, z2])), h2⟩
    | nam v2 k2 n2 h2 l2 =>
      rw [l1, l2] at hf
      have h3 := name_fst h2 s
      omega
    | quo v2 k2 n2 l2 =>
      rw [l1, l2, quoteL] at hf
      have hf' : fst1 (Lib.itoa t.x.n ++ r) = 34 := hf
      omega
  | nam v1 k1 n1 h1 l1 =>
    have h3 := name_fst h1 r
    cases tmK hu with
    | var c' l' e2 l2 w2 f2 x2 =>
      rw [l1, l2, e2] at hf
      have hf' : fst1 (bl t.x.t ++ r) = c'.toNat := hf
      omega
    | num v2 k2 z2 l2 =>
      rw [l1, l2] at hf
      have h2 := itoa_fst u.x.n s
      omega
    | nam v2 k2 n2 h2 l2 =>
      rw [l1, l2] at h
      obtain ⟨h4, h5⟩ := run_inj (name_words h1) (name_words h2) hr hs h
      exact ⟨tm_eq (by rw [v1, v2]) (vl_eq (by rw [k1, k2]) (by rw [n1, n2]) h4), h5⟩
    | quo v2 k2 n2 l2 =>
      rw [l1, l2, quoteL] at hf
      have hf' : fst1 (bl t.x.t ++ r) = 34 := hf
      omega
  | quo v1 k1 n1 l1 =>
    cases tmK hu with
    | var c' l' e2 l2 w2 f2 x2 =>
      rw [l1, l2, e2, quoteL] at hf
      have hf' : 34 = c'.toNat := hf
      omega
    | num v2 k2 z2 l2 =>
      rw [l1, l2, quoteL] at hf
      have h2 := itoa_fst u.x.n s
      have hf' : 34 = fst1 (Lib.itoa u.x.n ++ s) := hf
      omega
    | nam v2 k2 n2 h2 l2 =>
      rw [l1, l2, quoteL] at hf
      have h3 := name_fst h2 s
      have hf' : 34 = fst1 (bl u.x.t ++ s) := hf
      omega
    | quo v2 k2 n2 l2 =>
      rw [l1, l2] at h
      obtain ⟨h4, h5⟩ := quote_inj h
      exact ⟨tm_eq (by rw [v1, v2]) (vl_eq (by rw [k1, k2]) (by rw [n1, n2]) h4), h5⟩
open Go.RowKit

/-- An expression that may be: a term, a minus, a sign between two, a word with one in brackets. -/
inductive En where
  | tm (t : Tm)
  | ng (k : En)
  | bi (c : UInt8) (a b : En)
  | fn (w : List UInt8) (k : En)
def multB (c : UInt8) : Bool := c == 42 || c == 47 || c == 37
def addB (c : UInt8) : Bool := c == 43 || c == 45 || c == 38
def fnWs : List (List UInt8) := [[108, 101, 110], [99, 104, 97, 114, 115], [98, 97, 99, 107]]
def ophd (c : UInt8) : Nat := if multB c then 2 else 1
def En.hold : En → Nat
  | .tm _ => 4
  | .ng _ => 3
  | .bi c _ _ => ophd c
  | .fn _ _ => 4
def En.num : En → Bool
  | .tm t => (bl t.v).isEmpty && t.x.k == 1 && decide (0 ≤ t.x.n)
  | _ => false
def En.negq (e : En) : Bool := decide (e.hold < 3) || e.num
def En.txt : En → List UInt8
  | .tm t => termL t
  | .ng k => 45 :: sideL k.txt k.negq
  | .bi c a b => sideL a.txt (decide (a.hold < ophd c)) ++ (32 :: c :: 32 :: sideL b.txt (decide (b.hold ≤ ophd c)))
  | .fn w k => w ++ (40 :: (k.txt ++ [41]))
def En.ok : En → Prop
  | .tm t => tmOk t = true
  | .ng k => k.ok
  | .bi c a b => (multB c = true ∨ addB c = true) ∧ a.ok ∧ b.ok
  | .fn w k => w ∈ fnWs ∧ k.ok
def En.prim : En → Bool
  | .bi _ _ _ => false
  | _ => true
def En.size : En → Nat
  | .tm _ => 1
  | .ng k => k.size + 2
  | .bi _ a b => a.size + b.size + 2
  | .fn _ k => k.size + 2
theorem En.size_pos (e : En) : 1 ≤ e.size := by cases e <;> simp [En.size] <;> omega
theorem ophd_1 (c : UInt8) : 1 ≤ ophd c ∧ ophd c ≤ 2 := by unfold ophd; split <;> omega
theorem En.hold_1 (e : En) : 1 ≤ e.hold := by
  cases e with
  | tm t => simp [En.hold]
  | ng k => simp [En.hold]
  | bi c a b => exact (ophd_1 c).1
  | fn w k => simp [En.hold]
theorem En.hold_prim {e : En} (h : 3 ≤ e.hold) : e.prim = true := by
  cases e with
  | bi c a b => have := (ophd_1 c).2; simp only [En.hold] at h; omega
  | _ => rfl
/-- An expression, in brackets or not. -/
abbrev It := En × Bool
def itx (i : It) : List UInt8 := sideL i.1.txt i.2
def ItG (n : Nat) (i : It) : Prop := i.1.ok ∧ (i.2 = false → i.1.prim = true) ∧ i.1.size + (if i.2 then 1 else 0) ≤ n
theorem ItG.mono {n m : Nat} {i : It} (h : ItG n i) (hm : n ≤ m) : ItG m i := ⟨h.1, h.2.1, Nat.le_trans h.2.2 hm⟩
/-! Chains. -/
def chn {X : Type} (tx : X → List UInt8) (l : List (UInt8 × X)) : List UInt8 := l.flatMap fun x => 32 :: x.1 :: 32 :: tx x.2
theorem chn_cons {X : Type} (tx : X → List UInt8) (x : UInt8 × X) (l : List (UInt8 × X)) (r : List UInt8) : chn tx (x :: l) ++ r = 32 :: x.1 :: 32 :: (tx x.2 ++ (chn tx l ++ r)) := by
  simp [chn]
theorem chn_snoc {X : Type} (tx : X → List UInt8) (x : UInt8 × X) (l : List (UInt8 × X)) : chn tx (l ++ [x]) = chn tx l ++ (32 :: x.1 :: 32 :: tx x.2) := by
  simp [chn]
theorem chain_inj {X : Type} (tx : X → List UInt8) (S : UInt8 → Bool) (fol F : List UInt8 → Bool) (okX okY : X → Prop) (hFf : ∀ r, F r = true → fol r = true) (hop : ∀ c r, S c = true → fol (32 :: c :: r) = true) (hno : ∀ c r, S c = true → F (32 :: c :: r) = false)
    (hinj : ∀ x y r s, okX x → okY y → fol r = true → fol s = true → tx x ++ r = tx y ++ s → x = y ∧ r = s) :
    ∀ (l m : List (UInt8 × X)) (r s : List UInt8), (∀ x ∈ l, S x.1 = true ∧ okX x.2) → (∀ y ∈ m, S y.1 = true ∧ okY y.2) → F r = true → F s = true → chn tx l ++ r = chn tx m ++ s → l = m ∧ r = s
  | [], [], r, s, _, _, _, _, h => ⟨rfl, h⟩
  | [], y :: m, r, s, _, hm, hr, _, h => by
    rw [chn_cons] at h
    have e : r = 32 :: y.1 :: 32 :: (tx y.2 ++ (chn tx m ++ s)) := h
    rw [e, hno _ _ (hm y (by simp)).1] at hr
    cases hr
  | x :: l, [], r, s, hl, _, _, hs, h => by
    rw [chn_cons] at h
    have e : s = 32 :: x.1 :: 32 :: (tx x.2 ++ (chn tx l ++ r)) := h.symm
    rw [e, hno _ _ (hl x (by simp)).1] at hs
    cases hs
  | x :: l, y :: m, r, s, hl, hm, hr, hs, h => by
    rw [chn_cons, chn_cons] at h
    simp only [List.cons.injEq, true_and] at h
    have hf : ∀ (l : List (UInt8 × X)) (r : List UInt8), (∀ x ∈ l, S x.1 = true) → F r = true → fol (chn tx l ++ r) = true := by
      intro l r hl hr
      match l with
      | [] => exact hFf r hr
      | x :: l => rw [chn_cons]; exact hop _ _ (hl x (by simp))
    obtain ⟨h1, h2⟩ := hinj x.2 y.2 _ _ (hl x (by simp)).2 (hm y (by simp)).2 (hf l r (fun z hz => (hl z (by simp [hz])).1) hr) (hf m s (fun z hz => (hm z (by simp [hz])).1) hs) h.2
    obtain ⟨h3, h4⟩ := chain_inj tx S fol F okX okY hFf hop hno hinj l m r s (fun z hz => hl z (by simp [hz])) (fun z hz => hm z (by simp [hz])) hr hs h2
    exact ⟨by rw [h3, Prod.ext h.1 h1], h4⟩
/-! What may stand behind. -/
def opens (S : UInt8 → Bool) : List UInt8 → Bool
  | a :: c :: _ => a == 32 && S c
  | _ => false
def F2 (r : List UInt8) : Bool := stopB r && !opens multB r
def F1 (r : List UInt8) : Bool := stopB r && !opens (fun c => multB c || addB c) r
theorem F2_stop {r : List UInt8} (h : F2 r = true) : stopB r = true := by rw [F2, Bool.and_eq_true] at h; exact h.1
theorem F1_F2 {r : List UInt8} (h : F1 r = true) : F2 r = true := by
  match r with
  | [] => rfl
  | [a] => rw [F1, Bool.and_eq_true] at h; rw [F2, h.1]; rfl
  | a :: c :: r =>
    simp only [F1, F2, opens, Bool.and_eq_true, Bool.not_eq_true', Bool.and_eq_false_iff, Bool.or_eq_false_iff] at h ⊢
    refine ⟨h.1, ?_⟩
    rcases h.2 with h2 | h2
    · exact .inl h2
    · exact .inr h2.1
theorem add_not_mult {c : UInt8} (h : addB c = true) : multB c = false := by
  simp only [addB, Bool.or_eq_true, beq_iff_eq] at h
  rcases h with (rfl | rfl) | rfl <;> rfl
/-- The parts of an expression that hold together fast. -/
abbrev T2 := It × List (UInt8 × It)
def tx2 (t : T2) : List UInt8 := itx t.1 ++ chn itx t.2
def T2G (n : Nat) (t : T2) : Prop := ItG n t.1 ∧ ∀ x ∈ t.2, multB x.1 = true ∧ ItG n x.2
theorem T2G.mono {n m : Nat} {t : T2} (h : T2G n t) (hm : n ≤ m) : T2G m t := ⟨h.1.mono hm, fun x hx => ⟨(h.2 x hx).1, (h.2 x hx).2.mono hm⟩⟩
abbrev T1 := T2 × List (UInt8 × T2)
def tx1 (t : T1) : List UInt8 := tx2 t.1 ++ chn tx2 t.2
def T1G (n : Nat) (t : T1) : Prop := T2G n t.1 ∧ ∀ x ∈ t.2, addB x.1 = true ∧ T2G n x.2
theorem T1G.mono {n m : Nat} {t : T1} (h : T1G n t) (hm : n ≤ m) : T1G m t := ⟨h.1.mono hm, fun x hx => ⟨(h.2 x hx).1, (h.2 x hx).2.mono hm⟩⟩
def En.sp2 : En → T2
  | .bi c a b => if multB c then (a.sp2.1, a.sp2.2 ++ [(c, (b, decide (b.hold ≤ 2)))]) else ((.bi c a b, true), [])
  | .tm t => ((.tm t, false), [])
  | .ng k => ((.ng k, false), [])
  | .fn w k => ((.fn w k, false), [])
def En.sp1 : En → T1
  | .bi c a b => if multB c then ((En.bi c a b).sp2, []) else (a.sp1.1, a.sp1.2 ++ [(c, b.sp2)])
  | .tm t => ((En.tm t).sp2, [])
  | .ng k => ((En.ng k).sp2, [])
  | .fn w k => ((En.fn w k).sp2, [])
theorem sp2_txt : ∀ e : En, sideL e.txt (decide (e.hold < 2)) = tx2 e.sp2
  | .tm t => by simp [En.hold, En.sp2, tx2, chn, itx]
  | .ng k => by simp [En.hold, En.sp2, tx2, chn, itx]
  | .fn w k => by simp [En.hold, En.sp2, tx2, chn, itx]
  | .bi c a b => by
    rw [En.sp2]
    split
    · rename_i h
      have h1 : ophd c = 2 := by unfold ophd; rw [if_pos h]
      have ih := sp2_txt a
      simp only [tx2] at ih ⊢
      rw [chn_snoc, ← List.append_assoc, ← ih]
      have e0 : decide ((En.bi c a b).hold < 2) = false := decide_eq_false (by simp [En.hold, h1])
      rw [e0]
      show (En.bi c a b).txt = _
      rw [En.txt, h1]
      rfl
    · rename_i h
      have h1 : ophd c = 1 := by unfold ophd; rw [if_neg h]
      simp [En.hold, h1, tx2, chn, itx]
theorem sp1_txt : ∀ e : En, e.txt = tx1 e.sp1
  | .tm t => by simp [En.sp1, tx1, ← sp2_txt, En.hold, sideL, chn]
  | .ng k => by simp [En.sp1, tx1, ← sp2_txt, En.hold, sideL, chn]
  | .fn w k => by simp [En.sp1, tx1, ← sp2_txt, En.hold, sideL, chn]
  | .bi c a b => by
    rw [En.sp1]
    split
    · rename_i h
      have h1 : ophd c = 2 := by unfold ophd; rw [if_pos h]
      simp [tx1, ← sp2_txt, En.hold, h1, sideL, chn]
    · rename_i h
      have h1 : ophd c = 1 := by unfold ophd; rw [if_neg h]
      have ih := sp1_txt a
      have ha := a.hold_1
      simp only [tx1] at ih ⊢
      rw [chn_snoc, ← List.append_assoc, ← ih, ← sp2_txt, En.txt, h1]
      have e1 : decide (a.hold < 1) = false := decide_eq_false (by omega)
      have e2 : decide (b.hold ≤ 1) = decide (b.hold < 2) := by
        by_cases hb : b.hold < 2
        · rw [decide_eq_true hb, decide_eq_true (by omega)]
        · rw [decide_eq_false hb, decide_eq_false (by omega)]
      rw [e1, e2]
      rfl
def un2 (t : T2) : En := t.2.foldl (fun acc x => .bi x.1 acc x.2.1) t.1.1
def un1 (t : T1) : En := t.2.foldl (fun acc x => .bi x.1 acc (un2 x.2)) (un2 t.1)
theorem un2_sp2 : ∀ e : En, un2 e.sp2 = e
  | .tm t => rfl
  | .ng k => rfl
  | .fn w k => rfl
  | .bi c a b => by
    rw [En.sp2]
    split
    · have ih := un2_sp2 a
      simp only [un2] at ih ⊢
      rw [List.foldl_append, ih]
      rfl
    · rfl
theorem un1_sp1 : ∀ e : En, un1 e.sp1 = e
  | .tm t => rfl
  | .ng k => rfl
  | .fn w k => rfl
  | .bi c a b => by
    rw [En.sp1]
    split
    · exact un2_sp2 _
    · have ih := un1_sp1 a
      simp only [un1] at ih ⊢
      rw [List.foldl_append, ih]
      simp only [List.foldl_cons, List.foldl_nil]
      rw [un2_sp2]
theorem sp2_ok : ∀ e : En, e.ok → T2G (e.size + 1) e.sp2 ∧ (2 ≤ e.hold → T2G e.size e.sp2)
  | .tm t, h => ⟨⟨⟨h, fun _ => rfl, by simp [En.size, En.sp2]⟩, fun x hx => by simp [En.sp2] at hx⟩, fun _ => ⟨⟨h, fun _ => rfl, by simp [En.size, En.sp2]⟩, fun x hx => by simp [En.sp2] at hx⟩⟩
  | .ng k, h => ⟨⟨⟨h, fun _ => rfl, by simp [En.size, En.sp2]⟩, fun x hx => by simp [En.sp2] at hx⟩, fun _ => ⟨⟨h, fun _ => rfl, by simp [En.size, En.sp2]⟩, fun x hx => by simp [En.sp2] at hx⟩⟩
  | .fn w k, h => ⟨⟨⟨h, fun _ => rfl, by simp [En.size, En.sp2]⟩, fun x hx => by simp [En.sp2] at hx⟩, fun _ => ⟨⟨h, fun _ => rfl, by simp [En.size, En.sp2]⟩, fun x hx => by simp [En.sp2] at hx⟩⟩
  | .bi c a b, h => by
    have ha := (sp2_ok a h.2.1).1
    rw [En.sp2]
    split
    · rename_i hc
      have h1 : T2G (En.bi c a b).size (a.sp2.1, a.sp2.2 ++ [(c, (b, decide (b.hold ≤ 2)))]) := by
        have ha' := ha.mono (m := (En.bi c a b).size) (by simp only [En.size]; have := b.size_pos; omega)
        refine ⟨ha'.1, fun x hx => ?_⟩
        rcases List.mem_append.1 hx with hx | hx
        · exact ha'.2 x hx
        · obtain rfl := List.mem_singleton.1 hx
          refine ⟨hc, h.2.2, fun hb => En.hold_prim ?_, ?_⟩
          · have hb' : decide (b.hold ≤ 2) = false := hb
            have := of_decide_eq_false hb'
            show 3 ≤ b.hold
            omega
          · simp only [En.size]
            have := a.size_pos
            split <;> omega
      exact ⟨h1.mono (by omega), fun _ => h1⟩
    · rename_i hc
      refine ⟨⟨⟨h, fun hb => by simp at hb, by simp⟩, fun x hx => by simp at hx⟩, fun h2 => ?_⟩
      simp only [En.hold, ophd, if_neg hc] at h2
      omega
theorem sp1_ok : ∀ e : En, e.ok → T1G e.size e.sp1
  | .tm t, h => ⟨(sp2_ok (.tm t) h).2 (by simp [En.hold]), fun x hx => by simp [En.sp1] at hx⟩
  | .ng k, h => ⟨(sp2_ok (.ng k) h).2 (by simp [En.hold]), fun x hx => by simp [En.sp1] at hx⟩
  | .fn w k, h => ⟨(sp2_ok (.fn w k) h).2 (by simp [En.hold]), fun x hx => by simp [En.sp1] at hx⟩
  | .bi c a b, h => by
    rw [En.sp1]
    split
    · rename_i hc
      exact ⟨(sp2_ok (.bi c a b) h).2 (by simp [En.hold, ophd, hc]), fun x hx => by simp at hx⟩
    · rename_i hc
      have ha := (sp1_ok a h.2.1).mono (m := (En.bi c a b).size) (by simp only [En.size]; omega)
      have hb := (sp2_ok b h.2.2).1.mono (m := (En.bi c a b).size) (by simp only [En.size]; have := a.size_pos; omega)
      refine ⟨ha.1, fun x hx => ?_⟩
      rcases List.mem_append.1 hx with hx | hx
      · exact ha.2 x hx
      · obtain rfl := List.mem_singleton.1 hx
        exact ⟨h.1.resolve_left hc, hb⟩
open Go.RowKit

def ItsI (n : Nat) : Prop := ∀ i j r s, ItG n i → (∃ m, ItG m j) → stopB r = true → stopB s = true → itx i ++ r = itx j ++ s → i = j ∧ r = s
def ExsI (n : Nat) : Prop := ∀ e f r s, En.ok e → En.ok f → e.size ≤ n → F1 r = true → F1 s = true → e.txt ++ r = f.txt ++ s → e = f ∧ r = s
theorem chn_stop {X : Type} (tx : X → List UInt8) (l : List (UInt8 × X)) {r : List UInt8} (h : stopB r = true) : stopB (chn tx l ++ r) = true := by
  match l with
  | [] => exact h
  | x :: l => rw [chn_cons]; rfl
theorem F2_mult (c : UInt8) (r : List UInt8) (h : multB c = true) : F2 (32 :: c :: r) = false := by
  simp [F2, opens, h]
theorem F2_add (c : UInt8) (r : List UInt8) (h : addB c = true) : F2 (32 :: c :: r) = true := by
  have h1 := add_not_mult h
  simp only [F2, opens, h1]
  rfl
theorem F1_add (c : UInt8) (r : List UInt8) (h : addB c = true) : F1 (32 :: c :: r) = false := by
  simp [F1, opens, h]
theorem chn_F2 {X : Type} (tx : X → List UInt8) {l : List (UInt8 × X)} (hl : ∀ x ∈ l, addB x.1 = true) {r : List UInt8} (h : F1 r = true) : F2 (chn tx l ++ r) = true := by
  match l with
  | [] => exact F1_F2 h
  | x :: l => rw [chn_cons]; exact F2_add _ _ (hl x (by simp))
theorem F1_br (r : List UInt8) : F1 (41 :: r) = true := by cases r <;> rfl
theorem t2_inj {n : Nat} (hq : ItsI n) (t u : T2) (r s : List UInt8) (ht : T2G n t) (hu : ∃ m, T2G m u) (hr : F2 r = true) (hs : F2 s = true) (h : tx2 t ++ r = tx2 u ++ s) : t = u ∧ r = s := by
  obtain ⟨m, hu⟩ := hu
  rw [tx2, tx2, List.append_assoc, List.append_assoc] at h
  obtain ⟨h1, h2⟩ := hq _ _ _ _ ht.1 ⟨m, hu.1⟩ (chn_stop itx _ (F2_stop hr)) (chn_stop itx _ (F2_stop hs)) h
  obtain ⟨h3, h4⟩ := chain_inj itx multB stopB F2 (ItG n) (fun j => ∃ m, ItG m j) (fun r h => F2_stop h) (fun c r _ => rfl) (fun c r h => F2_mult c r h) hq t.2 u.2 r s ht.2 (fun y hy => ⟨(hu.2 y hy).1, m, (hu.2 y hy).2⟩) hr hs h2
  exact ⟨Prod.ext h1 h3, h4⟩
theorem t1_inj {n : Nat} (hq : ItsI n) (t u : T1) (r s : List UInt8) (ht : T1G n t) (hu : ∃ m, T1G m u) (hr : F1 r = true) (hs : F1 s = true) (h : tx1 t ++ r = tx1 u ++ s) : t = u ∧ r = s := by
  obtain ⟨m, hu⟩ := hu
  rw [tx1, tx1, List.append_assoc, List.append_assoc] at h
  obtain ⟨h1, h2⟩ := t2_inj hq _ _ _ _ ht.1 ⟨m, hu.1⟩ (chn_F2 tx2 (fun x hx => (ht.2 x hx).1) hr) (chn_F2 tx2 (fun x hx => (hu.2 x hx).1) hs) h
  obtain ⟨h3, h4⟩ := chain_inj tx2 addB F2 F1 (T2G n) (fun j => ∃ m, T2G m j) (fun r h => F1_F2 h) F2_add F1_add (fun x y r s hx hy hr hs h => t2_inj hq x y r s hx hy hr hs h) t.2 u.2 r s ht.2 (fun y hy => ⟨(hu.2 y hy).1, m, (hu.2 y hy).2⟩) hr hs h2
  exact ⟨Prod.ext h1 h3, h4⟩
theorem exs_of_its {n : Nat} (hq : ItsI n) : ExsI n := by
  intro e f r s he hf hn hr hs h
  rw [sp1_txt e, sp1_txt f] at h
  obtain ⟨h1, h2⟩ := t1_inj hq _ _ _ _ ((sp1_ok e he).mono hn) ⟨_, sp1_ok f hf⟩ hr hs h
  have h3 := congrArg un1 h1
  rw [un1_sp1, un1_sp1] at h3
  exact ⟨h3, h2⟩
theorem fn_words {w : List UInt8} (h : w ∈ fnWs) : w.all wordB = true ∧ nameB w = false := by
  simp only [fnWs, List.mem_cons, List.not_mem_nil, or_false] at h
  rcases h with rfl | rfl | rfl <;> exact ⟨by decide, by decide⟩
theorem fn_fst {w : List UInt8} (h : w ∈ fnWs) (r : List UInt8) : fst1 (w ++ r) = 108 ∨ fst1 (w ++ r) = 99 ∨ fst1 (w ++ r) = 98 := by
  simp only [fnWs, List.mem_cons, List.not_mem_nil, or_false] at h
  rcases h with rfl | rfl | rfl
  · exact .inl rfl
  · exact .inr (.inl rfl)
  · exact .inr (.inr rfl)
/-- How a term begins. -/
theorem tm_fst {t : Tm} (h : tmOk t = true) (r : List UInt8) :
    (fst1 (termL t ++ r) = 95 ∨ (65 ≤ fst1 (termL t ++ r) ∧ fst1 (termL t ++ r) ≤ 90)) ∨ (bl t.v = [] ∧ t.x.k = 1 ∧ termL t = Lib.itoa t.x.n ∧ ((t.x.n < 0 ∧ fst1 (termL t ++ r) = 45) ∨ (0 ≤ t.x.n ∧ 48 ≤ fst1 (termL t ++ r) ∧ fst1 (termL t ++ r) ≤ 57))) ∨
      (termL t = bl t.x.t ∧ nameB (bl t.x.t) = true ∧ 97 ≤ fst1 (termL t ++ r) ∧ fst1 (termL t ++ r) ≤ 122) ∨ fst1 (termL t ++ r) = 34 := by
  cases tmK h with
  | var c l e1 l1 w1 f1 x1 => left; rw [l1, e1]; exact f1
  | num v k z l => right; left; exact ⟨v, k, l, by rw [l]; exact itoa_fst _ _⟩
  | nam v k n hn l => right; right; left; exact ⟨l, hn, by rw [l]; exact (name_fst hn r).1, by rw [l]; exact (name_fst hn r).2⟩
  | quo v k n l => right; right; right; rw [l]; rfl
theorem prim_fst {f : En} (hf : f.ok) (hp : f.prim = true) (s : List UInt8) : fst1 (f.txt ++ s) ≠ 40 := by
  cases f with
  | tm t =>
    have h := tm_fst (t := t) hf s
    show fst1 (termL t ++ s) ≠ 40
    omega
  | ng k => exact (by decide : (45 : Nat) ≠ 40)
  | bi c a b => cases hp
  | fn w k =>
    have h := fn_fst hf.1 (40 :: (k.txt ++ [41]) ++ s)
    have e : (En.fn w k).txt ++ s = w ++ (40 :: (k.txt ++ [41]) ++ s) := by simp [En.txt]
    rw [e]
    omega
theorem neg_fst {k : En} (hk : k.ok) (s : List UInt8) : ¬ (48 ≤ fst1 (sideL k.txt k.negq ++ s) ∧ fst1 (sideL k.txt k.negq ++ s) ≤ 57) := by
  rcases hq : k.negq with _ | _
  · show ¬ (48 ≤ fst1 (k.txt ++ s) ∧ fst1 (k.txt ++ s) ≤ 57)
    simp only [En.negq, Bool.or_eq_false_iff, decide_eq_false_iff_not] at hq
    cases k with
    | tm t =>
      have h := tm_fst (t := t) hk s
      show ¬ (48 ≤ fst1 (termL t ++ s) ∧ fst1 (termL t ++ s) ≤ 57)
      rcases h with h | h | h | h
      · omega
      · have h1 : ¬ 0 ≤ t.x.n := by
          intro h0
          have h2 := hq.2
          simp [En.num, h.1, h.2.1, h0] at h2
        omega
      · omega
      · omega
    | ng k => exact (by decide : ¬ (48 ≤ (45 : Nat) ∧ (45 : Nat) ≤ 57))
    | bi c a b =>
      have := (ophd_1 c).2
      simp only [En.hold] at hq
      omega
    | fn w k =>
      have h := fn_fst hk.1 (40 :: (k.txt ++ [41]) ++ s)
      have e : (En.fn w k).txt ++ s = w ++ (40 :: (k.txt ++ [41]) ++ s) := by simp [En.txt]
      rw [e]
      omega
  · exact (by decide : ¬ (48 ≤ (40 : Nat) ∧ (40 : Nat) ≤ 57))
theorem negq_it {n : Nat} {k : En} (hk : k.ok) (hn : k.size + 1 ≤ n) : ItG n (k, k.negq) := by
  refine ⟨hk, fun hq => En.hold_prim ?_, ?_⟩
  · have hq' : k.negq = false := hq
    simp only [En.negq, Bool.or_eq_false_iff, decide_eq_false_iff_not] at hq'
    show 3 ≤ k.hold
    omega
  · show k.size + (if k.negq then 1 else 0) ≤ n
    split <;> omega
theorem tm_ng {t : Tm} {k : En} {r s : List UInt8} (ht : tmOk t = true) (hk : k.ok) (h : termL t ++ r = 45 :: (sideL k.txt k.negq ++ s)) : False := by
  have hf : fst1 (termL t ++ r) = 45 := by rw [h]; rfl
  rcases tm_fst ht r with h1 | h1 | h1 | h1
  · omega
  · obtain ⟨_, _, hl, h2⟩ := h1
    have hn : t.x.n < 0 := by omega
    rw [hl, Lib.itoa, if_pos hn] at h
    simp only [List.cons_append, List.cons.injEq, true_and] at h
    have h3 := dec_fst t.x.n.natAbs r
    rw [h] at h3
    exact neg_fst hk s h3
  · omega
  · omega
theorem tm_fn {t : Tm} {w r s : List UInt8} (ht : tmOk t = true) (hw : w ∈ fnWs) (hr : stopB r = true) (h : termL t ++ r = w ++ (40 :: s)) : False := by
  have hf := congrArg fst1 h
  have hw2 := fn_fst hw (40 :: s)
  rcases tm_fst ht r with h1 | h1 | h1 | h1
  · omega
  · omega
  · obtain ⟨hl, hn, _⟩ := h1
    rw [hl] at h
    obtain ⟨h2, _⟩ := run_inj (name_words hn) (fn_words hw).1 hr rfl h
    rw [h2, (fn_words hw).2] at hn
    cases hn
  · omega
theorem fn_txt (w : List UInt8) (k : En) (r : List UInt8) : (En.fn w k).txt ++ r = w ++ (40 :: (k.txt ++ (41 :: r))) := by simp [En.txt]
theorem its_step {n : Nat} (hp : ExsI n) (hq : ItsI n) : ItsI (n + 1) := by
  intro i j r s hi hj hr hs h
  obtain ⟨m, hj⟩ := hj
  obtain ⟨e, b⟩ := i
  obtain ⟨f, b'⟩ := j
  obtain ⟨he, hpe, hse⟩ := hi
  obtain ⟨hf, hpf, _⟩ := hj
  simp only at he hpe hse hf hpf
  cases b
  case true =>
    cases b'
    case true =>
      have h1 : e.txt ++ (41 :: r) = f.txt ++ (41 :: s) := by
        simp only [itx, sideL, if_true, List.cons_append, List.append_assoc, List.cons.injEq, true_and, List.nil_append] at h
        exact h
      obtain ⟨h2, h3⟩ := hp e f _ _ he hf (by simp at hse; omega) (F1_br r) (F1_br s) h1
      exact ⟨by rw [h2], by simpa using h3⟩
    case false =>
      have h1 : fst1 (f.txt ++ s) = 40 := (congrArg fst1 h).symm
      exact absurd h1 (prim_fst hf (hpf rfl) s)
  case false =>
    cases b'
    case true =>
      have h1 : fst1 (e.txt ++ r) = 40 := congrArg fst1 h
      exact absurd h1 (prim_fst he (hpe rfl) r)
    case false =>
      have h1 : e.txt ++ r = f.txt ++ s := h
      have key : e = f ∧ r = s := by
        cases e with
        | bi c a b => cases hpe rfl
        | tm t =>
          cases f with
          | bi c a b => cases hpf rfl
          | tm u =>
            obtain ⟨h2, h3⟩ := term_inj he hf hr hs h1
            exact ⟨by rw [h2], h3⟩
          | ng k => exact (tm_ng (k := k) he hf h1).elim
          | fn w k =>
            rw [fn_txt] at h1
            exact (tm_fn he hf.1 hr h1).elim
        | ng k =>
          cases f with
          | bi c a b => cases hpf rfl
          | tm u => exact (tm_ng (k := k) hf he h1.symm).elim
          | ng k' =>
            have h2 : sideL k.txt k.negq ++ r = sideL k'.txt k'.negq ++ s := by
              simp only [En.txt, List.cons_append, List.cons.injEq, true_and] at h1
              exact h1
            have hn : k.size + 1 ≤ n := by simp [En.size] at hse; omega
            obtain ⟨h3, h4⟩ := hq (k, k.negq) (k', k'.negq) r s (negq_it he hn) ⟨k'.size + 1, negq_it hf (Nat.le_refl _)⟩ hr hs h2
            exact ⟨by rw [(Prod.mk.inj h3).1], h4⟩
          | fn w k' =>
            rw [fn_txt] at h1
            have h2 : 45 = fst1 (w ++ (40 :: (k'.txt ++ (41 :: s)))) := congrArg fst1 h1
            have h3 := fn_fst hf.1 (40 :: (k'.txt ++ (41 :: s)))
            omega
        | fn w k =>
          rw [fn_txt] at h1
          cases f with
          | bi c a b => cases hpf rfl
          | tm u => exact (tm_fn hf he.1 hs h1.symm).elim
          | ng k' =>
            have h2 : fst1 (w ++ (40 :: (k.txt ++ (41 :: r)))) = 45 := congrArg fst1 h1
            have h3 := fn_fst he.1 (40 :: (k.txt ++ (41 :: r)))
            omega
          | fn w' k' =>
            rw [fn_txt] at h1
            obtain ⟨h2, h3⟩ := run_inj (fn_words he.1).1 (fn_words hf.1).1 rfl rfl h1
            simp only [List.cons.injEq, true_and] at h3
            obtain ⟨h4, h5⟩ := hp k k' _ _ he.2 hf.2 (by simp [En.size] at hse; omega) (F1_br r) (F1_br s) h3
            exact ⟨by rw [h2, h4], by simpa using h5⟩
      exact ⟨by rw [key.1], key.2⟩
theorem its_all : ∀ n, ItsI n
  | 0 => fun i j r s hi _ _ _ _ => by
    have := hi.2.2
    have := i.1.size_pos
    omega
  | n + 1 => its_step (exs_of_its (its_all n)) (its_all n)
/-- Two expressions that have one text are the same. -/
theorem en_inj {e f : En} {r s : List UInt8} (he : e.ok) (hf : f.ok) (hr : F1 r = true) (hs : F1 s = true) (h : e.txt ++ r = f.txt ++ s) : e = f ∧ r = s :=
  exs_of_its (its_all e.size) e f r s he hf (Nat.le_refl _) hr hs h
open Go.RowKit

def sgB (op : Int) : UInt8 := (bl (signL.getD op.toNat ⟨#[]⟩)).headD 0
def wdB (op : Int) : List UInt8 := bl (wordL.getD op.toNat ⟨#[]⟩)
def toEn : (d : Nat) → Ex d → En
  | 0, e => nomatch e
  | d + 1, e => if e.1 = 0 then .tm e.2.1 else match e.2.2.2 with
    | [k] => if e.1 = 1 then .ng (toEn d k) else .fn (wdB e.1) (toEn d k)
    | [a, b] => .bi (sgB e.1) (toEn d a) (toEn d b)
    | _ => .tm e.2.1
theorem ops6 {op : Int} (h1 : 2 ≤ op) (h2 : op ≤ 7) : op = 2 ∨ op = 3 ∨ op = 4 ∨ op = 5 ∨ op = 6 ∨ op = 7 := by omega
theorem ops3 {op : Int} (h1 : 8 ≤ op) (h2 : op ≤ 10) : op = 8 ∨ op = 9 ∨ op = 10 := by omega
theorem sg_is {op : Int} (h1 : 2 ≤ op) (h2 : op ≤ 7) : bl (signL.getD op.toNat ⟨#[]⟩) = [sgB op] ∧ (multB (sgB op) = true ∨ addB (sgB op) = true) ∧ holdI op = (ophd (sgB op) : Int) := by
  rcases ops6 h1 h2 with rfl | rfl | rfl | rfl | rfl | rfl <;> exact ⟨rfl, by decide, by decide⟩
theorem sg_inj {a b : Int} (h1 : 2 ≤ a) (h2 : a ≤ 7) (h3 : 2 ≤ b) (h4 : b ≤ 7) (h : sgB a = sgB b) : a = b := by
  rcases ops6 h1 h2 with rfl | rfl | rfl | rfl | rfl | rfl <;> rcases ops6 h3 h4 with rfl | rfl | rfl | rfl | rfl | rfl <;> first | rfl | exact absurd h (by decide)
theorem wd_is {op : Int} (h1 : 8 ≤ op) (h2 : op ≤ 10) : wdB op ∈ fnWs ∧ holdI op = 4 := by
  rcases ops3 h1 h2 with rfl | rfl | rfl <;> exact ⟨by decide, by decide⟩
theorem wd_inj {a b : Int} (h1 : 8 ≤ a) (h2 : a ≤ 10) (h3 : 8 ≤ b) (h4 : b ≤ 10) (h : wdB a = wdB b) : a = b := by
  rcases ops3 h1 h2 with rfl | rfl | rfl <;> rcases ops3 h3 h4 with rfl | rfl | rfl <;> first | rfl | exact absurd h (by decide)
theorem tm_zero {t : Tm} (h : tmZero t = true) : t = ⟨⟨#[]⟩, ⟨0, 0, ⟨#[]⟩⟩⟩ := by
  rw [tmZero, Bool.and_eq_true, List.isEmpty_iff] at h
  exact tm_eq h.1 (vl_zero h.2)
/-- What stands in an expression that may be. -/
inductive ExK (n d : Nat) (e : Ex (d + 1)) : Prop where
  | tm (o : e.1 = 0) (t : tmOk e.2.1 = true) (k : e.2.2.2 = [])
  | ng (o : e.1 = 1) (t : tmZero e.2.1 = true) (k : Ex d) (hk : e.2.2.2 = [k]) (h : exOk n d k = true)
  | fn (o1 : 8 ≤ e.1) (o2 : e.1 ≤ 10) (t : tmZero e.2.1 = true) (k : Ex d) (hk : e.2.2.2 = [k]) (h : exOk n d k = true)
  | bi (o1 : 2 ≤ e.1) (o2 : e.1 ≤ 7) (t : tmZero e.2.1 = true) (a b : Ex d) (hk : e.2.2.2 = [a, b]) (ha : exOk n d a = true) (hb : exOk n d b = true)
theorem exK {n d : Nat} {e : Ex (d + 1)} (h : exOk (n + 1) (d + 1) e = true) : ExK n d e := by
  rw [exOk] at h
  by_cases h0 : e.1 = 0
  · rw [if_pos h0, Bool.and_eq_true, List.isEmpty_iff, solidB, Bool.and_eq_true] at h
    exact .tm h0 h.2.2 h.1
  · rw [if_neg h0] at h
    simp only [Bool.and_eq_true, decide_eq_true_eq] at h
    obtain ⟨⟨hz, hl⟩, ha⟩ := h
    have hall := fun k hk => List.all_eq_true.1 ha k hk
    unfold arityI at hl
    split at hl
    · rename_i ho
      match hk : e.2.2.2 with
      | [] => rw [hk] at hl; simp at hl
      | [k] =>
        have hok := hall k (by rw [hk]; simp)
        by_cases h1 : e.1 = 1
        · exact .ng h1 hz k hk hok
        · exact .fn (by omega) (by omega) hz k hk hok
      | a :: b :: r => rw [hk] at hl; simp at hl; omega
    · split at hl
      · rename_i ho
        match hk : e.2.2.2 with
        | [] => rw [hk] at hl; simp at hl
        | [k] => rw [hk] at hl; simp at hl
        | [a, b] => exact .bi ho.1 ho.2 hz a b hk (hall a (by rw [hk]; simp)) (hall b (by rw [hk]; simp))
        | a :: b :: c :: r => rw [hk] at hl; simp at hl; omega
      · omega
theorem toEn_tm {d : Nat} {e : Ex (d + 1)} (o : e.1 = 0) : toEn (d + 1) e = .tm e.2.1 := by rw [toEn, if_pos o]
theorem toEn_ng {d : Nat} {e : Ex (d + 1)} {k : Ex d} (o : e.1 = 1) (hk : e.2.2.2 = [k]) : toEn (d + 1) e = .ng (toEn d k) := by
  rw [toEn, if_neg (by omega), hk]
  simp only
  rw [if_pos o]
theorem toEn_fn {d : Nat} {e : Ex (d + 1)} {k : Ex d} (o : 8 ≤ e.1) (hk : e.2.2.2 = [k]) : toEn (d + 1) e = .fn (wdB e.1) (toEn d k) := by
  rw [toEn, if_neg (by omega), hk]
  simp only
  rw [if_neg (by omega)]
theorem toEn_bi {d : Nat} {e : Ex (d + 1)} {a b : Ex d} (o : 2 ≤ e.1) (hk : e.2.2.2 = [a, b]) : toEn (d + 1) e = .bi (sgB e.1) (toEn d a) (toEn d b) := by
  rw [toEn, if_neg (by omega), hk]
theorem exprK_one {d : Nat} {e : Ex (d + 1)} {k : Ex d} (o : e.1 ≠ 0) (hk : e.2.2.2 = [k]) : exprL (d + 1) e = if e.1 = 1 then 45 :: sideL (exprL d k) (negB (exOp d k) (exTm d k)) else wdB e.1 ++ sideL (exprL d k) true := by
  rw [exprL, if_neg o, hk]
  rfl
theorem exprK_two {d : Nat} {e : Ex (d + 1)} {a b : Ex d} (o : e.1 ≠ 0) (hk : e.2.2.2 = [a, b]) : exprL (d + 1) e = sideL (exprL d a) (decide (holdI (exOp d a) < holdI e.1)) ++ (32 :: (bl (signL.getD e.1.toNat ⟨#[]⟩) ++ [32])) ++ sideL (exprL d b) (decide (holdI (exOp d b) ≤ holdI e.1)) := by
  rw [exprL, if_neg o, hk]
theorem toEn_all : ∀ (n d : Nat) (e : Ex d), exOk n d e = true → (toEn d e).ok ∧ exprL d e = (toEn d e).txt ∧ holdI (exOp d e) = ((toEn d e).hold : Int) ∧ negB (exOp d e) (exTm d e) = (toEn d e).negq
  | _, 0, e, _ => nomatch e
  | 0, d + 1, e, h => by simp [exOk] at h
  | n + 1, d + 1, e, h => by
    have hop : exOp (d + 1) e = e.1 := rfl
    have htm : exTm (d + 1) e = e.2.1 := rfl
    have h3 : holdI 1 = 3 := by decide
    rw [hop, htm]
    cases exK h with
    | tm o t k =>
      have h4 : holdI 0 = 4 := by decide
      rw [toEn_tm o]
      refine ⟨t, by rw [exprL, if_pos o]; rfl, by rw [o, h4]; rfl, ?_⟩
      rw [o]
      simp only [negB, En.negq, En.num, En.hold, h3, h4]
      simp
    | ng o t k hk hok =>
      obtain ⟨i1, i2, i3, i4⟩ := toEn_all n d k hok
      rw [toEn_ng o hk, exprK_one (by omega) hk, if_pos o, i2, i4]
      refine ⟨i1, rfl, by rw [o, h3]; rfl, ?_⟩
      rw [o]
      simp [negB, En.negq, En.num, En.hold, h3]
    | fn o1 o2 t k hk hok =>
      obtain ⟨i1, i2, i3, i4⟩ := toEn_all n d k hok
      obtain ⟨w1, w2⟩ := wd_is o1 o2
      rw [toEn_fn o1 hk, exprK_one (by omega) hk, if_neg (by omega), i2]
      refine ⟨⟨w1, i1⟩, rfl, by rw [w2]; rfl, ?_⟩
      have q0 : (e.1 == 0) = false := beq_eq_false_iff_ne.2 (by omega)
      simp [negB, En.negq, En.num, En.hold, h3, w2, q0]
    | bi o1 o2 t a b hk hoa hob =>
      obtain ⟨i1, i2, i3, i4⟩ := toEn_all n d a hoa
      obtain ⟨j1, j2, j3, j4⟩ := toEn_all n d b hob
      obtain ⟨s1, s2, s3⟩ := sg_is o1 o2
      have hp := ophd_1 (sgB e.1)
      rw [toEn_bi o1 hk, exprK_two (by omega) hk, i2, j2, i3, j3, s1, s3]
      refine ⟨⟨s2, i1, j1⟩, ?_, rfl, ?_⟩
      · have e1 : decide (((toEn d a).hold : Int) < (ophd (sgB e.1) : Int)) = decide ((toEn d a).hold < ophd (sgB e.1)) := by simp
        have e2 : decide (((toEn d b).hold : Int) ≤ (ophd (sgB e.1) : Int)) = decide ((toEn d b).hold ≤ ophd (sgB e.1)) := by simp
        rw [e1, e2, En.txt]
        simp
      · have q0 : (e.1 == 0) = false := beq_eq_false_iff_ne.2 (by omega)
        simp only [negB, En.negq, En.num, En.hold, h3, s3, q0, Bool.false_and, Bool.or_false]
        rw [decide_eq_true (show ((ophd (sgB e.1) : Nat) : Int) < 3 by omega)]
        exact (decide_eq_true (show ophd (sgB e.1) < 3 by omega)).symm
theorem toEn_alike : ∀ (n m d : Nat) (e f : Ex d), exOk n d e = true → exOk m d f = true → toEn d e = toEn d f → Alike d e f
  | _, _, 0, e, _, _, _, _ => nomatch e
  | 0, _, d + 1, e, _, h, _, _ => by simp [exOk] at h
  | _ + 1, 0, d + 1, _, f, _, h, _ => by simp [exOk] at h
  | n + 1, m + 1, d + 1, e, f, he, hf, h => by
    cases exK he with
    | tm o t k =>
      rw [toEn_tm o] at h
      cases exK hf with
      | tm o' t' k' =>
        rw [toEn_tm o', En.tm.injEq] at h
        exact ⟨by rw [o, o'], h, by rw [k, k'], fun i hi => by rw [k] at hi; simp at hi⟩
      | ng o' t' x hx hok => rw [toEn_ng o' hx] at h; cases h
      | fn o1 o2 t' x hx hok => rw [toEn_fn o1 hx] at h; cases h
      | bi o1 o2 t' x y hx hok1 hok2 => rw [toEn_bi o1 hx] at h; cases h
    | ng o t k hk hok =>
      rw [toEn_ng o hk] at h
      cases exK hf with
      | tm o' t' k' => rw [toEn_tm o'] at h; cases h
      | ng o' t' x hx hok' =>
        rw [toEn_ng o' hx, En.ng.injEq] at h
        have ih := toEn_alike n m d k x hok hok' h
        refine ⟨by rw [o, o'], by rw [tm_zero t, tm_zero t'], by rw [hk, hx]; rfl, fun i hi hi' => ?_⟩
        simp only [hk, hx] at hi hi' ⊢
        obtain rfl : i = 0 := by simpa using hi
        exact ih
      | fn o1 o2 t' x hx hok' => rw [toEn_fn o1 hx] at h; cases h
      | bi o1 o2 t' x y hx hok1 hok2 => rw [toEn_bi o1 hx] at h; cases h
    | fn o1 o2 t k hk hok =>
      rw [toEn_fn o1 hk] at h
      cases exK hf with
      | tm o' t' k' => rw [toEn_tm o'] at h; cases h
      | ng o' t' x hx hok' => rw [toEn_ng o' hx] at h; cases h
      | fn p1 p2 t' x hx hok' =>
        rw [toEn_fn p1 hx, En.fn.injEq] at h
        have ih := toEn_alike n m d k x hok hok' h.2
        refine ⟨wd_inj o1 o2 p1 p2 h.1, by rw [tm_zero t, tm_zero t'], by rw [hk, hx]; rfl, fun i hi hi' => ?_⟩
        simp only [hk, hx] at hi hi' ⊢
        obtain rfl : i = 0 := by simpa using hi
        exact ih
      | bi p1 p2 t' x y hx hok1 hok2 => rw [toEn_bi p1 hx] at h; cases h
    | bi o1 o2 t a b hk ha hb =>
      rw [toEn_bi o1 hk] at h
      cases exK hf with
      | tm o' t' k' => rw [toEn_tm o'] at h; cases h
      | ng o' t' x hx hok' => rw [toEn_ng o' hx] at h; cases h
      | fn p1 p2 t' x hx hok' => rw [toEn_fn p1 hx] at h; cases h
      | bi p1 p2 t' x y hx hok1 hok2 =>
        rw [toEn_bi p1 hx, En.bi.injEq] at h
        have ih1 := toEn_alike n m d a x ha hok1 h.2.1
        have ih2 := toEn_alike n m d b y hb hok2 h.2.2
        refine ⟨sg_inj o1 o2 p1 p2 h.1, by rw [tm_zero t, tm_zero t'], by rw [hk, hx]; rfl, fun i hi hi' => ?_⟩
        simp only [hk, hx] at hi hi' ⊢
        match i, hi, hi' with
        | 0, _, _ => exact ih1
        | 1, _, _ => exact ih2
/-- Two expressions that have one text are alike. -/
theorem ex_inj {n m d : Nat} {e f : Ex d} {r s : List UInt8} (he : exOk n d e = true) (hf : exOk m d f = true) (hr : F1 r = true) (hs : F1 s = true) (h : exprL d e ++ r = exprL d f ++ s) : Alike d e f ∧ r = s := by
  obtain ⟨e1, e2, _, _⟩ := toEn_all n d e he
  obtain ⟨f1, f2, _, _⟩ := toEn_all m d f hf
  rw [e2, f2] at h
  obtain ⟨h1, h2⟩ := en_inj e1 f1 hr hs h
  exact ⟨toEn_alike n m d e f he hf h1, h2⟩
open Go.RowKit

/-- What may stand behind columns. -/
def endB : List UInt8 → Bool
  | [] => true
  | c :: _ => !wordB c && c != 40
theorem endB_stop {r : List UInt8} (h : endB r = true) : stopB r = true := by
  match r with
  | [] => rfl
  | c :: r => rw [endB, Bool.and_eq_true] at h; exact h.1
def sepF {X : Type} (tx : X → List UInt8) (l : List X) : List UInt8 := sepL false (l.map tx)
theorem sepF_cons {X : Type} (tx : X → List UInt8) (x : X) (l : List X) (r : List UInt8) : sepF tx (x :: l) ++ r = 44 :: 32 :: (tx x ++ (sepF tx l ++ r)) := by
  simp [sepF, sepL]
theorem sepF_stop {X : Type} (tx : X → List UInt8) (l : List X) (r : List UInt8) : stopB (sepF tx l ++ 41 :: r) = true := by
  match l with
  | [] => rfl
  | x :: l => rw [sepF_cons]; rfl
section
variable {X : Type} (tx : X → List UInt8) (ok : X → Prop)
    (hinj : ∀ x y r s, ok x → ok y → stopB r = true → stopB s = true → tx x ++ r = tx y ++ s → x = y ∧ r = s)
include hinj
theorem sepF_inj : ∀ (l m : List X) (r s : List UInt8), (∀ x ∈ l, ok x) → (∀ y ∈ m, ok y) → sepF tx l ++ 41 :: r = sepF tx m ++ 41 :: s → l = m ∧ r = s
  | [], [], r, s, _, _, h => ⟨rfl, by simpa [sepF, sepL] using h⟩
  | [], y :: m, r, s, _, _, h => by
    rw [sepF_cons] at h
    have e : (41 : UInt8) :: r = 44 :: 32 :: (tx y ++ (sepF tx m ++ 41 :: s)) := h
    simp at e
  | x :: l, [], r, s, _, _, h => by
    rw [sepF_cons] at h
    have e : (44 : UInt8) :: 32 :: (tx x ++ (sepF tx l ++ 41 :: r)) = 41 :: s := h
    simp at e
  | x :: l, y :: m, r, s, hl, hm, h => by
    rw [sepF_cons, sepF_cons] at h
    simp only [List.cons.injEq, true_and] at h
    obtain ⟨h1, h2⟩ := hinj x y _ _ (hl x (by simp)) (hm y (by simp)) (sepF_stop tx l r) (sepF_stop tx m s) h
    obtain ⟨h3, h4⟩ := sepF_inj l m r s (fun z hz => hl z (by simp [hz])) (fun z hz => hm z (by simp [hz])) h2
    exact ⟨by rw [h1, h3], h4⟩
theorem cols_inj {p q : List UInt8} {l m : List X} {r s : List UInt8} (hp : nameB p = true) (hq : nameB q = true) (hl : ∀ x ∈ l, ok x) (hm : ∀ y ∈ m, ok y) (hr : endB r = true) (hs : endB s = true) (h : colsL p (l.map tx) ++ r = colsL q (m.map tx) ++ s) : p = q ∧ l = m ∧ r = s := by
  have hc : ∀ (p : List UInt8) (l : List X) (r : List UInt8), colsL p (l.map tx) ++ r = p ++ (match l with | [] => r | x :: l => 40 :: (tx x ++ (sepF tx l ++ 41 :: r))) := by
    intro p l r
    match l with
    | [] => simp [colsL, sepL]
    | x :: l => simp [colsL, sepL, sepF]
  rw [hc, hc] at h
  have hst : ∀ (l : List X) (r : List UInt8), endB r = true → stopB (match l with | [] => r | x :: l => 40 :: (tx x ++ (sepF tx l ++ 41 :: r))) = true := by
    intro l r hr
    match l with
    | [] => exact endB_stop hr
    | x :: l => rfl
  obtain ⟨h1, h2⟩ := run_inj (name_words hp) (name_words hq) (hst l r hr) (hst m s hs) h
  refine ⟨h1, ?_⟩
  match l, m with
  | [], [] => exact ⟨rfl, h2⟩
  | [], y :: m =>
    simp only at h2
    rw [h2] at hr
    cases hr
  | x :: l, [] =>
    simp only at h2
    rw [← h2] at hs
    cases hs
  | x :: l, y :: m =>
    simp only [List.cons.injEq, true_and] at h2
    obtain ⟨h3, h4⟩ := hinj x y _ _ (hl x (by simp)) (hm y (by simp)) (sepF_stop tx l r) (sepF_stop tx m s) h2
    obtain ⟨h5, h6⟩ := sepF_inj tx ok hinj l m r s (fun z hz => hl z (by simp [hz])) (fun z hz => hm z (by simp [hz])) h4
    exact ⟨by rw [h3, h5], h6⟩
end
/-! Atoms. -/
theorem at_ok {p : ByteArray} {ts : List Tm} (h : atOk p ts = true) : nameB (bl p) = true ∧ ∀ t ∈ ts, tmOk t = true := by
  simp only [atOk, Bool.and_eq_true, Bool.not_eq_true'] at h
  refine ⟨h.1.1, fun t ht => ?_⟩
  simpa [tmBad] using List.any_eq_false.1 h.2 t ht
theorem atom_inj {p q : ByteArray} {ts us : List Tm} {r s : List UInt8} (h1 : atOk p ts = true) (h2 : atOk q us = true) (hr : endB r = true) (hs : endB s = true) (h : atomL p ts ++ r = atomL q us ++ s) : p = q ∧ ts = us ∧ r = s := by
  obtain ⟨e1, e2, e3⟩ := cols_inj termL (fun t => tmOk t = true) (fun x y r s hx hy hr hs h => term_inj hx hy hr hs h) (at_ok h1).1 (at_ok h2).1 (at_ok h1).2 (at_ok h2).2 hr hs h
  exact ⟨bl_eq e1, e2, e3⟩
/-! Arguments. -/
theorem tm_kw {t : Tm} {w r s : List UInt8} (ht : tmOk t = true) (hw : w.all wordB = true) (hn : nameB w = false) (hf : 97 ≤ fst1 (w ++ 40 :: s) ∧ fst1 (w ++ 40 :: s) ≤ 122) (hr : stopB r = true) (h : termL t ++ r = w ++ (40 :: s)) : False := by
  have h0 := congrArg fst1 h
  rcases tm_fst ht r with h1 | h1 | h1 | h1
  · omega
  · omega
  · obtain ⟨hl, hn', _⟩ := h1
    rw [hl] at h
    obtain ⟨h2, _⟩ := run_inj (name_words hn') hw hr rfl h
    rw [h2, hn] at hn'
    cases hn'
  · omega
def kwF (g : Int) : List UInt8 := bl (foldsL.getD g.toNat ⟨#[]⟩)
theorem gs3 {g : Int} (h : 2 ≤ g ∧ g ≤ 4) : g = 2 ∨ g = 3 ∨ g = 4 := by omega
theorem kwF_is {g : Int} (h : 2 ≤ g ∧ g ≤ 4) (r : List UInt8) : (kwF g).all wordB = true ∧ nameB (kwF g) = false ∧ (97 ≤ fst1 (kwF g ++ r) ∧ fst1 (kwF g ++ r) ≤ 122) ∧ kwF g ≠ [99, 111, 117, 110, 116] := by
  rcases gs3 h with rfl | rfl | rfl <;> exact ⟨by decide, by decide, ⟨by show 97 ≤ (_ : UInt8).toNat; decide, by show (_ : UInt8).toNat ≤ 122; decide⟩, by decide⟩
theorem kwF_inj {g g' : Int} (h : 2 ≤ g ∧ g ≤ 4) (h' : 2 ≤ g' ∧ g' ≤ 4) (e : kwF g = kwF g') : g = g' := by
  rcases gs3 h with rfl | rfl | rfl <;> rcases gs3 h' with rfl | rfl | rfl <;> first | rfl | exact absurd e (by decide)
inductive AgK (a : Ag) : Prop where
  | tm (g : a.g = 0) (t : tmOk a.t = true) (l : agL a = termL a.t)
  | cnt (g : a.g = 1) (t : a.t = ⟨⟨#[]⟩, ⟨0, 0, ⟨#[]⟩⟩⟩) (l : ∀ r, agL a ++ r = [99, 111, 117, 110, 116] ++ 40 :: 41 :: r)
  | agg (g : 2 ≤ a.g ∧ a.g ≤ 4) (x : a.t.x = ⟨0, 0, ⟨#[]⟩⟩) (w : (bl a.t.v).all wordB = true) (l : ∀ r, agL a ++ r = kwF a.g ++ 40 :: (bl a.t.v ++ 41 :: r))
theorem agK {a : Ag} (h : agOk a = true) : AgK a := by
  unfold agOk at h
  by_cases h0 : a.g = 0
  · rw [if_pos h0, solidB, Bool.and_eq_true] at h
    exact .tm h0 h.2 (by unfold agL; rw [if_pos h0])
  · by_cases h1 : a.g = 1
    · rw [if_neg h0, if_pos h1] at h
      exact .cnt h1 (tm_zero h) (fun r => by unfold agL; rw [if_neg h0, if_pos h1]; rfl)
    · rw [if_neg h0, if_neg h1] at h
      by_cases h2 : 2 ≤ a.g ∧ a.g ≤ 4
      · rw [if_pos h2, Bool.and_eq_true, solidB, Bool.and_eq_true, Bool.not_eq_true'] at h
        have hv : ¬ (bl a.t.v).isEmpty = true := by rw [h.1]; decide
        have hx := h.2.2
        unfold tmOk at hx
        rw [if_neg hv, Bool.and_eq_true] at hx
        exact .agg h2 (vl_zero hx.1) (var_words hv h.2.2) (fun r => by unfold agL; rw [if_neg h0, if_neg h1]; simp [kwF])
      · rw [if_neg h2] at h
        cases h
theorem ag_eq {a b : Ag} (hg : a.g = b.g) (ht : a.t = b.t) : a = b := by
  cases a; cases b
  simp only at hg ht
  subst hg ht
  rfl
theorem ag_inj {a b : Ag} {r s : List UInt8} (ha : agOk a = true) (hb : agOk b = true) (hr : stopB r = true) (hs : stopB s = true) (h : agL a ++ r = agL b ++ s) : a = b ∧ r = s := by
  cases agK ha with
  | tm g t l =>
    cases agK hb with
    | tm g' t' l' =>
      rw [l, l'] at h
      obtain ⟨h1, h2⟩ := term_inj t t' hr hs h
      exact ⟨ag_eq (by rw [g, g']) h1, h2⟩
    | cnt g' t' l' =>
      rw [l, l'] at h
      exact (tm_kw t (by decide) (by decide) ⟨by show 97 ≤ (_ : UInt8).toNat; decide, by show (_ : UInt8).toNat ≤ 122; decide⟩ hr h).elim
    | agg g' x' w' l' =>
      rw [l, l'] at h
      obtain ⟨k1, k2, k3, _⟩ := kwF_is g' (40 :: (bl b.t.v ++ 41 :: s))
      exact (tm_kw t k1 k2 k3 hr h).elim
  | cnt g t l =>
    cases agK hb with
    | tm g' t' l' =>
      rw [l, l'] at h
      exact (tm_kw t' (by decide) (by decide) ⟨by show 97 ≤ (_ : UInt8).toNat; decide, by show (_ : UInt8).toNat ≤ 122; decide⟩ hs h.symm).elim
    | cnt g' t' l' =>
      rw [l, l'] at h
      exact ⟨ag_eq (by rw [g, g']) (by rw [t, t']), by simpa using h⟩
    | agg g' x' w' l' =>
      rw [l, l'] at h
      obtain ⟨k1, _, _, k4⟩ := kwF_is g' []
      exact absurd (run_inj (by decide) k1 rfl rfl h).1.symm k4
  | agg g x w l =>
    cases agK hb with
    | tm g' t' l' =>
      rw [l, l'] at h
      obtain ⟨k1, k2, k3, _⟩ := kwF_is g (40 :: (bl a.t.v ++ 41 :: r))
      exact (tm_kw t' k1 k2 k3 hs h.symm).elim
    | cnt g' t' l' =>
      rw [l, l'] at h
      obtain ⟨k1, _, _, k4⟩ := kwF_is g []
      exact absurd (run_inj k1 (by decide) rfl rfl h).1 k4
    | agg g' x' w' l' =>
      rw [l, l'] at h
      obtain ⟨h1, h2⟩ := run_inj (kwF_is g []).1 (kwF_is g' []).1 rfl rfl h
      simp only [List.cons.injEq, true_and] at h2
      obtain ⟨h3, h4⟩ := run_inj w w' rfl rfl h2
      exact ⟨ag_eq (kwF_inj g g' h1) (tm_eq h3 (by rw [x, x'])), by simpa using h4⟩
/-! Literals. -/
def endL : List UInt8 → Bool
  | c :: _ => c == 44 || c == 46
  | [] => false
theorem endL_F1 {r : List UInt8} (h : endL r = true) : F1 r = true := by
  match r with
  | c :: r =>
    simp only [endL, Bool.or_eq_true, beq_iff_eq] at h
    rcases h with rfl | rfl <;> cases r <;> rfl
theorem endL_end {r : List UInt8} (h : endL r = true) : endB r = true := by
  match r with
  | c :: r =>
    simp only [endL, Bool.or_eq_true, beq_iff_eq] at h
    rcases h with rfl | rfl <;> rfl
theorem noB_alike {d : Nat} {e f : Ex d} (he : noB (exOp d e) (exTm d e) (exLen d e) = true) (hf : noB (exOp d f) (exTm d f) (exLen d f) = true) : Alike d e f := by
  match d, e, f with
  | 0, e, _ => exact nomatch e
  | d + 1, e, f =>
    simp only [noB, Bool.and_eq_true, beq_iff_eq, decide_eq_true_eq] at he hf
    have e1 : e.1 = 0 := he.1.1
    have f1 : f.1 = 0 := hf.1.1
    have e2 : e.2.1 = ⟨⟨#[]⟩, ⟨0, 0, ⟨#[]⟩⟩⟩ := tm_zero he.1.2
    have f2 : f.2.1 = ⟨⟨#[]⟩, ⟨0, 0, ⟨#[]⟩⟩⟩ := tm_zero hf.1.2
    have e3 : e.2.2.2.length = 0 := he.2
    have f3 : f.2.2.2.length = 0 := hf.2
    exact ⟨by rw [e1, f1], by rw [e2, f2], by rw [e3, f3], fun i hi => by omega⟩
/-- What stands in a literal. -/
inductive LtK {d : Nat} (x : Lt d) : Prop where
  | pos (k : x.k = 1) (a : atOk x.p x.ts = true) (r : x.r = 0) (l : noB (exOp d x.l) (exTm d x.l) (exLen d x.l) = true) (g : noB (exOp d x.g) (exTm d x.g) (exLen d x.g) = true) (t : litL x = atomL x.p x.ts)
  | neg (k : x.k = 2) (a : atOk x.p x.ts = true) (r : x.r = 0) (l : noB (exOp d x.l) (exTm d x.l) (exLen d x.l) = true) (g : noB (exOp d x.g) (exTm d x.g) (exLen d x.g) = true) (t : litL x = [110, 111, 116, 32] ++ atomL x.p x.ts)
  | cmp (k : x.k = 3) (p : x.p = ⟨#[]⟩) (a : x.ts = []) (r : 1 ≤ x.r ∧ x.r ≤ 6) (l : exOk 8 d x.l = true) (g : exOk 8 d x.g = true) (t : ∀ r, litL x ++ r = exprL d x.l ++ (32 :: (bl (relL.getD x.r.toNat ⟨#[]⟩) ++ (32 :: (exprL d x.g ++ r)))))
theorem ltK {d : Nat} {x : Lt d} (h : ltOk x = true) : LtK x := by
  unfold ltOk at h
  by_cases h1 : x.k = 1 ∨ x.k = 2
  · rw [if_pos h1] at h
    simp only [Bool.and_eq_true, beq_iff_eq] at h
    rcases h1 with hk | hk
    · exact .pos hk h.1.1.1 h.1.1.2 h.1.2 h.2 (by unfold litL; rw [if_pos hk])
    · exact .neg hk h.1.1.1 h.1.1.2 h.1.2 h.2 (by unfold litL; rw [if_neg (by omega), if_pos hk])
  · rw [if_neg h1] at h
    by_cases h3 : x.k = 3
    · rw [if_pos h3] at h
      simp only [Bool.and_eq_true, decide_eq_true_eq, List.isEmpty_iff] at h
      exact .cmp h3 (bl_nil h.1.1.1.1.1) (List.eq_nil_of_length_eq_zero h.1.1.1.1.2) ⟨h.1.1.1.2, h.1.1.2⟩ h.1.2 h.2 (fun r => by unfold litL; rw [if_neg (by omega), if_neg (by omega)]; simp)
    · rw [if_neg h3] at h
      cases h
theorem rs6 {r : Int} (h : 1 ≤ r ∧ r ≤ 6) : r = 1 ∨ r = 2 ∨ r = 3 ∨ r = 4 ∨ r = 5 ∨ r = 6 := by omega
theorem rel_inj {a b : Int} (ha : 1 ≤ a ∧ a ≤ 6) (hb : 1 ≤ b ∧ b ≤ 6) {r s : List UInt8} (h : bl (relL.getD a.toNat ⟨#[]⟩) ++ (32 :: r) = bl (relL.getD b.toNat ⟨#[]⟩) ++ (32 :: s)) : a = b ∧ r = s := by
  rcases rs6 ha with rfl | rfl | rfl | rfl | rfl | rfl <;> rcases rs6 hb with rfl | rfl | rfl | rfl | rfl | rfl <;> simp [relL, bl] at h <;> first | exact ⟨rfl, h⟩ | exact h.elim
theorem rel_F1 {a : Int} (ha : 1 ≤ a ∧ a ≤ 6) (r : List UInt8) : F1 (32 :: (bl (relL.getD a.toNat ⟨#[]⟩) ++ r)) = true := by
  rcases rs6 ha with rfl | rfl | rfl | rfl | rfl | rfl <;> rfl
/-- How an expression begins with a word. -/
theorem en_word {e : En} (he : e.ok) {w T R : List UInt8} (hw : w.all wordB = true) (hf : 97 ≤ fst1 (w ++ T) ∧ fst1 (w ++ T) ≤ 122) (hT : stopB T = true) (h : e.txt ++ 32 :: R = w ++ T) : (nameB w = true ∧ fst1 T = 32) ∨ w ∈ fnWs := by
  have hsp := sp1_ok e he
  rw [sp1_txt, tx1, tx2, List.append_assoc, List.append_assoc] at h
  generalize e.sp1 = q at h hsp
  obtain ⟨⟨⟨e1, b⟩, c1⟩, c2⟩ := q
  obtain ⟨h1, h2, _⟩ := hsp.1.1
  have hz : ∃ Z, chn itx c1 ++ (chn tx2 c2 ++ 32 :: R) = 32 :: Z := by
    match c1, c2 with
    | [], [] => exact ⟨R, rfl⟩
    | [], x :: l => exact ⟨_, chn_cons tx2 x l _⟩
    | y :: m, l => exact ⟨_, chn_cons itx y m _⟩
  obtain ⟨Z, hZ⟩ := hz
  simp only at h h1 h2
  rw [hZ] at h
  have hf0 := congrArg fst1 h
  cases b
  case true =>
    have : fst1 (itx (e1, true) ++ 32 :: Z) = 40 := rfl
    omega
  case false =>
    have h3 : e1.txt ++ 32 :: Z = w ++ T := h
    cases e1 with
    | bi c a b => cases h2 rfl
    | ng k =>
      have : fst1 ((En.ng k).txt ++ 32 :: Z) = 45 := rfl
      have h4 := congrArg fst1 h3
      omega
    | fn v k =>
      rw [fn_txt] at h3
      obtain ⟨h4, _⟩ := run_inj (fn_words h1.1).1 hw rfl hT h3
      exact .inr (h4 ▸ h1.1)
    | tm t =>
      have h4 : termL t ++ 32 :: Z = w ++ T := h3
      have h5 := congrArg fst1 h4
      rcases tm_fst (t := t) h1 (32 :: Z) with h6 | h6 | h6 | h6
      · omega
      · omega
      · obtain ⟨hl, hn, _⟩ := h6
        rw [hl] at h4
        obtain ⟨h7, h8⟩ := run_inj (name_words hn) hw rfl hT h4
        exact .inl ⟨h7 ▸ hn, by rw [← h8]; rfl⟩
      · omega
theorem atom_split (p : ByteArray) (ts : List Tm) (r : List UInt8) (hr : endL r = true) : ∃ T, atomL p ts ++ r = bl p ++ T ∧ stopB T = true ∧ fst1 T ≠ 32 := by
  match ts with
  | [] =>
    refine ⟨r, by simp [atomL, colsL, termTs, sepL], endB_stop (endL_end hr), ?_⟩
    match r with
    | c :: r =>
      simp only [endL, Bool.or_eq_true, beq_iff_eq] at hr
      rcases hr with rfl | rfl
      · exact (by decide : (44 : Nat) ≠ 32)
      · exact (by decide : (46 : Nat) ≠ 32)
  | t :: ts => exact ⟨40 :: (termL t ++ (sepF termL ts ++ 41 :: r)), by simp [atomL, colsL, termTs, sepL, sepF], rfl, (by decide : (40 : Nat) ≠ 32)⟩
theorem fn_not {w : List UInt8} (h : nameB w = true) : w ∉ fnWs := fun hw => by rw [(fn_words hw).2] at h; cases h
theorem pos_cmp {d : Nat} {p : ByteArray} {ts : List Tm} {l : Ex d} {r R : List UInt8} (ha : atOk p ts = true) (hl : exOk 8 d l = true) (hr : endL r = true) (h : atomL p ts ++ r = exprL d l ++ 32 :: R) : False := by
  obtain ⟨T, e, hT, hT2⟩ := atom_split p ts r hr
  obtain ⟨i1, i2, _, _⟩ := toEn_all 8 d l hl
  rw [e, i2] at h
  rcases en_word i1 (name_words (at_ok ha).1) (name_fst (at_ok ha).1 T) hT h.symm with h1 | h1
  · exact hT2 h1.2
  · exact fn_not (at_ok ha).1 h1
theorem neg_cmp {d : Nat} {l : Ex d} {r R : List UInt8} (hl : exOk 8 d l = true) (h : [110, 111, 116, 32] ++ r = exprL d l ++ 32 :: R) : False := by
  obtain ⟨i1, i2, _, _⟩ := toEn_all 8 d l hl
  rw [i2] at h
  have h2 : (toEn d l).txt ++ 32 :: R = [110, 111, 116] ++ 32 :: r := h.symm
  rcases en_word i1 (by decide) ⟨by show 97 ≤ (_ : UInt8).toNat; decide, by show (_ : UInt8).toNat ≤ 122; decide⟩ rfl h2 with h1 | h1
  · exact absurd h1.1 (by decide)
  · exact absurd h1 (by decide)
theorem pos_neg {p : ByteArray} {ts : List Tm} {r s : List UInt8} (ha : atOk p ts = true) (hr : endL r = true) (h : atomL p ts ++ r = [110, 111, 116, 32] ++ s) : False := by
  obtain ⟨T, e, hT, _⟩ := atom_split p ts r hr
  rw [e] at h
  have h2 : bl p ++ T = [110, 111, 116] ++ 32 :: s := h
  have h3 := (run_inj (name_words (at_ok ha).1) (by decide) hT rfl h2).1
  have h4 := (at_ok ha).1
  rw [h3] at h4
  exact absurd h4 (by decide)
theorem lit_inj {d : Nat} {x y : Lt d} {r s : List UInt8} (hx : ltOk x = true) (hy : ltOk y = true) (hr : endL r = true) (hs : endL s = true) (h : litL x ++ r = litL y ++ s) : LtLike x y ∧ r = s := by
  cases ltK hx with
  | pos k a rr l g t =>
    cases ltK hy with
    | pos k' a' rr' l' g' t' =>
      rw [t, t'] at h
      obtain ⟨h1, h2, h3⟩ := atom_inj a a' (endL_end hr) (endL_end hs) h
      exact ⟨⟨by rw [k, k'], h1, h2, by rw [rr, rr'], noB_alike l l', noB_alike g g'⟩, h3⟩
    | neg k' a' rr' l' g' t' =>
      rw [t, t', List.append_assoc] at h
      exact (pos_neg a hr h).elim
    | cmp k' p' a' rr' l' g' t' =>
      rw [t, t'] at h
      exact (pos_cmp a l' hr h).elim
  | neg k a rr l g t =>
    cases ltK hy with
    | pos k' a' rr' l' g' t' =>
      rw [t, t', List.append_assoc] at h
      exact (pos_neg a' hs h.symm).elim
    | neg k' a' rr' l' g' t' =>
      rw [t, t', List.append_assoc, List.append_assoc] at h
      obtain ⟨h1, h2, h3⟩ := atom_inj a a' (endL_end hr) (endL_end hs) (List.append_cancel_left h)
      exact ⟨⟨by rw [k, k'], h1, h2, by rw [rr, rr'], noB_alike l l', noB_alike g g'⟩, h3⟩
    | cmp k' p' a' rr' l' g' t' =>
      rw [t, t', List.append_assoc] at h
      exact (neg_cmp l' h).elim
  | cmp k p a rr l g t =>
    cases ltK hy with
    | pos k' a' rr' l' g' t' =>
      rw [t, t'] at h
      exact (pos_cmp a' l hs h.symm).elim
    | neg k' a' rr' l' g' t' =>
      rw [t, t', List.append_assoc] at h
      exact (neg_cmp l h.symm).elim
    | cmp k' p' a' rr' l' g' t' =>
      rw [t, t'] at h
      obtain ⟨h1, h2⟩ := ex_inj l l' (rel_F1 rr _) (rel_F1 rr' _) h
      simp only [List.cons.injEq, true_and] at h2
      obtain ⟨h3, h4⟩ := rel_inj rr rr' h2
      obtain ⟨h5, h6⟩ := ex_inj g g' (endL_F1 hr) (endL_F1 hs) h4
      exact ⟨⟨by rw [k, k'], by rw [p, p'], by rw [a, a'], h3, h1, h5⟩, h6⟩
/-! Bodies, rules. -/
def LsLike {d : Nat} (bs cs : List (Lt d)) : Prop := cs.length = bs.length ∧ ∀ i, (h : i < bs.length) → (h' : i < cs.length) → LtLike bs[i] cs[i]
theorem bod_cons {d : Nat} (f : Bool) (x : Lt d) (l : List (Lt d)) (r : List UInt8) : bodL f (x :: l) ++ r = (if f then [32, 58, 45, 32] else [44, 32]) ++ (litL x ++ (bodL false l ++ r)) := by
  rw [bodL, List.append_assoc, List.append_assoc]
theorem bod_endL {d : Nat} (l : List (Lt d)) (r : List UInt8) : endL (bodL false l ++ 46 :: r) = true := by
  match l with
  | [] => rfl
  | x :: l => rw [bod_cons]; rfl
theorem bod_inj {d : Nat} : ∀ (f : Bool) (l m : List (Lt d)) (r s : List UInt8), (∀ x ∈ l, ltOk x = true) → (∀ y ∈ m, ltOk y = true) → bodL f l ++ 46 :: r = bodL f m ++ 46 :: s → LsLike l m ∧ r = s
  | _, [], [], r, s, _, _, h => ⟨⟨rfl, fun i hi => by simp at hi⟩, by simpa [bodL] using h⟩
  | f, [], y :: m, r, s, _, _, h => by
    rw [bod_cons] at h
    cases f <;> simp [bodL] at h
  | f, x :: l, [], r, s, _, _, h => by
    rw [bod_cons] at h
    cases f <;> simp [bodL] at h
  | f, x :: l, y :: m, r, s, hl, hm, h => by
    rw [bod_cons, bod_cons] at h
    obtain ⟨h1, h2⟩ := lit_inj (hl x (by simp)) (hm y (by simp)) (bod_endL l r) (bod_endL m s) (List.append_cancel_left h)
    obtain ⟨h3, h4⟩ := bod_inj false l m r s (fun z hz => hl z (by simp [hz])) (fun z hz => hm z (by simp [hz])) h2
    refine ⟨⟨by simp [h3.1], fun i hi hi' => ?_⟩, h4⟩
    match i with
    | 0 => exact h1
    | i + 1 => exact h3.2 i (by simpa using hi) (by simpa using hi')
theorem rule_inj {d : Nat} {p q : ByteArray} {hs gs : List Ag} {bs cs : List (Lt d)} (h1 : ruOk p hs bs = true) (h2 : ruOk q gs cs = true) (h : ruL p hs bs = ruL q gs cs) : p = q ∧ hs = gs ∧ LsLike bs cs := by
  simp only [ruOk, Bool.and_eq_true, List.all_eq_true] at h1 h2
  have hb : ∀ l : List (Lt d), endB (bodL true l ++ 46 :: []) = true := by
    intro l
    match l with
    | [] => rfl
    | x :: l => rw [bod_cons]; rfl
  obtain ⟨e1, e2, e3⟩ := cols_inj agL (fun a => agOk a = true) (fun x y r s hx hy hr hs h => ag_inj hx hy hr hs h) h1.1.1.1.1.1 h2.1.1.1.1.1 h1.1.1.2 h2.1.1.2 (hb bs) (hb cs) h
  obtain ⟨e4, _⟩ := bod_inj true bs cs [] [] h1.1.2 h2.1.2 e3
  exact ⟨bl_eq e1, e2, e4⟩
theorem rule_same {d : Nat} (p : ByteArray) (hs : List Ag) {bs cs : List (Lt d)} (h : LsLike bs cs) : ruL p hs bs = ruL p hs cs := by
  have h1 : bs.map litL = cs.map litL := alike_map litL h.1.symm (fun i a b => (h.2 i a b).txt)
  unfold ruL
  rw [bodL_map bs cs true h1]
end Go.Proofs.YtdgbenadoaecoaaDoor
