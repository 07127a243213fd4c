/- What a token's text is read as, with nothing or a blank behind it. No program in sight. Conditions: none. -/
import Derived.Test.YtcigdlpljjkplaaDoorJ3
import Derived.Test.YtcigdlpljjkplaaDoorN4
namespace Go.Proofs.YtcigdlpljjkplaaDoor
open Go.RowKit

/-- Nothing behind, or a blank. -/
def Gap (q : List UInt8) : Prop := q = [] ∨ ∃ r, q = 32 :: r
theorem runL_gap {t q : List UInt8} (ht : t.all wordB = true) (hq : Gap q) : runL (t ++ q) = t := by
  unfold runL
  rw [List.takeWhile_append_of_pos (fun a ha => List.all_eq_true.1 ht a ha)]
  rcases hq with rfl | ⟨r, rfl⟩
  · simp
  · rw [List.takeWhile_cons_of_neg (by decide), List.append_nil]
theorem head_word {c : UInt8} {r q : List UInt8} (ht : (c :: r).all wordB = true) (hq : Gap q) : headT ((c :: r) ++ q) = (wordT (c :: r), (c :: r).length) := by
  have hc : wordB c = true := by
    rw [List.all_cons, Bool.and_eq_true] at ht
    exact ht.1
  have hn : c.toNat ≠ 34 := by
    have := (wordB_iff c).1 hc
    omega
  have hr := runL_gap ht hq
  unfold headT
  rw [if_neg (by simp; exact hn)]
  unfold firstT
  simp only [List.cons_append, hc, if_true]
  rw [← List.cons_append, hr]
theorem word_first {c : UInt8} (hc : wordB c = true) : blankB c = false ∧ c.toNat ≠ 35 := by
  have := (wordB_iff c).1 hc
  refine ⟨?_, by omega⟩
  unfold blankB
  simp
  omega
theorem wordT_name {c : UInt8} {r : List UInt8} (h1 : 97 ≤ c.toNat) (h2 : c.toNat ≤ 122) (hl : (c :: r).length ≤ 120) : wordT (c :: r) = if kwB (c :: r) then (0, ⟨6, ⟨(c :: r).toArray⟩, 0, 0⟩) else (0, ⟨1, ⟨(c :: r).toArray⟩, 0, 0⟩) := by
  have hd : digitB c = false := by simp [digitB]; omega
  have hu : upperB c = false := by simp [upperB]; omega
  unfold wordT
  simp only
  rw [if_neg (by omega), hd, if_neg (by decide), if_neg (by omega), hu, if_neg (by decide)]
theorem wordT_var {c : UInt8} {r : List UInt8} (h1 : 65 ≤ c.toNat) (h2 : c.toNat ≤ 90) (hl : (c :: r).length ≤ 120) : wordT (c :: r) = (0, ⟨2, ⟨(c :: r).toArray⟩, 0, 0⟩) := by
  have hd : digitB c = false := by simp [digitB]; omega
  have hu : upperB c = true := by simp [upperB]; omega
  unfold wordT
  simp only
  rw [if_neg (by omega), hd, if_neg (by decide), if_neg (by omega), hu, if_pos rfl]
theorem runB_parts {fr to : UInt8} {l : List UInt8} (h : runB fr to l = true) : ∃ c r, l = c :: r ∧ (c :: r).length ≤ 120 ∧ fr.toNat ≤ c.toNat ∧ c.toNat ≤ to.toNat ∧ (c :: r).all wordB = true := by
  match l with
  | [] => simp [runB] at h
  | c :: r =>
    simp only [runB, Bool.and_eq_true, decide_eq_true_eq] at h
    exact ⟨c, r, rfl, by simp; omega, h.1.1.2, h.1.2, h.2⟩
theorem dec_all (u : Nat) : (Lib.decDigits u).all digitB = true := by
  induction u using Nat.strongRecOn with
  | _ u ih =>
    rw [Lib.decDigits]
    split
    · rename_i h
      have h1 : (UInt8.ofNat (48 + u)).toNat = 48 + u := by simp; omega
      simp only [List.all_cons, List.all_nil, Bool.and_true, digitB, h1]
      simp; omega
    · rename_i h
      rw [List.all_append, ih (u / 10) (by omega)]
      have h1 : (UInt8.ofNat (48 + u % 10)).toNat = 48 + u % 10 := by simp; omega
      simp only [List.all_cons, List.all_nil, Bool.and_true, digitB, h1]
      simp; omega
theorem dec_ne (u : Nat) : Lib.decDigits u ≠ [] := by
  intro h
  have h1 := Lib.decDigits_length u
  rw [h] at h1
  have := Lib.nDigits_pos u
  simp at h1
  omega
theorem dec_head (u : Nat) : (Lib.decDigits u).head? = some 48 → u = 0 := by
  induction u using Nat.strongRecOn with
  | _ u ih =>
    intro h
    rw [Lib.decDigits] at h
    split at h
    · rename_i h1
      simp only [List.head?_cons, Option.some.injEq] at h
      have h2 := congrArg UInt8.toNat h
      have h3 : (UInt8.ofNat (48 + u)).toNat = 48 + u := by simp; omega
      rw [h3] at h2
      have h4 : (48 : UInt8).toNat = 48 := rfl
      omega
    · rename_i h1
      have h2 : (Lib.decDigits (u / 10)).head? = some 48 := by
        match hd : Lib.decDigits (u / 10) with
        | [] => exact absurd hd (dec_ne _)
        | c :: r => rw [hd] at h; simpa using h
      have := ih (u / 10) (by omega) h2
      omega
theorem parse_app {M : Nat} : ∀ {l1 : List UInt8} {a v : Nat} (l2 : List UInt8), Lib.parseUintM M a l1 = .ok v → Lib.parseUintM M a (l1 ++ l2) = Lib.parseUintM M v l2
  | [], a, v, l2, h => by
    simp only [Lib.parseUintM, Lib.NumEnd.ok.injEq] at h
    rw [h]; rfl
  | c :: r, a, v, l2, h => by
    rw [Lib.parseUintM] at h
    rw [List.cons_append, Lib.parseUintM]
    split at h
    · rename_i h1
      rw [if_pos h1]
      split at h
      · cases h
      · rename_i h2
        rw [if_neg h2]
        split at h
        · cases h
        · rename_i h3
          rw [if_neg h3]
          exact parse_app l2 h
    · cases h
theorem parse_dec {M : Nat} (hM : M ≤ 18446744073709551615) (u : Nat) : u ≤ M → Lib.parseUintM M 0 (Lib.decDigits u) = .ok u := by
  induction u using Nat.strongRecOn with
  | _ u ih =>
    intro hu
    rw [Lib.decDigits]
    split
    · rename_i h
      have h1 : (UInt8.ofNat (48 + u)).toNat = 48 + u := by simp; omega
      rw [Lib.parseUintM, h1, if_pos (by omega), if_neg (by omega), if_neg (by omega), Lib.parseUintM]
      congr 1
      omega
    · rename_i h
      have h1 : (UInt8.ofNat (48 + u % 10)).toNat = 48 + u % 10 := by simp; omega
      rw [parse_app _ (ih (u / 10) (by omega) (by omega)), Lib.parseUintM, h1, if_pos (by omega), if_neg (by omega), if_neg (by omega), Lib.parseUintM]
      congr 1
      omega
theorem numT_dec (u : Nat) (hu : u ≤ 9223372036854775808) : numT (Lib.decDigits u) = (0, ⟨4, ⟨#[]⟩, wrap64 (u : Int), 0⟩) := by
  have hp : Lib.parseUintB 64 (Lib.decDigits u) = .ok u := by
    unfold Lib.parseUintB
    rw [if_neg (dec_ne u)]
    exact parse_dec (by decide) u (by omega)
  unfold numT
  rw [hp]
  simp only
  rw [if_neg]
  rintro (h | ⟨h1, h2⟩)
  · omega
  · have := dec_head u h1
    subst this
    exact h2 (by rw [Lib.decDigits_one (by omega)]; rfl)
theorem digit_word {c : UInt8} (h : digitB c = true) : wordB c = true := by
  unfold wordB
  rw [h]
  simp
theorem wordT_num (u : Nat) (hu : u ≤ 9223372036854775808) : wordT (Lib.decDigits u) = (0, ⟨4, ⟨#[]⟩, wrap64 (u : Int), 0⟩) := by
  match hd : Lib.decDigits u with
  | [] => exact absurd hd (dec_ne u)
  | c :: r =>
    have ha := dec_all u
    rw [hd, List.all_cons, Bool.and_eq_true] at ha
    have hc : ¬ c.toNat = 95 := by
      have := ha.1
      simp [digitB] at this
      omega
    unfold wordT
    simp only
    rw [if_neg hc, ha.1, if_pos rfl, ← hd, numT_dec u hu]
theorem num_wrap {n : Int} (h0 : -9223372036854775808 ≤ n) (h1 : n ≤ 9223372036854775807) (h : 0 ≤ n ∨ n = leastI) : (IntKind.u64.wrap n).toNat ≤ 9223372036854775808 ∧ wrap64 ((IntKind.u64.wrap n).toNat : Int) = n := by
  rcases h with h | rfl
  · have e : IntKind.u64.wrap n = n := by rw [IntKind.wrap_u64]; omega
    rw [e]
    refine ⟨by omega, ?_⟩
    rw [show ((n.toNat : Nat) : Int) = n by omega]
    exact IntWalk.wrap64_in n ⟨h0, by omega⟩
  · unfold leastI
    have e : IntKind.u64.wrap (-9223372036854775808) = 9223372036854775808 := by rw [IntKind.wrap_u64]; omega
    rw [e]
    refine ⟨by omega, ?_⟩
    rw [show ((Int.toNat 9223372036854775808 : Nat) : Int) = 9223372036854775808 by omega]
    unfold wrap64
    omega
theorem hexN_hexD : ∀ n, n < 16 → hexN (hexD n) = some n := by decide
theorem qT_esc : ∀ (s acc : List UInt8) (k : Nat) (q : List UInt8), (acc ++ s).length ≤ 200 → qT (escL s ++ 34 :: q) acc k = some (acc ++ s, k + (escL s).length + 1)
  | [], acc, k, q, h => by
    rw [List.append_nil] at h ⊢
    rw [escL, List.nil_append, qT_end _ _ _ rfl, if_neg (by omega)]
    rfl
  | c :: r, acc, k, q, h => by
    have h' : ((acc ++ [c]) ++ r).length ≤ 200 := by rw [List.append_assoc]; exact h
    have ih := fun j => qT_esc r (acc ++ [c]) j q h'
    have e : (acc ++ [c]) ++ r = acc ++ c :: r := by rw [List.append_assoc]; rfl
    rw [e] at ih
    rw [escL]
    unfold escB
    split
    · rename_i h1
      have hc : c = 10 := UInt8.toNat_inj.1 h1
      subst hc
      have hs : stepQ (92 :: 110 :: (escL r ++ 34 :: q)) = some (10, 2) := rfl
      simp only [List.cons_append, List.nil_append]
      rw [qT_some _ _ (by decide) hs]
      simp only [List.drop_succ_cons, List.drop_zero]
      rw [ih]
      simp; omega
    · rename_i h1
      split
      · rename_i h2
        have hs : stepQ (92 :: c :: (escL r ++ 34 :: q)) = some (c, 2) := by
          have hp : pieceP (c :: (escL r ++ 34 :: q)) = some (c, 1) := pieceP_q (by omega) h2
          rw [stepQ, if_pos (by decide), hp]
          rfl
        simp only [List.cons_append, List.nil_append]
        rw [qT_some _ _ (by decide) hs]
        simp only [List.drop_succ_cons, List.drop_zero]
        rw [ih]
        simp; omega
      · rename_i h2
        split
        · rename_i h3
          have hs : stepQ (c :: (escL r ++ 34 :: q)) = some (c, 1) := by
            rw [stepQ, if_neg (by omega), if_pos (by omega)]
          simp only [List.cons_append, List.nil_append]
          rw [qT_some _ _ (by omega) hs]
          simp only [List.drop_succ_cons, List.drop_zero]
          rw [ih]
          simp; omega
        · rename_i h3
          have hlt := c.toNat_lt
          have hs : stepQ (92 :: 120 :: hexD (c.toNat / 16) :: hexD (c.toNat % 16) :: (escL r ++ 34 :: q)) = some (c, 4) := by
            have hp : pieceP (120 :: hexD (c.toNat / 16) :: hexD (c.toNat % 16) :: (escL r ++ 34 :: q)) = some (c, 3) := by
              simp only [pieceP]
              rw [if_neg (by decide), if_neg (by decide), if_pos (by decide), hexN_hexD _ (by omega), hexN_hexD _ (by omega)]
              simp only [Option.some.injEq, Prod.mk.injEq, and_true]
              rw [show 16 * (c.toNat / 16) + c.toNat % 16 = c.toNat by omega]
              exact UInt8.ofNat_toNat
            rw [stepQ, if_pos (by decide), hp]
            rfl
          simp only [List.cons_append, List.nil_append]
          rw [qT_some _ _ (by decide) hs]
          simp only [List.drop_succ_cons, List.drop_zero]
          rw [ih]
          simp; omega
theorem head_sign {g : ByteArray} (hg : g ∈ signsT) {q : List UInt8} (hq : Gap q) : headT (bl g ++ q) = ((0, ⟨7, g, 0, 0⟩), (bl g).length) ∧ ∃ c r, bl g = c :: r ∧ blankB c = false ∧ c.toNat ≠ 35 := by
  simp only [signsT, List.mem_cons, List.not_mem_nil, or_false] at hg
  refine ⟨?_, ?_⟩
  · rcases hq with rfl | ⟨r, rfl⟩
    · rcases hg with rfl | rfl | rfl | rfl | rfl | rfl | rfl | rfl | rfl | rfl | rfl | rfl | rfl | rfl | rfl | rfl | rfl | rfl <;> rfl
    · rcases hg with rfl | rfl | rfl | rfl | rfl | rfl | rfl | rfl | rfl | rfl | rfl | rfl | rfl | rfl | rfl | rfl | rfl | rfl <;> rfl
  · rcases hg with rfl | rfl | rfl | rfl | rfl | rfl | rfl | rfl | rfl | rfl | rfl | rfl | rfl | rfl | rfl | rfl | rfl | rfl <;> exact ⟨_, _, rfl, by decide, by decide⟩
theorem kw_parts {l : List UInt8} (h : kwB l = true) : ∃ c r, l = c :: r ∧ (c :: r).length ≤ 120 ∧ 97 ≤ c.toNat ∧ c.toNat ≤ 122 ∧ (c :: r).all wordB = true := by
  simp only [kwB, Bool.or_eq_true, beq_iff_eq] at h
  rcases h with ((((((h | h) | h) | h) | h) | h) | h) | h <;> subst h <;> exact ⟨_, _, rfl, by decide, by decide, by decide, by decide⟩
/-- A token's text, with nothing or a blank behind it, is read as that token. -/
theorem head_of {x : Tk} (hx : tkOk x = true) (h8 : x.k ≠ 8) (hr : TkR x) {q : List UInt8} (hq : Gap q) :
    headT (tkL x ++ q) = ((0, ⟨x.k, x.t, x.n, 0⟩), (tkL x).length) ∧ ∃ c r, tkL x = c :: r ∧ blankB c = false ∧ c.toNat ≠ 35 := by
  obtain ⟨k, t, n, p⟩ := x
  obtain ⟨_, _, _, hn0, hn1, _, _⟩ := hr
  unfold tkOk at hx
  unfold tkL
  simp only at hx h8 hn0 hn1 ⊢
  have he := str_eta t
  by_cases h1 : k = 1
  · subst h1
    simp only [if_true, Bool.and_eq_true, beq_iff_eq, nameB, Bool.not_eq_true'] at hx
    obtain ⟨rfl, hrun, hkw⟩ := hx
    obtain ⟨c, r, hl, hlen, hc1, hc2, hall⟩ := runB_parts hrun
    have hw := head_word hall hq
    rw [wordT_name hc1 hc2 hlen, ← hl, hkw, if_neg (by decide), he] at hw
    refine ⟨hw, c, r, hl, word_first ?_⟩
    rw [List.all_cons, Bool.and_eq_true] at hall
    exact hall.1
  by_cases h2 : k = 2
  · subst h2
    simp only [if_true, Bool.and_eq_true, beq_iff_eq, varB, show ((2 : Int) = 1) = False from by simp, if_false] at hx
    obtain ⟨rfl, hrun⟩ := hx
    obtain ⟨c, r, hl, hlen, hc1, hc2, hall⟩ := runB_parts hrun
    have hw := head_word hall hq
    rw [wordT_var hc1 hc2 hlen, ← hl, he] at hw
    refine ⟨hw, c, r, hl, word_first ?_⟩
    rw [List.all_cons, Bool.and_eq_true] at hall
    exact hall.1
  rw [if_neg h1, if_neg h2] at hx
  by_cases h6 : k = 6
  · subst h6
    simp only [if_true, Bool.and_eq_true, beq_iff_eq] at hx
    obtain ⟨rfl, hkw⟩ := hx
    obtain ⟨c, r, hl, hlen, hc1, hc2, hall⟩ := kw_parts hkw
    have hw := head_word hall hq
    rw [wordT_name hc1 hc2 hlen, ← hl, hkw, if_pos rfl, he] at hw
    refine ⟨hw, c, r, hl, word_first ?_⟩
    rw [List.all_cons, Bool.and_eq_true] at hall
    exact hall.1
  rw [if_neg h6] at hx
  by_cases h7 : k = 7
  · subst h7
    simp only [if_true, Bool.and_eq_true, beq_iff_eq, signB, List.any_eq_true] at hx
    obtain ⟨rfl, g, hg, hl⟩ := hx
    have hgt : t = g := by rw [← str_eta t, ← str_eta g, hl]
    subst hgt
    exact head_sign hg hq
  rw [if_neg h7] at hx
  by_cases h3 : k = 3
  · subst h3
    simp only [if_true, Bool.and_eq_true, beq_iff_eq, List.isEmpty_iff] at hx
    obtain ⟨rfl, ht⟩ := hx
    rw [ht] at he
    subst he
    refine ⟨?_, 95, [], rfl, by decide, by decide⟩
    have hw := head_word (c := 95) (r := []) (by decide) hq
    exact hw
  rw [if_neg h3] at hx ⊢
  by_cases h4 : k = 4
  · subst h4
    simp only [if_true, Bool.and_eq_true, Bool.or_eq_true, decide_eq_true_eq, beq_iff_eq, List.isEmpty_iff] at hx ⊢
    obtain ⟨ht, hn⟩ := hx
    rw [ht] at he
    subst he
    obtain ⟨hu1, hu2⟩ := num_wrap hn0 hn1 hn
    generalize (IntKind.u64.wrap n).toNat = u at hu1 hu2 ⊢
    have hall : (Lib.decDigits u).all wordB = true := List.all_eq_true.2 fun c hc => digit_word (List.all_eq_true.1 (dec_all u) c hc)
    have hwt := wordT_num u hu1
    rw [hu2] at hwt
    match hd : Lib.decDigits u with
    | [] => exact absurd hd (dec_ne u)
    | c :: r =>
      rw [hd] at hall hwt
      have hw := head_word hall hq
      rw [hwt] at hw
      refine ⟨hw, c, r, rfl, word_first ?_⟩
      rw [List.all_cons, Bool.and_eq_true] at hall
      exact hall.1
  rw [if_neg h4] at hx ⊢
  by_cases h5 : k = 5
  · subst h5
    simp only [if_true, Bool.and_eq_true, beq_iff_eq, decide_eq_true_eq] at hx ⊢
    obtain ⟨rfl, ht⟩ := hx
    refine ⟨?_, 34, _, rfl, by decide, by decide⟩
    have hq1 : qT ((quoteL (bl t) ++ q).drop 1) [] 1 = some (bl t, 1 + (escL (bl t)).length + 1) := by
      have h := qT_esc (bl t) [] 1 q (by rw [List.nil_append, size_bl]; exact ht)
      rw [List.nil_append] at h
      rw [← h]
      simp [quoteL]
    unfold headT
    rw [if_pos (by simp [quoteL])]
    unfold quotedT
    rw [hq1]
    simp only [str_eta, Prod.mk.injEq, true_and]
    simp [quoteL]
    omega
  rw [if_neg h5, if_neg h8] at hx
  exact absurd hx (by decide)
end Go.Proofs.YtcigdlpljjkplaaDoor
