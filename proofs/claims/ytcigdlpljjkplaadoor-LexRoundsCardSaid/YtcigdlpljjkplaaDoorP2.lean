/- What Join writes is read as the same tokens; what is read may be joined. No program in sight. Conditions: none. -/
import Derived.Test.YtcigdlpljjkplaaDoorP1
namespace Go.Proofs.YtcigdlpljjkplaaDoor
open Go.RowKit

/-- The same tokens, their places aside. -/
def AlikeT (l m : List Tk) : Prop := m.length = l.length ∧ ∀ i, (h : i < l.length) → (h' : i < m.length) → l[i].k = m[i].k ∧ l[i].t = m[i].t ∧ l[i].n = m[i].n
theorem AlikeT.nil : AlikeT [] [] := ⟨rfl, fun i h => by simp at h⟩
theorem AlikeT.cons {l m : List Tk} {x y : Tk} (h : AlikeT l m) (h1 : x.k = y.k) (h2 : x.t = y.t) (h3 : x.n = y.n) : AlikeT (x :: l) (y :: m) := by
  refine ⟨by simp [h.1], fun i hi hi' => ?_⟩
  cases i with
  | zero => exact ⟨h1, h2, h3⟩
  | succ i => exact h.2 i (by simpa using hi) (by simpa using hi')
theorem AlikeT.snoc {l m : List Tk} {x y : Tk} (h : AlikeT l m) (h1 : x.k = y.k) (h2 : x.t = y.t) (h3 : x.n = y.n) : AlikeT (l ++ [x]) (m ++ [y]) := by
  refine ⟨by simp [h.1], fun i hi hi' => ?_⟩
  by_cases hl : i < l.length
  · have hm : i < m.length := by rw [h.1]; exact hl
    rw [List.getElem_append_left hl, List.getElem_append_left hm]
    exact h.2 i hl hm
  · have e : i = l.length := by simp at hi; omega
    subst e
    rw [List.getElem_append_right (Nat.le_refl _), List.getElem_append_right (by rw [h.1]; exact Nat.le_refl _)]
    simp [h.1, h1, h2, h3]
/-- Tokens as a source, from the front. -/
def joinF : List Tk → List UInt8
  | [] => []
  | [x] => tkL x
  | x :: y :: r => tkL x ++ 32 :: joinF (y :: r)
theorem joinF_snoc : ∀ (l : List Tk) (x : Tk), joinF (l ++ [x]) = joinF l ++ ((if l.length = 0 then [] else [32]) ++ tkL x)
  | [], x => by simp [joinF]
  | [y], x => by simp [joinF]
  | y :: z :: r, x => by
    have ih := joinF_snoc (z :: r) x
    simp only [List.cons_append] at ih ⊢
    rw [joinF, ih, joinF]
    simp
theorem bodyK_joinF {l : List Tk} : ∀ k, k ≤ l.length → (∀ i, (h : i < l.length) → i < k → l[i].k ≠ 8) → bodyK l k = joinF (l.take k)
  | 0, _, _ => rfl
  | k + 1, hk, h8 => by
    have ih := bodyK_joinF (l := l) k (by omega) (fun i h hi => h8 i h (by omega))
    have h1 : (l[k].k == 8) = false := beq_eq_false_iff_ne.2 (h8 k (by omega) (by omega))
    rw [bodyK_step (by omega) h1, ih, List.take_succ_eq_append_getElem (by omega), joinF_snoc, List.length_take, Nat.min_eq_left (by omega)]
/-- What a source made of tokens is read as. -/
theorem toks_joinF : ∀ (l : List Tk) (k : Nat), (∀ x ∈ l, tkOk x = true ∧ x.k ≠ 8 ∧ TkR x) → ∃ ts, toksT (joinF l) k = .ok (ts ++ [endT (k + (joinF l).length)]) ∧ AlikeT ts l
  | [], k, _ => ⟨[], by rw [joinF, toks_nil]; rfl, AlikeT.nil⟩
  | [x], k, h => by
    obtain ⟨h1, h2, h3⟩ := h x (by simp)
    obtain ⟨hh, c, r, hc, hb, h35⟩ := head_of h1 h2 h3 (.inl rfl : Gap [])
    rw [List.append_nil] at hh
    refine ⟨[⟨x.k, x.t, x.n, k⟩], ?_, AlikeT.nil.cons rfl rfl rfl⟩
    rw [joinF]
    rw [hc] at hh ⊢
    rw [toks_ok hb h35 hh (by simp), List.drop_length, toks_nil]
    rfl
  | x :: y :: r, k, h => by
    obtain ⟨h1, h2, h3⟩ := h x (by simp)
    obtain ⟨hh, c, s, hc, hb, h35⟩ := head_of h1 h2 h3 (.inr ⟨joinF (y :: r), rfl⟩ : Gap (32 :: joinF (y :: r)))
    obtain ⟨ts, hts, ha⟩ := toks_joinF (y :: r) (k + (tkL x).length + 1) (fun z hz => h z (by simp at hz ⊢; right; exact hz))
    refine ⟨⟨x.k, x.t, x.n, k⟩ :: ts, ?_, ha.cons rfl rfl rfl⟩
    rw [joinF]
    rw [hc] at hh hts ⊢
    rw [List.cons_append] at hh ⊢
    rw [toks_ok hb h35 hh (by simp), ← List.cons_append, List.drop_left, toks_blank (by decide), hts]
    have e9 : k + (c :: s).length + 1 + (joinF (y :: r)).length = k + (c :: (s ++ 32 :: joinF (y :: r))).length := by
      simp only [List.length_cons, List.length_append]
      omega
    simp only [Except.map, List.cons_append, e9]
/-- Tokens that may be joined: those that are written, and the end, if it stands there. -/
theorem okK_split {l : List Tk} (h : okK l l.length = true) : ∃ us, (l = us ∨ ∃ e, l = us ++ [e] ∧ tkOk e = true ∧ e.k = 8) ∧ ∀ x ∈ us, tkOk x = true ∧ x.k ≠ 8 := by
  have hl : l = [] ∨ ∃ us e, l = us ++ [e] := by
    rcases List.eq_nil_or_concat l with h | ⟨us, e, h⟩
    · exact .inl h
    · exact .inr ⟨us, e, by rw [h, List.concat_eq_append]⟩
  rcases hl with rfl | ⟨us, e, rfl⟩
  · exact ⟨[], .inl rfl, fun x hx => by simp at hx⟩
  · have hall : ∀ x ∈ us, tkOk x = true ∧ x.k ≠ 8 := by
      intro x hx
      obtain ⟨i, hi, rfl⟩ := List.mem_iff_getElem.1 hx
      have h1 := okK_at h (k := i) (by simp; omega)
      rw [List.getElem_append_left hi] at h1
      refine ⟨h1.1, fun h8 => ?_⟩
      have := h1.2 (by rw [h8]; rfl)
      simp at this
      omega
    have he := okK_at h (k := us.length) (by simp)
    rw [List.getElem_append_right (Nat.le_refl _)] at he
    simp only [Nat.sub_self, List.getElem_cons_zero] at he
    by_cases h8 : e.k = 8
    · exact ⟨us, .inr ⟨e, rfl, he.1, h8⟩, hall⟩
    · refine ⟨us ++ [e], .inl rfl, fun x hx => ?_⟩
      rcases List.mem_append.1 hx with hx | hx
      · exact hall x hx
      · obtain rfl : x = e := by simpa using hx
        exact ⟨he.1, h8⟩
def end0 : Tk := ⟨8, ⟨#[]⟩, 0, 0⟩
/-- Tokens with the end behind them. -/
def wholeL (l : List Tk) : List Tk := if (l.getLast?.map (·.k)) = some 8 then l else l ++ [end0]
theorem end_parts {e : Tk} (h : tkOk e = true) (h8 : e.k = 8) : e.t = ⟨#[]⟩ ∧ e.n = 0 := by
  unfold tkOk at h
  rw [h8] at h
  simp only [show ((8 : Int) = 1) = False from by simp, show ((8 : Int) = 2) = False from by simp, show ((8 : Int) = 3) = False from by simp, show ((8 : Int) = 4) = False from by simp, show ((8 : Int) = 5) = False from by simp, show ((8 : Int) = 6) = False from by simp, show ((8 : Int) = 7) = False from by simp, if_false, if_true, Bool.and_eq_true, beq_iff_eq, List.isEmpty_iff] at h
  refine ⟨?_, h.1⟩
  rw [← str_eta e.t, h.2]
theorem round_trip {l : List Tk} (h : okK l l.length = true) (hR : ∀ x ∈ l, TkR x) : ∃ ts, toksT (bodyK l l.length) 0 = .ok ts ∧ AlikeT ts (wholeL l) := by
  obtain ⟨us, hus, hall⟩ := okK_split h
  have hRu : ∀ x ∈ us, TkR x := fun x hx => by
    rcases hus with rfl | ⟨e, rfl, _⟩
    · exact hR x hx
    · exact hR x (List.mem_append_left _ hx)
  obtain ⟨ts, hts, ha⟩ := toks_joinF us 0 (fun x hx => ⟨(hall x hx).1, (hall x hx).2, hRu x hx⟩)
  have h9 := ha.snoc (x := endT (0 + (joinF us).length)) (y := end0) rfl rfl rfl
  refine ⟨_, Eq.trans ?_ hts, ?_⟩
  · congr 1
    rcases hus with rfl | ⟨e, rfl, he, h8⟩
    · rw [bodyK_joinF l.length (Nat.le_refl _) (fun i hi _ => (hall l[i] (List.getElem_mem hi)).2), List.take_length]
    · have h1 : ((us ++ [e])[us.length]'(by simp)).k = 8 := by simp [h8]
      have h2 : (us ++ [e]).length = us.length + 1 := by simp
      rw [h2, bodyK_end (by simp) (by rw [h1]; rfl), bodyK_joinF us.length (by simp) (fun i hi hi' => by rw [List.getElem_append_left hi']; exact (hall us[i] (List.getElem_mem hi')).2), List.take_left]
  · unfold wholeL
    rcases hus with rfl | ⟨e, rfl, he, h8⟩
    · rw [if_neg]
      · exact h9
      · intro hl
        obtain ⟨x, hx, h8⟩ := Option.map_eq_some_iff.1 hl
        exact (hall x (List.mem_of_getLast? hx)).2 h8
    · rw [if_pos (by simp [h8])]
      obtain ⟨het, hen⟩ := end_parts he h8
      exact ha.snoc h8.symm het.symm hen.symm
theorem qT_short (l acc : List UInt8) (k : Nat) : ∀ b k', qT l acc k = some (b, k') → b.length ≤ 200 := by
  induction l, acc, k using qT.induct with
  | case1 acc k => intro b k' h; rw [qT_nil] at h; cases h
  | case2 acc k c r h34 hb => intro b k' h; rw [qT_end _ _ _ h34, if_pos hb] at h; cases h
  | case3 acc k c r h34 hb =>
    intro b k' h
    rw [qT_end _ _ _ h34, if_neg hb] at h
    simp only [Option.some.injEq, Prod.mk.injEq] at h
    rw [← h.1]; omega
  | case4 acc k c r h34 hq => intro b k' h; rw [qT_none _ _ h34 hq] at h; cases h
  | case5 acc k c r h34 v m hq ih =>
    intro b k' h
    rw [qT_some _ _ h34 hq] at h
    exact ih b k' h
theorem size_mk (l : List UInt8) : (⟨l.toArray⟩ : ByteArray).size = l.length := by rw [← size_bl, bl_mk]
theorem wrap64_cases (u : Nat) (h : ¬ 9223372036854775808 < u) : (0 ≤ wrap64 (u : Int) ∨ wrap64 (u : Int) = leastI) ∧ -9223372036854775808 ≤ wrap64 (u : Int) ∧ wrap64 (u : Int) ≤ 9223372036854775807 := by
  unfold wrap64 leastI
  omega
/-- A token that is read may be joined; it is no end. -/
def GoodT (t : Tk) : Prop := (∀ p, tkOk ⟨t.k, t.t, t.n, p⟩ = true) ∧ t.k ≠ 8 ∧ t.t.size ≤ 65536 ∧ 1 ≤ t.k ∧ t.k ≤ 7 ∧ -9223372036854775808 ≤ t.n ∧ t.n ≤ 9223372036854775807
theorem good_word {l : List UInt8} (hl : l.all wordB = true) (h16 : l.length ≤ 65536) {t : Tk} (h : wordT l = (0, t)) : GoodT t := by
  match l, hl, h16, h with
  | [], _, _, h => simp [wordT] at h
  | c :: r, hl, h16, h =>
    have hall := hl
    rw [List.all_cons, Bool.and_eq_true] at hl
    have hc := (wordB_iff c).1 hl.1
    unfold wordT at h
    simp only at h
    split at h
    · split at h
      · simp at h
      · simp only [Prod.mk.injEq, true_and] at h
        subst h
        exact ⟨fun p => rfl, by decide, by decide, by decide, by decide, by decide, by decide⟩
    · rename_i h95
      split at h
      · unfold numT at h
        split at h
        · rename_i u hu
          split at h
          · simp at h
          · rename_i hno
            simp only [Prod.mk.injEq, true_and] at h
            subst h
            have hw := wrap64_cases u (fun h9 => hno (.inl h9))
            refine ⟨fun p => ?_, by simp, (by decide : (⟨#[]⟩ : ByteArray).size ≤ 65536), by simp, by simp, hw.2.1, hw.2.2⟩
            have hb : (bl (⟨#[]⟩ : ByteArray)).isEmpty = true := rfl
            simp only [tkOk, hb, Bool.true_and]
            simp only [show ((4 : Int) = 1) = False from by simp, show ((4 : Int) = 2) = False from by simp, show ((4 : Int) = 6) = False from by simp, show ((4 : Int) = 7) = False from by simp, show ((4 : Int) = 3) = False from by simp, if_false, if_true, Bool.or_eq_true, decide_eq_true_eq, beq_iff_eq]
            exact hw.1
        · simp at h
      · rename_i hd
        split at h
        · simp at h
        · rename_i h120
          have hdn : digitB c = false := by simpa using hd
          have hdn2 : ¬ (48 ≤ c.toNat ∧ c.toNat ≤ 57) := by
            intro h9
            rw [show digitB c = true by simp [digitB]; exact h9] at hdn
            cases hdn
          split at h
          · rename_i hu
            have hu2 : 65 ≤ c.toNat ∧ c.toNat ≤ 90 := by simpa [upperB] using hu
            simp only [Prod.mk.injEq, true_and] at h
            subst h
            refine ⟨fun p => ?_, by simp, by rw [size_mk]; exact h16, by simp, by simp, by simp, by simp⟩
            have hv : varB (c :: r) = true := by
              simp only [varB, runB, Bool.and_eq_true, decide_eq_true_eq]
              simp at h120
              exact ⟨⟨⟨by omega, hu2.1⟩, hu2.2⟩, hall⟩
            simp only [tkOk, bl_mk, hv]
            simp
          · rename_i hu
            have hu2 : ¬ (65 ≤ c.toNat ∧ c.toNat ≤ 90) := by
              intro h9
              exact hu (by simp [upperB]; exact h9)
            split at h
            · rename_i hk
              simp only [Prod.mk.injEq, true_and] at h
              subst h
              refine ⟨fun p => ?_, by simp, by rw [size_mk]; exact h16, by simp, by simp, by simp, by simp⟩
              simp only [tkOk, bl_mk, hk]
              simp
            · rename_i hk
              simp only [Prod.mk.injEq, true_and] at h
              subst h
              refine ⟨fun p => ?_, by simp, by rw [size_mk]; exact h16, by simp, by simp, by simp, by simp⟩
              have hv : nameB (c :: r) = true := by
                have hk2 : kwB (c :: r) = false := by simpa using hk
                simp only [nameB, runB, Bool.and_eq_true, decide_eq_true_eq, hk2, Bool.not_false, and_true]
                simp at h120
                have h97 : 97 ≤ c.toNat ∧ c.toNat ≤ 122 := by omega
                exact ⟨⟨⟨by omega, h97.1⟩, h97.2⟩, hall⟩
              simp only [tkOk, bl_mk, hv]
              simp
theorem good_sign {g : ByteArray} (hg : g ∈ signsT) : GoodT ⟨7, g, 0, 0⟩ := by
  simp only [signsT, List.mem_cons, List.not_mem_nil, or_false] at hg
  rcases hg with rfl | rfl | rfl | rfl | rfl | rfl | rfl | rfl | rfl | rfl | rfl | rfl | rfl | rfl | rfl | rfl | rfl | rfl <;> exact ⟨fun p => rfl, by decide, by decide, by decide, by decide, by decide, by decide⟩
theorem runL_all (l : List UInt8) : (runL l).all wordB = true := by
  unfold runL
  exact List.all_takeWhile
theorem good_head {l : List UInt8} (h16 : l.length ≤ 65536) {t : Tk} {n : Nat} (h : headT l = ((0, t), n)) : GoodT t := by
  unfold headT at h
  split at h
  · unfold quotedT at h
    split at h
    · simp at h
    · rename_i b k hq
      simp only [Prod.mk.injEq, true_and] at h
      obtain ⟨rfl, _⟩ := h
      have h1 := qT_short _ _ _ _ _ hq
      refine ⟨fun p => ?_, by simp, by rw [size_mk]; omega, by simp, by simp, by simp, by simp⟩
      simp only [tkOk, size_mk]
      simp
      omega
  · match l, h16, h with
    | [], _, h => simp [firstT] at h
    | c :: r, h16, h =>
      unfold firstT at h
      simp only at h
      split at h
      · simp only [Prod.mk.injEq] at h
        exact good_word (runL_all _) (Nat.le_trans (List.takeWhile_sublist _).length_le h16) h.1
      · split at h
        · rename_i g hg
          simp only [Prod.mk.injEq, true_and] at h
          obtain ⟨rfl, _⟩ := h
          refine good_sign ?_
          unfold sgFrom at hg
          exact List.mem_of_find?_eq_some hg
        · simp at h
theorem good_toks (l : List UInt8) (k : Nat) : ∀ ts, toksT l k = .ok ts → k + l.length ≤ 65536 → ∃ us p, ts = us ++ [endT p] ∧ p ≤ 65536 ∧ ∀ x ∈ us, tkOk x = true ∧ x.k ≠ 8 ∧ TkR x := by
  induction l, k using toksT.induct with
  | case1 k =>
    intro ts h hk
    rw [toks_nil] at h
    simp only [Except.ok.injEq] at h
    exact ⟨[], k, by rw [← h]; rfl, by simpa using hk, fun x hx => by simp at hx⟩
  | case2 k c r hb ih =>
    intro ts h hk
    rw [toks_blank hb] at h
    exact ih ts h (by simp at hk; omega)
  | case3 k c r hb h35 ih =>
    intro ts h hk
    have hb' : blankB c = false := by simpa using hb
    rw [toks_hash hb' h35] at h
    have hsp := List.takeWhile_append_dropWhile (p := fun b : UInt8 => b != 10) (l := r)
    have hlen := congrArg List.length hsp
    rw [List.length_append] at hlen
    exact ih ts h (by simp only [List.length_cons] at hk; omega)
  | case4 k c r hb h35 he ih =>
    intro ts h hk
    have hb' : blankB c = false := by simpa using hb
    obtain ⟨t, n, hq⟩ : ∃ t n, headT (c :: r) = ((0, t), n) := ⟨_, _, by rw [← he]⟩
    obtain ⟨hn1, hn2⟩ := head_len hq
    rw [toks_ok hb' h35 hq hn1] at h
    rw [hq] at ih
    have e1 : r.drop (n - 1) = (c :: r).drop n := by
      obtain ⟨j, rfl⟩ : ∃ j, n = j + 1 := ⟨n - 1, by omega⟩
      simp
    simp only [e1, show k + 1 + (n - 1) = k + n by omega] at ih
    cases hx : toksT ((c :: r).drop n) (k + n) with
    | error e => rw [hx] at h; cases h
    | ok us =>
      rw [hx] at h
      obtain ⟨vs, p, hvs, hp, hall⟩ := ih us hx (by rw [List.length_drop]; omega)
      simp only [Except.map, Except.ok.injEq] at h
      have hg := good_head (by omega) hq
      refine ⟨⟨t.k, t.t, t.n, k⟩ :: vs, p, by rw [← h, hvs]; rfl, hp, fun x hx => ?_⟩
      rcases List.mem_cons.1 hx with rfl | hx
      · obtain ⟨g1, g2, g3, g4, g5, g6, g7⟩ := hg
        exact ⟨g1 _, g2, ⟨by unfold maxLen; simp only; omega, by simp only; omega, by simp only; omega, g6, g7, by simp only; omega, by simp only; omega⟩⟩
      · exact hall x hx
  | case5 k c r hb h35 he =>
    intro ts h _
    rw [toks_err (by simpa using hb) h35 he] at h
    cases h
theorem okK_of {us : List Tk} {e : Tk} (hu : ∀ x ∈ us, tkOk x = true ∧ x.k ≠ 8) (he : tkOk e = true) : okK (us ++ [e]) (us ++ [e]).length = true := by
  have hk : ∀ k, k ≤ (us ++ [e]).length → okK (us ++ [e]) k = true := by
    intro k
    induction k with
    | zero => intro _; rfl
    | succ k ih =>
      intro hk
      rw [okK_step (by omega), ih (by omega), Bool.true_and, Bool.and_eq_true, Bool.or_eq_true, Bool.not_eq_true', decide_eq_true_eq, beq_eq_false_iff_ne]
      by_cases hl : k < us.length
      · rw [List.getElem_append_left hl]
        have h1 := hu us[k] (List.getElem_mem hl)
        exact ⟨h1.1, .inl h1.2⟩
      · have e1 : k = us.length := by simp at hk; omega
        subst e1
        rw [List.getElem_append_right (Nat.le_refl _)]
        simp [he]
  exact hk _ (Nat.le_refl _)
theorem toks_len (l : List UInt8) (k : Nat) : ∀ ts, toksT l k = .ok ts → ts.length ≤ l.length + 1 := by
  induction l, k using toksT.induct with
  | case1 k =>
    intro ts h
    rw [toks_nil] at h
    simp only [Except.ok.injEq] at h
    rw [← h]; simp
  | case2 k c r hb ih =>
    intro ts h
    rw [toks_blank hb] at h
    have := ih ts h
    simp; omega
  | case3 k c r hb h35 ih =>
    intro ts h
    have hb' : blankB c = false := by simpa using hb
    rw [toks_hash hb' h35] at h
    have h1 := ih ts h
    have h2 := (List.dropWhile_sublist (fun b : UInt8 => b != 10) (l := r)).length_le
    simp; omega
  | case4 k c r hb h35 he ih =>
    intro ts h
    have hb' : blankB c = false := by simpa using hb
    obtain ⟨t, n, hq⟩ : ∃ t n, headT (c :: r) = ((0, t), n) := ⟨_, _, by rw [← he]⟩
    obtain ⟨hn1, hn2⟩ := head_len hq
    rw [toks_ok hb' h35 hq hn1] at h
    rw [hq] at ih
    have e1 : r.drop (n - 1) = (c :: r).drop n := by
      obtain ⟨j, rfl⟩ : ∃ j, n = j + 1 := ⟨n - 1, by omega⟩
      simp
    simp only [e1, show k + 1 + (n - 1) = k + n by omega] at ih
    cases hx : toksT ((c :: r).drop n) (k + n) with
    | error e => rw [hx] at h; cases h
    | ok us =>
      rw [hx] at h
      have h1 := ih us hx
      simp only [Except.map, Except.ok.injEq] at h
      rw [← h]
      rw [List.length_drop] at h1
      simp at h1 hn2 ⊢; omega
  | case5 k c r hb h35 he =>
    intro ts h
    rw [toks_err (by simpa using hb) h35 he] at h
    cases h
/-- What is read may be joined, and is read as the same. -/
theorem read_back {l : List UInt8} {ts : List Tk} (h : tokR l = .ok ts) : okK ts ts.length = true ∧ (∀ x ∈ ts, TkR x) ∧ wholeL ts = ts ∧ ts.length ≤ 65537 := by
  unfold tokR at h
  split at h
  · cases h
  · obtain ⟨us, p, rfl, hp, hall⟩ := good_toks l 0 ts h (by omega)
    refine ⟨okK_of (fun x hx => ⟨(hall x hx).1, (hall x hx).2.1⟩) rfl, fun x hx => ?_, ?_, ?_⟩
    · rcases List.mem_append.1 hx with hx | hx
      · exact (hall x hx).2.2
      · obtain rfl : x = endT p := by simpa using hx
        exact ⟨(show (⟨#[]⟩ : ByteArray).size ≤ maxLen by unfold maxLen; decide), by simp [endT], by simp [endT], by simp [endT], by simp [endT], by simp only [endT]; omega, by simp only [endT]; omega⟩
    · unfold wholeL
      rw [if_pos]
      simp [endT]
    · have := toks_len l 0 _ h
      omega
end Go.Proofs.YtcigdlpljjkplaaDoor
