/- Tokens joined, in plain Lean; the contract of lex.Join. Conditions: the tables lie as the program lays them; the tokens lie as they are told. -/
import Derived.Test.YtcigdlpljjkplaaDoorJ1
import Derived.Test.YtcigdlpljjkplaaDoorG7
import Derived.Test.YtcigdlpljjkplaaDoorL7
namespace Go.Proofs.YtcigdlpljjkplaaDoor
open Go.RowKit

/-- May the first k tokens stand there? -/
def okK (l : List Tk) : Nat → Bool
  | 0 => true
  | k + 1 => okK l k && (match l[k]? with | some x => tkOk x && (!(x.k == 8) || decide (k + 1 = l.length)) | none => true)
/-- The text of the first k tokens. -/
def bodyK (l : List Tk) : Nat → List UInt8
  | 0 => []
  | k + 1 => bodyK l k ++ (match l[k]? with | some x => if (x.k == 8) = true then [] else (if k = 0 then [] else [32]) ++ tkL x | none => [])
/-- What Join answers. -/
def joinR (l : List Tk) : Value :=
  if okK l l.length then (if 65536 < (bodyK l l.length).length then .tuple #[.string ⟨#[]⟩, .int .i64 30] else .tuple #[.string ⟨(bodyK l l.length).toArray⟩, .int .i64 0]) else .tuple #[.string ⟨#[]⟩, .int .i64 1]
theorem okK_step {l : List Tk} {k : Nat} (h : k < l.length) : okK l (k + 1) = (okK l k && (tkOk l[k] && (!(l[k].k == 8) || decide (k + 1 = l.length)))) := by
  rw [okK, List.getElem?_eq_getElem h]
theorem okK_mono {l : List Tk} {k : Nat} (hf : okK l k = false) : ∀ n, k ≤ n → okK l n = false := by
  intro n hn
  induction n with
  | zero => obtain rfl : k = 0 := by omega
            exact hf
  | succ n ih =>
    by_cases e : k = n + 1
    · rw [← e]; exact hf
    · rw [okK, ih (by omega)]; rfl
theorem okK_at {l : List Tk} {k : Nat} (h : okK l l.length = true) (hk : k < l.length) : tkOk l[k] = true ∧ ((l[k].k == 8) = true → k + 1 = l.length) := by
  have h1 : okK l (k + 1) = true := by
    rcases hq : okK l (k + 1) with _ | _
    · rw [okK_mono hq l.length (by omega)] at h; exact absurd h (by decide)
    · rfl
  rw [okK_step hk] at h1
  simp only [Bool.and_eq_true, Bool.or_eq_true, Bool.not_eq_true', decide_eq_true_eq] at h1
  refine ⟨h1.2.1, fun h8 => ?_⟩
  rcases h1.2.2 with h3 | h3
  · rw [h8] at h3; exact absurd h3 (by decide)
  · exact h3
theorem bodyK_step {l : List Tk} {k : Nat} (h : k < l.length) (h8 : (l[k].k == 8) = false) : bodyK l (k + 1) = bodyK l k ++ ((if k = 0 then [] else [32]) ++ tkL l[k]) := by
  rw [bodyK, List.getElem?_eq_getElem h]
  simp only [h8, Bool.false_eq_true, if_false]
theorem bodyK_end {l : List Tk} {k : Nat} (h : k < l.length) (h8 : (l[k].k == 8) = true) : bodyK l (k + 1) = bodyK l k := by
  rw [bodyK, List.getElem?_eq_getElem h]
  simp only [h8, if_true, List.append_nil]
theorem bodyK_mono (l : List Tk) (k : Nat) : ∀ n, k ≤ n → (bodyK l k).length ≤ (bodyK l n).length := by
  intro n hn
  induction n with
  | zero => obtain rfl : k = 0 := by omega
            exact Nat.le_refl _
  | succ n ih =>
    by_cases e : k = n + 1
    · rw [← e]; exact Nat.le_refl _
    · refine Nat.le_trans (ih (by omega)) ?_
      rw [bodyK, List.length_append]
      omega
theorem joinR_no {l : List Tk} (h : okK l l.length = false) : joinR l = .tuple #[.string ⟨#[]⟩, .int .i64 1] := by rw [joinR, h]; rfl
theorem joinR_long {l : List Tk} (h : okK l l.length = true) (hb : 65536 < (bodyK l l.length).length) : joinR l = .tuple #[.string ⟨#[]⟩, .int .i64 30] := by rw [joinR, h, if_pos rfl, if_pos hb]
theorem joinR_yes {l : List Tk} (h : okK l l.length = true) (hb : ¬ 65536 < (bodyK l l.length).length) : joinR l = .tuple #[.string ⟨(bodyK l l.length).toArray⟩, .int .i64 0] := by rw [joinR, h, if_pos rfl, if_neg hb]
theorem runB_len {fr to : UInt8} : ∀ {l : List UInt8}, runB fr to l = true → l.length ≤ 120
  | [], _ => by simp
  | c :: r, h => by simp [runB] at h; simp; omega
theorem quote_len : ∀ l : List UInt8, (quoteL l).length ≤ 4 * l.length + 2 := by
  intro l
  have h : ∀ l : List UInt8, (escL l).length ≤ 4 * l.length := by
    intro l
    induction l with
    | nil => simp [escL]
    | cons c r ih =>
      have h1 : (escB c).length ≤ 4 := by unfold escB; split <;> (try split) <;> (try split) <;> simp
      simp [escL]; omega
  have := h l
  simp [quoteL]; omega
theorem tkL_le {x : Tk} (h : tkOk x = true) : (tkL x).length ≤ 802 := by
  unfold tkL
  unfold tkOk at h
  split
  · simp
  split
  · have := dec_len (IntKind.u64.wrap x.n).toNat (by rw [IntKind.wrap_u64]; omega)
    omega
  split
  · rename_i h3 h4 h5
    rw [if_neg (by omega), if_neg (by omega), if_neg (by omega), if_neg (by omega), if_neg (by omega), if_neg (by omega), if_pos h5] at h
    simp only [Bool.and_eq_true, decide_eq_true_eq] at h
    have h6 := quote_len (bl x.t)
    rw [size_bl] at h6
    omega
  split
  · simp
  · rename_i h3 h4 h5 h8
    by_cases h1 : x.k = 1
    · rw [if_pos h1] at h
      simp only [Bool.and_eq_true, nameB] at h
      have := runB_len h.2.1
      omega
    · rw [if_neg h1] at h
      by_cases h2 : x.k = 2
      · rw [if_pos h2] at h
        simp only [Bool.and_eq_true, varB] at h
        have := runB_len h.2
        omega
      · rw [if_neg h2] at h
        by_cases h6 : x.k = 6
        · rw [if_pos h6] at h
          simp only [Bool.and_eq_true, kwB, Bool.or_eq_true, beq_iff_eq] at h
          rcases h.2 with ((((((h | h) | h) | h) | h) | h) | h) | h <;> rw [h] <;> decide
        · rw [if_neg h6] at h
          by_cases h7 : x.k = 7
          · rw [if_pos h7] at h
            simp only [Bool.and_eq_true, signB, List.any_eq_true, beq_iff_eq] at h
            obtain ⟨_, g, hg, hl⟩ := h
            have h9 : ∀ g ∈ signsT, (bl g).length ≤ 802 := by decide
            rw [hl]; exact h9 g hg
          · rw [if_neg h7, if_neg h3, if_neg h4, if_neg h5, if_neg h8] at h
            exact absurd h (by decide)
theorem txR_ok {x : Tk} (h : tkOk x = true) : txR x = .tuple #[.string ⟨(tkL x).toArray⟩, .int .i64 0] := by rw [txR, if_pos h]
theorem txR_no {x : Tk} (h : tkOk x = false) : txR x = .tuple #[.string ⟨#[]⟩, .int .i64 1] := by rw [txR, if_neg (by rw [h]; decide)]
end Go.Proofs.YtcigdlpljjkplaaDoor
