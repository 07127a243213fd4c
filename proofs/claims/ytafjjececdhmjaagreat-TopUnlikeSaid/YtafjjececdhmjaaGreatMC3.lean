/- The contracts of the reference's CheckLiteral, rel, literal and Literal. Conditions: the literal lies in memory as it is told. -/
import Derived.Test.YtafjjececdhmjaaGreatMC2
import Derived.Deep.RegionHeld3
namespace Go.Proofs.YtafjjececdhmjaaGreat
open Go.RowKit

def relL : List ByteArray := [⟨#[]⟩, ⟨#[61]⟩, ⟨#[33, 61]⟩, ⟨#[60]⟩, ⟨#[60, 61]⟩, ⟨#[62]⟩, ⟨#[62, 61]⟩]
theorem rel_len : ∀ i, i < 7 → (bl (relL.getD i ⟨#[]⟩)).length ≤ 2 := by decide
/-- A literal's text. -/
def litL {d : Nat} (x : Lt d) : List UInt8 :=
  if x.k = 1 then atomL x.p x.ts else if x.k = 2 then [110, 111, 116, 32] ++ atomL x.p x.ts else exprL d x.l ++ (32 :: (bl (relL.getD x.r.toNat ⟨#[]⟩) ++ [32])) ++ exprL d x.g
theorem lt_open {d : Nat} {x : Lt d} (h : ltOk x = true) : (x.k = 1 ∧ atOk x.p x.ts = true) ∨ (x.k = 2 ∧ atOk x.p x.ts = true) ∨ (x.k = 3 ∧ 1 ≤ x.r ∧ x.r ≤ 6 ∧ exOk 8 d x.l = true ∧ exOk 8 d x.g = true) := by
  unfold ltOk at h
  split at h
  · rename_i hk
    simp only [Bool.and_eq_true] at h
    rcases hk with hk | hk
    · exact .inl ⟨hk, h.1.1.1⟩
    · exact .inr (.inl ⟨hk, h.1.1.1⟩)
  · split at h
    · rename_i hk
      simp only [Bool.and_eq_true, decide_eq_true_eq] at h
      exact .inr (.inr ⟨hk, h.1.1.1.2, h.1.1.2, h.1.2, h.2⟩)
    · cases h
theorem litL_le {d : Nat} {x : Lt d} (hr : LtR x) (h : ltOk x = true) : (litL x).length ≤ 500000 := by
  unfold litL
  rcases lt_open h with ⟨hk, ha⟩ | ⟨hk, ha⟩ | ⟨hk, h1, h6, hl, hg⟩
  · rw [if_pos hk]
    have := atomL_le hr.ts_ ha
    omega
  · rw [if_neg (by omega), if_pos hk]
    have := atomL_le hr.ts_ ha
    simp
    omega
  · rw [if_neg (by omega), if_neg (by omega)]
    have a1 := exprL_b (by omega) hl hr.l_
    have a2 := exprL_b (by omega) hg hr.g_
    have a3 := rel_len x.r.toNat (by omega)
    simp only [List.length_append, List.length_cons, List.length_nil]
    omega
end Go.Proofs.YtafjjececdhmjaaGreat
