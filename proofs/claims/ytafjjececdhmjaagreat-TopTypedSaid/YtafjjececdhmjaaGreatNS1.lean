/- Rules: the plain data; what the checks, the variables and the writers of rules compute; no program in sight. Conditions: none. -/
import Derived.Test.YtafjjececdhmjaaGreatNKu
import Derived.Test.YtafjjececdhmjaaGreatNKp
import Derived.Maps.Views
namespace Go.Proofs.YtafjjececdhmjaaGreat
open Go.RowKit

/-- An argument of a head: its aggregate, its term. -/
structure Ag where
  g : Int
  t : Tm
def Ag.cells (a : Ag) : List Value := [.int .i8 a.g, .string a.t.v, .int .i8 a.t.x.k, .int .i64 a.t.x.n, .string a.t.x.t]
/-- term.argument -/
def agOk (a : Ag) : Bool := if a.g = 0 then solidB a.t else if a.g = 1 then tmZero a.t else if 2 ≤ a.g ∧ a.g ≤ 4 then !(bl a.t.v).isEmpty && solidB a.t else false
def foldsL : List ByteArray := [⟨#[]⟩, ⟨#[]⟩, ⟨#[115, 117, 109]⟩, ⟨#[109, 105, 110]⟩, ⟨#[109, 97, 120]⟩]
/-- An argument's text. -/
def agL (a : Ag) : List UInt8 := if a.g = 0 then termL a.t else if a.g = 1 then [99, 111, 117, 110, 116, 40, 41] else bl (foldsL.getD a.g.toNat ⟨#[]⟩) ++ (40 :: (bl a.t.v ++ [41]))
/-- The terms of an expression, in order. -/
def exTms : (d : Nat) → Ex d → List Tm
  | 0, e => nomatch e
  | d + 1, e => e.2.1 :: e.2.2.2.flatMap (exTms d)
def ltTms {d : Nat} (x : Lt d) : List Tm := x.ts ++ (exTms d x.l ++ exTms d x.g)
def ruTms {d : Nat} (hs : List Ag) (bs : List (Lt d)) : List Tm := hs.map (·.t) ++ bs.flatMap ltTms
/-- Is a term a variable that is not there yet? -/
def newV (acc : List (List UInt8)) (t : Tm) : Bool := !(bl t.v).isEmpty && !(bl t.v == [95]) && !acc.contains (bl t.v)
def addV (acc : List (List UInt8)) (t : Tm) : List (List UInt8) := if newV acc t then acc ++ [bl t.v] else acc
/-- The variables of terms, each once, as they come first. -/
def varsL (l : List Tm) : List (List UInt8) := l.foldl addV []
/-- term.CheckRule -/
def ruOk {d : Nat} (p : ByteArray) (hs : List Ag) (bs : List (Lt d)) : Bool :=
  nameB (bl p) && decide (hs.length ≤ 24) && decide (bs.length ≤ 16) && hs.all agOk && bs.all ltOk && decide ((varsL (ruTms hs bs)).length ≤ 24)
/-- A body's text. -/
def bodL {d : Nat} : Bool → List (Lt d) → List UInt8
  | _, [] => []
  | f, x :: r => (if f then [32, 58, 45, 32] else [44, 32]) ++ (litL x ++ bodL false r)
def ruL {d : Nat} (p : ByteArray) (hs : List Ag) (bs : List (Lt d)) : List UInt8 := colsL (bl p) (hs.map agL) ++ (bodL true bs ++ [46])
theorem addV_len (acc : List (List UInt8)) (t : Tm) : acc.length ≤ (addV acc t).length ∧ (addV acc t).length ≤ acc.length + 1 := by
  unfold addV
  split
  · simp
  · omega
theorem foldV_len (l : List Tm) : ∀ acc : List (List UInt8), acc.length ≤ (l.foldl addV acc).length ∧ (l.foldl addV acc).length ≤ acc.length + l.length := by
  induction l with
  | nil => intro acc; simp
  | cons t r ih =>
    intro acc
    have h1 := addV_len acc t
    have h2 := ih (addV acc t)
    simp only [List.foldl_cons, List.length_cons]
    omega
/-- How many terms an expression has that may be. -/
theorem exTms_len : ∀ (n d : Nat) (e : Ex d), exOk n d e = true → (exTms d e).length + 1 ≤ 2 ^ n
  | 0, d + 1, e, h => by simp [exOk] at h
  | _, 0, e, _ => nomatch e
  | n + 1, d + 1, e, h => by
    rw [exOk] at h
    rw [exTms, List.length_cons]
    have hp := Nat.one_le_two_pow (n := n)
    split at h
    · rw [Bool.and_eq_true, List.isEmpty_iff] at h
      rw [h.1, Nat.pow_succ]
      simp
      omega
    · simp only [Bool.and_eq_true, decide_eq_true_eq] at h
      have ih : ∀ k ∈ e.2.2.2, (exTms d k).length + 1 ≤ 2 ^ n := fun k hk => exTms_len n d k (List.all_eq_true.1 h.2 k hk)
      have hl : e.2.2.2.length ≤ 2 := by
        have h2 := h.1.2
        unfold arityI at h2
        split at h2
        · omega
        · split at h2 <;> omega
      rw [Nat.pow_succ]
      match hk : e.2.2.2 with
      | [] => simp; omega
      | [a] =>
        have h1 := ih a (by rw [hk]; simp)
        simp only [List.flatMap_cons, List.flatMap_nil, List.append_nil]
        omega
      | [a, b] =>
        have h1 := ih a (by rw [hk]; simp)
        have h2 := ih b (by rw [hk]; simp)
        simp only [List.flatMap_cons, List.flatMap_nil, List.append_nil, List.length_append]
        omega
      | a :: b :: c :: r => rw [hk] at hl; simp at hl
theorem noB_tms : (d : Nat) → (e : Ex d) → noB (exOp d e) (exTm d e) (exLen d e) = true → (exTms d e).length = 1
  | 0, e, _ => nomatch e
  | d + 1, e, h => by
    simp only [noB, Bool.and_eq_true, exLen] at h
    rw [exTms, List.eq_nil_of_length_eq_zero (of_decide_eq_true h.2)]
    rfl
theorem ltTms_len {d : Nat} {x : Lt d} (h : ltOk x = true) : (ltTms x).length ≤ 600 := by
  unfold ltOk at h
  unfold ltTms
  rw [List.length_append, List.length_append]
  split at h
  · simp only [Bool.and_eq_true] at h
    have h1 := atOk_24 h.1.1.1
    have h2 := noB_tms d x.l h.1.2
    have h3 := noB_tms d x.g h.2
    omega
  · split at h
    · simp only [Bool.and_eq_true, decide_eq_true_eq] at h
      have h2 := exTms_len 8 d x.l h.1.2
      have h3 := exTms_len 8 d x.g h.2
      omega
    · cases h
theorem ruTms_len {d : Nat} {hs : List Ag} {bs : List (Lt d)} (h1 : hs.length ≤ 24) (h2 : bs.length ≤ 16) (h : ∀ x ∈ bs, ltOk x = true) : (ruTms hs bs).length ≤ 10000 := by
  unfold ruTms
  rw [List.length_append, List.length_map]
  have h3 : ∀ l : List (Lt d), (∀ x ∈ l, ltOk x = true) → (l.flatMap ltTms).length ≤ 600 * l.length := by
    intro l
    induction l with
    | nil => intro _; simp
    | cons x r ih =>
      intro hl
      have h4 := ltTms_len (hl x (by simp))
      have h5 := ih (fun y hy => hl y (by simp [hy]))
      rw [List.flatMap_cons, List.length_append, List.length_cons]
      omega
  have := h3 bs h
  omega
/-! The map of the variables' numbers. -/
/-- What a map of the variables' numbers says. -/
structure ThereD (D : DataW Unit) (acc : List (List UInt8)) : Prop where
  map_ : Maps.IsMap D
  yes : ∀ v, v ∈ acc → ∃ c : Int, 1 ≤ c ∧ ∀ z, D.atKey (.string v) z = .lit (.int .i64 c)
  no : ∀ v, v ∉ acc → ∀ z, D.atKey (.string v) z = z
theorem ThereD.nil : ThereD (.map []) [] := ⟨⟨[], rfl⟩, fun v hv => by simp at hv, fun v _ z => rfl⟩
theorem ThereD.snoc {D : DataW Unit} {acc : List (List UInt8)} (h : ThereD D acc) (v : List UInt8) {c : Int} (hc : 1 ≤ c) : ThereD (D.put (.string v) (.lit (.int .i64 c))) (acc ++ [v]) := by
  have hk : WideAt.IsKeyLit (.string v) := trivial
  refine ⟨?_, fun u hu => ?_, fun u hu z => ?_⟩
  · obtain ⟨es, rfl⟩ := h.map_
    exact ⟨_, rfl⟩
  · by_cases he : u = v
    · subst he
      exact ⟨c, hc, fun z => Maps.atKey_put_same h.map_ hk _ z⟩
    · have hu2 : u ∈ acc := by
        rcases List.mem_append.1 hu with h1 | h1
        · exact h1
        · exact absurd (by simpa using h1) he
      obtain ⟨c', hc', hz⟩ := h.yes u hu2
      exact ⟨c', hc', fun z => by rw [Maps.atKey_put_other (fun h9 => he (by simpa using h9))]; exact hz z⟩
  · have h1 : u ∉ acc := fun h9 => hu (List.mem_append_left _ h9)
    have h2 : u ≠ v := fun h9 => hu (by rw [h9]; simp)
    rw [Maps.atKey_put_other (fun h9 => h2 (by simpa using h9))]
    exact h.no u h1 z
end Go.Proofs.YtafjjececdhmjaaGreat
