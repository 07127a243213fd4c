/- The contracts of terms and atoms, printed. Conditions: each part says its own. -/
import Derived.Test.YtafjjececdhmjaaGreatNMA
import Derived.Test.YtafjjececdhmjaaGreatNMB
import Derived.Test.YtafjjececdhmjaaGreatNShelf
import Derived.StillTailTactics
/- The contracts of value.Show and of the reference's. Conditions: a number is one that int64 holds; a text is no longer than the model lets any be. -/
namespace Go.Proofs.YtafjjececdhmjaaGreat
open Go.RowKit

/-- What a value is within its types' bounds. -/
structure VlR (k n : Int) (t : ByteArray) : Prop where
  n0 : -9223372036854775808 ≤ n
  n1 : n ≤ 9223372036854775807
  t0 : t.size ≤ maxLen
theorem rName (s : ByteArray) (w : World) (hs : s.size ≤ maxLen) :
    Calls Tryz.prog 51 #[.string s] w fun e w' => e = .returned (.bool (nameB (bl s))) ∧ w = w' := by
  rcases hr : runB 97 122 (bl s) with _ | _
  · have HE := Lib.hid (show nameB (bl s) = false by simp [nameB, hr])
    have HR := Lib.hid hr; clear hr
    go_enter Tryz.func51, Tryz.ntmps51
    go_wp2_with fail
    refine (rWritten s 97 122 _ hs (fun c h1 h2 => (wordB_iff c).2 (.inl ⟨h1, h2⟩))).mono ?_
    rintro e w' ⟨rfl, rfl⟩
    rw [HR.out]
    go_wp2_with fail
    go_ret
    exact ⟨ret_bool HE.out.symm, rfl⟩
  · have HE := Lib.hid (show nameB (bl s) = !kwB (bl s) by simp [nameB, hr])
    have HR := Lib.hid hr; clear hr
    go_enter Tryz.func51, Tryz.ntmps51
    go_wp2_with fail
    refine (rWritten s 97 122 _ hs (fun c h1 h2 => (wordB_iff c).2 (.inl ⟨h1, h2⟩))).mono ?_
    rintro e w' ⟨rfl, rfl⟩
    rw [HR.out]
    go_wp2_with fail
    refine (rKeyword s _).mono ?_
    rintro e w' ⟨rfl, rfl⟩
    go_wp2_with fail
    go_ret
    exact ⟨ret_bool HE.out.symm, rfl⟩
theorem rVariable (s : ByteArray) (w : World) (hs : s.size ≤ maxLen) :
    Calls Tryz.prog 115 #[.string s] w fun e w' => e = .returned (.bool (varB (bl s))) ∧ w = w' := by
  go_enter Tryz.func115, Tryz.ntmps115
  go_wp2_with fail
  refine (rWritten s 65 90 _ hs (fun c h1 h2 => (wordB_iff c).2 (.inr (.inl ⟨h1, h2⟩)))).mono ?_
  rintro e w' ⟨rfl, rfl⟩
  go_wp2_with fail
  go_ret
  exact ⟨rfl, rfl⟩
theorem ret_show {a b : List UInt8} {m n : Int} (h : a = b) (hm : m = n) : Ending.returned (.tuple #[.string ⟨a.toArray⟩, .int .i64 m]) = .returned (.tuple #[.string ⟨b.toArray⟩, .int .i64 n]) := by rw [h, hm]
end Go.Proofs.YtafjjececdhmjaaGreat

/- The contracts of term.CheckTerm and of the reference's. Conditions: a text is no longer than the model lets any be. -/
namespace Go.Proofs.YtafjjececdhmjaaGreat
open Go.RowKit

def zeroVl : Value := .agg #[.int .i8 0, .int .i64 0, .string ⟨#[]⟩]
theorem vl_eq0 (k n : Int) (t : ByteArray) (w : World) :
    (binOp .eql 91 (.agg #[.int .i8 k, .int .i64 n, .string t]) (.agg #[.int .i8 0, .int .i64 0, .string ⟨#[]⟩])).run Tryz.prog w = .ok (.bool (vlZero ⟨k, n, t⟩)) w := by
  by_cases hk : k = 0
  · by_cases hn : n = 0
    · subst hk; subst hn
      go_simp
      by_cases ht : t.toList = [] <;> simp [vlZero, bl, ← ByteArray.toList_eq, ht]
    · subst hk
      go_simp
      simp [vlZero, hn]
  · go_simp
    simp [vlZero, hk]
set_option maxHeartbeats 1000000 in
theorem tCheckTerm (v : ByteArray) (k n : Int) (t : ByteArray) (w : World) (hv : v.size ≤ maxLen) :
    Calls Tryz.prog 119 #[.agg #[.string v, .int .i8 k, .int .i64 n, .string t]] w fun e w' => e = .returned (.int .i64 (okCode (tmOk ⟨v, ⟨k, n, t⟩⟩) 40)) ∧ Below w.heap.size w w' := by
  by_cases h0 : v.toList.isEmpty = true
  · have HE := Lib.hid (show tmOk ⟨v, ⟨k, n, t⟩⟩ = vlOk ⟨k, n, t⟩ by unfold tmOk; rw [if_pos (by rw [bl, ← ByteArray.toList_eq]; exact h0)])
    go_enter Tryz.func119, Tryz.ntmps119
    go_wp2_with fail
    refine (vCheck k n t _).mono ?_
    rintro e w1 ⟨rfl, hb⟩
    have Hb := Lib.hid hb; clear hb
    obtain ⟨x, hx⟩ : ∃ x, x = vlOk ⟨k, n, t⟩ := ⟨_, rfl⟩
    rw [← hx] at HE
    rw [← hx]
    clear hx
    cases x
    all_goals
      first | rw [show okCode false 10 = 10 from rfl] | rw [show okCode true 10 = 0 from rfl]
      go_wp2_with fail
      refine (tCode _ _).mono ?_
      rintro e w2 ⟨rfl, rfl⟩
      go_wp2_with fail
      go_ret
      exact ⟨ret_int (by rw [HE.out]), ((Below.refl _ _).alloc (Nat.le_refl _) _).trans (Hb.out.mono (by simp))⟩
  · have h0' : v.toList.isEmpty = false := by simpa using h0
    have hq : ∀ w, _ := fun w => vl_eq0 k n t w
    have HE := Lib.hid (show tmOk ⟨v, ⟨k, n, t⟩⟩ = (vlZero ⟨k, n, t⟩ && (bl v == [95] || varB (bl v))) by unfold tmOk; rw [if_neg (by rw [bl, ← ByteArray.toList_eq]; exact h0)])
    obtain ⟨z, hz⟩ : ∃ z, z = vlZero ⟨k, n, t⟩ := ⟨_, rfl⟩
    rw [← hz] at HE
    simp only [← hz] at hq
    clear hz h0
    cases z
    · go_enter Tryz.func119, Tryz.ntmps119
      go_wp2_with fail
      refine (tCode _ _).mono ?_
      rintro e w2 ⟨rfl, rfl⟩
      go_wp2_with fail
      go_ret
      exact ⟨ret_int (by rw [HE.out]; rfl), ((Below.refl _ _).alloc (Nat.le_refl _) _)⟩
    · by_cases h95 : v.toList = [95]
      · have h95' : (v.toList == [95]) = true := by simp [h95]
        have HE2 := Lib.hid (show tmOk ⟨v, ⟨k, n, t⟩⟩ = true by rw [HE.out, bl, ← ByteArray.toList_eq, h95']; rfl)
        clear HE h95
        go_enter Tryz.func119, Tryz.ntmps119
        go_wp2_with fail
        refine (tCode _ _).mono ?_
        rintro e w2 ⟨rfl, rfl⟩
        go_wp2_with fail
        go_ret
        exact ⟨ret_int (by rw [HE2.out]), ((Below.refl _ _).alloc (Nat.le_refl _) _)⟩
      · have h95' : (v.toList == [95]) = false := by simpa using h95
        have HE2 := Lib.hid (show tmOk ⟨v, ⟨k, n, t⟩⟩ = varB (bl v) by rw [HE.out, show (bl v == [95]) = false by rw [bl, ← ByteArray.toList_eq]; exact h95']; rfl)
        clear HE h95
        go_enter Tryz.func119, Tryz.ntmps119
        go_wp2_with fail
        refine (tWord v 65 90 _ hv).mono ?_
        rintro e w1 ⟨rfl, hb⟩
        have Hb := Lib.hid hb; clear hb
        rw [show runB 65 90 (bl v) = varB (bl v) from rfl]
        obtain ⟨z, hz⟩ : ∃ z, z = varB (bl v) := ⟨_, rfl⟩
        rw [← hz] at HE2
        rw [← hz]
        clear hz
        go_wp2_with fail
        refine (tCode _ _).mono ?_
        rintro e w2 ⟨rfl, rfl⟩
        go_wp2_with fail
        go_ret
        exact ⟨ret_int (by rw [HE2.out]), ((Below.refl _ _).alloc (Nat.le_refl _) _).trans (Hb.out.mono (by simp))⟩
end Go.Proofs.YtafjjececdhmjaaGreat

/- The contracts of the reference's CheckTerm, of its term's text and of Term. Conditions: a number is one that int64 holds; a text is no longer than the model lets any be. -/
namespace Go.Proofs.YtafjjececdhmjaaGreat
open Go.RowKit

/-- What a term is within its types' bounds. -/
structure TmR (v : ByteArray) (k n : Int) (t : ByteArray) : Prop extends VlR k n t where
  v0 : v.size ≤ maxLen
set_option maxHeartbeats 1000000 in
theorem rterm (v : ByteArray) (k n : Int) (t : ByteArray) (w : World) (hv : v.size ≤ maxLen) :
    Calls Tryz.prog 92 #[.agg #[.string v, .int .i8 k, .int .i64 n, .string t]] w fun e w' => e = .returned (.bool (tmOk ⟨v, ⟨k, n, t⟩⟩)) ∧ Below w.heap.size w w' := by
  by_cases h0 : v.toList = []
  · have HE := Lib.hid (show tmOk ⟨v, ⟨k, n, t⟩⟩ = vlOk ⟨k, n, t⟩ by unfold tmOk; rw [if_pos (by rw [bl, ← ByteArray.toList_eq, h0]; rfl)])
    go_enter Tryz.func92, Tryz.ntmps92
    go_wp2_with fail
    refine (rCheck k n t _).mono ?_
    rintro e w1 ⟨rfl, hb⟩
    have Hb := Lib.hid hb; clear hb
    obtain ⟨x, hx⟩ : ∃ x, x = vlOk ⟨k, n, t⟩ := ⟨_, rfl⟩
    rw [← hx] at HE
    rw [← hx]
    clear hx
    cases x
    all_goals
      first | rw [show okCode false 10 = 10 from rfl] | rw [show okCode true 10 = 0 from rfl]
      go_wp2_with fail
      go_ret
      exact ⟨ret_bool (by rw [HE.out]), (((Below.refl _ _).alloc (Nat.le_refl _) _).alloc (by simp) _).trans (Hb.out.mono (by simp; omega))⟩
  · have h0' : (v.toList == []) = false := by simpa using h0
    have hq : ∀ w, _ := fun w => vl_eq0 k n t w
    have HE := Lib.hid (show tmOk ⟨v, ⟨k, n, t⟩⟩ = (vlZero ⟨k, n, t⟩ && (bl v == [95] || varB (bl v))) by unfold tmOk; rw [if_neg (by rw [bl, ← ByteArray.toList_eq]; simpa using h0)])
    obtain ⟨z, hz⟩ : ∃ z, z = vlZero ⟨k, n, t⟩ := ⟨_, rfl⟩
    rw [← hz] at HE
    simp only [← hz] at hq
    clear hz
    have h1 : v.toList.isEmpty = false := by simpa using h0
    clear h0
    by_cases h95 : v.toList = [95]
    · have h95' : (v.toList == [95]) = true := by simp [h95]
      have HE2 := Lib.hid (show tmOk ⟨v, ⟨k, n, t⟩⟩ = z by rw [HE.out, bl, ← ByteArray.toList_eq, h95']; simp)
      clear HE h0' h1 h95'
      go_enter Tryz.func92, Tryz.ntmps92
      go_wp2_with fail
      go_ret
      exact ⟨ret_bool (by rw [HE2.out]), (((Below.refl _ _).alloc (Nat.le_refl _) _).alloc (by simp) _)⟩
    · have h95' : (v.toList == [95]) = false := by simpa using h95
      have HE2 := Lib.hid (show tmOk ⟨v, ⟨k, n, t⟩⟩ = (varB (bl v) && z) by rw [HE.out, show (bl v == [95]) = false by rw [bl, ← ByteArray.toList_eq]; exact h95', Bool.and_comm]; rfl)
      clear HE h95
      go_enter Tryz.func92, Tryz.ntmps92
      go_wp2_with fail
      refine (rVariable v _ hv).mono ?_
      rintro e w1 ⟨rfl, rfl⟩
      obtain ⟨y, hy⟩ : ∃ y, y = varB (bl v) := ⟨_, rfl⟩
      rw [← hy] at HE2
      rw [← hy]
      clear hy
      cases y
      all_goals
        go_wp2_with fail
        go_ret
        exact ⟨ret_bool (by rw [HE2.out]; rfl), (((Below.refl _ _).alloc (Nat.le_refl _) _).alloc (by simp) _)⟩
/-- A text, or none. -/
def txt (b : Bool) (l : List UInt8) : List UInt8 := if b then l else []
/-- What a call answers that tells a text or ErrTerm. -/
def TextPost (b : Bool) (l : List UInt8) (w : World) (e : Ending) (w' : World) : Prop := e = .returned (.tuple #[.string ⟨(txt b l).toArray⟩, .int .i64 (okCode b 40)]) ∧ Below w.heap.size w w'
theorem ret_no {b : Bool} {l : List UInt8} (hb : b = false) : Ending.returned (.tuple #[.string ⟨#[]⟩, .int .i64 40]) = .returned (.tuple #[.string ⟨(txt b l).toArray⟩, .int .i64 (okCode b 40)]) := by rw [hb]; rfl
theorem ret_yes {b : Bool} {l : List UInt8} (hb : b = true) : Ending.returned (.tuple #[.string ⟨l.toArray⟩, .int .i64 0]) = .returned (.tuple #[.string ⟨(txt b l).toArray⟩, .int .i64 (okCode b 40)]) := by rw [hb]; rfl
end Go.Proofs.YtafjjececdhmjaaGreat

/- The contracts of print's writer: put, and a term. Conditions: what is held and what is written together take at most 2^47 bytes. -/
namespace Go.Proofs.YtafjjececdhmjaaGreat
open Go.RowKit

/-- Texts, one behind the other. -/
def catL : List ByteArray → List UInt8
  | [] => []
  | s :: r => bl s ++ catL r
theorem catL_snoc (l : List ByteArray) (s : ByteArray) : catL (l ++ [s]) = catL l ++ bl s := by
  induction l with
  | nil => simp [catL]
  | cons a r ih => simp [catL, ih]
theorem catL_take (l : List ByteArray) (k : Nat) (h : k < l.length) : catL (l.take (k + 1)) = catL (l.take k) ++ bl l[k] := by
  rw [List.take_succ_eq_append_getElem h, catL_snoc]
theorem catL_le (l : List ByteArray) (k : Nat) : (catL (l.take k)).length ≤ (catL l).length := by
  have h : catL l = catL (l.take k) ++ catL (l.drop k) := by
    conv => lhs; rw [← List.take_append_drop k l]
    generalize l.take k = a
    generalize l.drop k = d
    induction a with
    | nil => simp [catL]
    | cons x r ih => simp [catL, ih]
  rw [h, List.length_append]; omega
end Go.Proofs.YtafjjececdhmjaaGreat

/- The contracts of print's writer at a term, and of print.Term. Conditions: what is held and what is written together take at most 2^47 bytes. -/
namespace Go.Proofs.YtafjjececdhmjaaGreat
open Go.RowKit

theorem below_alloc (w : World) (o : Obj) : Below w.heap.size w (w.alloc o) := (Below.refl _ _).alloc (Nat.le_refl _) _
theorem Wr.alloc {T b : Nat} {l : List UInt8} {w : World} (h : Wr T b l w) (o : Obj) : Wr T b l (w.alloc o) := h.up (below_alloc w o)
theorem Kp.alloc {T b : Nat} {l : List UInt8} {w : World} (h : Wr T b l w) (o : Obj) : Kp b w (w.alloc o) := Kp.of_below h.lt (below_alloc w o)
theorem catL_one (s : ByteArray) : catL [s] = bl s := by simp [catL]
end Go.Proofs.YtafjjececdhmjaaGreat

/- The contracts of term.CheckAtom and what it calls. Conditions: the terms lie in memory as they are told; a text is no longer than the model lets any be. -/
namespace Go.Proofs.YtafjjececdhmjaaGreat
open Go.RowKit

def tmBad (t : Tm) : Bool := !tmOk t
structure TmCell (w : World) (a o : Nat) (t : Tm) : Prop where
  c0 : w.cell? ⟨a, o, none⟩ = some (.string t.v)
  c1 : w.cell? ⟨a, o + 1, none⟩ = some (.int .i8 t.x.k)
  c2 : w.cell? ⟨a, o + 2, none⟩ = some (.int .i64 t.x.n)
  c3 : w.cell? ⟨a, o + 3, none⟩ = some (.string t.x.t)
/-- Terms in a row of memory. -/
structure TmsAt (w : World) (a o : Nat) (ts : List Tm) : Prop where
  lt : a < w.heap.size
  at_ : ∀ i, (h : i < ts.length) → TmCell w a (o + i * 4) ts[i]
theorem TmCell.up {w w' : World} {B a o : Nat} {t : Tm} (h : TmCell w a o t) (hb : Below B w w') (ha : a < B) : TmCell w' a o t :=
  ⟨(hb.cell (p := ⟨a, o, none⟩) ha).trans h.c0, (hb.cell (p := ⟨a, o + 1, none⟩) ha).trans h.c1, (hb.cell (p := ⟨a, o + 2, none⟩) ha).trans h.c2, (hb.cell (p := ⟨a, o + 3, none⟩) ha).trans h.c3⟩
theorem TmsAt.up {w w' : World} {B a o : Nat} {ts : List Tm} (h : TmsAt w a o ts) (hb : Below B w w') (ha : a < B) : TmsAt w' a o ts :=
  ⟨Nat.lt_of_lt_of_le h.lt hb.size, fun i hi => (h.at_ i hi).up hb ha⟩
/-- Terms within their bounds. -/
def TmsR (ts : List Tm) : Prop := ∀ t ∈ ts, TmR t.v t.x.k t.x.n t.x.t

theorem tTermBad (v : ByteArray) (k n : Int) (t : ByteArray) (w : World) (hv : v.size ≤ maxLen) :
    Calls Tryz.prog 121 #[.agg #[.string v, .int .i8 k, .int .i64 n, .string t]] w fun e w' => e = .returned (.bool (tmBad ⟨v, ⟨k, n, t⟩⟩)) ∧ Below w.heap.size w w' := by
  rcases hx : tmOk ⟨v, ⟨k, n, t⟩⟩ with _ | _
  all_goals have HX := Lib.hid hx
  all_goals have HB := Lib.hid (show tmBad ⟨v, ⟨k, n, t⟩⟩ = !tmOk ⟨v, ⟨k, n, t⟩⟩ from rfl)
  all_goals clear hx
  all_goals
    go_enter Tryz.func121, Tryz.ntmps121
    go_wp2_with fail
    refine (tCheckTerm v k n t _ hv).mono ?_
    rintro e w1 ⟨rfl, hb⟩
    have Hb := Lib.hid hb; clear hb
    rw [HX.out]
    first | rw [show okCode false 40 = 40 from rfl] | rw [show okCode true 40 = 0 from rfl]
    go_wp2_with fail
    go_ret
    exact ⟨ret_bool (by rw [HB.out, HX.out]; rfl), (below_alloc _ _).trans (Hb.out.mono (by simp))⟩
/-- Where the first that is bad stands, or -1. -/
def IdxPost (b : Bool) (w : World) (e : Ending) (w' : World) : Prop := ∃ r : Int, e = .returned (.int .i64 r) ∧ (0 ≤ r ↔ b = true) ∧ Below w.heap.size w w'
theorem any_take {α : Type} (p : α → Bool) (l : List α) (h : ∀ j, (h : j < l.length) → p l[j] = false) : l.any p = false := by
  rw [List.any_eq_false]
  intro x hx
  obtain ⟨j, hj, rfl⟩ := List.getElem_of_mem hx
  simp [h j hj]
theorem any_at {α : Type} (p : α → Bool) (l : List α) (j : Nat) (hj : j < l.length) (h : p l[j] = true) : l.any p = true := List.any_eq_true.2 ⟨_, List.getElem_mem hj, h⟩
set_option maxHeartbeats 1000000 in
theorem idxTerms (a o cap : Nat) (ts : List Tm) (w : World) (hts : TmsAt w a o ts) (hr : TmsR ts) (hn : ts.length ≤ maxLen) :
    Calls Tryz.prog 127 #[.slice (some ⟨a, o, none⟩) ts.length cap, .func (.func 121) #[] #[]] w (IdxPost (ts.any tmBad) w) := by
  have HTS := Lib.hid hts; clear hts
  have HR := Lib.hid hr; clear hr
  unfold maxLen at hn
  go_enter Tryz.func127, Tryz.ntmps127
  go_wp2_with fail
  go_loopw [8] (fun i wr => ∃ k : Nat, k ≤ ts.length ∧ i = .int .i64 k ∧ (∀ j, (h : j < ts.length) → j < k → tmBad ts[j] = false) ∧ Below w.heap.size w wr) (fun i _ => ts.length - (intOf i).toNat)
  case atStart => exact ⟨0, by omega, rfl, fun j _ h => by omega, Below.refl _ _⟩
  case round =>
    obtain ⟨k, hk, rfl, hok, hb⟩ := hrel
    have Hok := Lib.hid hok; clear hok
    have Hb := Lib.hid hb; clear hb
    by_cases hlt : k < ts.length
    · have hc := (HTS.out.at_ k hlt).up Hb.out HTS.out.lt
      have hvr := (HR.out ts[k] (List.getElem_mem hlt)).v0
      obtain ⟨tk, htk⟩ : ∃ tk, tk = ts[k] := ⟨_, rfl⟩
      rw [← htk] at hc hvr
      have HTK := Lib.hid htk; clear htk
      obtain ⟨v, x, n, t⟩ := tk
      obtain ⟨c0, c1, c2, c3⟩ := hc
      rcases hx : tmBad ⟨v, ⟨x, n, t⟩⟩ with _ | _
      · have HX := Lib.hid hx; clear hx
        go_wp2_with fail
        refine (tTermBad v x n t _ hvr).mono ?_
        rintro e w1 ⟨rfl, hb1⟩
        rw [HX.out]
        have Hb1 := Lib.hid hb1; clear hb1
        go_wp2_with fail
        go_roundw
        case rel => exact ⟨k + 1, by omega, by go_num, fun j hj hjk => by
                      by_cases e : j = k
                      · subst e; rw [← HTK.out]; exact HX.out
                      · exact Hok.out j hj (by omega), Hb.out.trans (Hb1.out.mono Hb.out.size)⟩
        case measure => simp [intOf]; omega
      · have HX := Lib.hid hx; clear hx
        go_wp2_with fail
        refine (tTermBad v x n t _ hvr).mono ?_
        rintro e w1 ⟨rfl, hb1⟩
        rw [HX.out]
        have Hb1 := Lib.hid hb1; clear hb1
        go_wp2_with fail
        go_ret
        exact ⟨k, rfl, ⟨fun _ => any_at _ ts k hlt (by rw [← HTK.out]; exact HX.out), fun _ => by omega⟩, Hb.out.trans (Hb1.out.mono Hb.out.size)⟩
    · go_wp2_with fail
      go_ret
      exact ⟨-1, rfl, ⟨fun h => by omega, fun h => by rw [any_take tmBad ts (fun j hj => Hok.out j hj (by omega))] at h; cases h⟩, Hb.out⟩
theorem idxTerms0 (p : Option Addr) (cap : Nat) (w : World) :
    Calls Tryz.prog 127 #[.slice p 0 cap, .func (.func 121) #[] #[]] w (IdxPost false w) := by
  go_enter Tryz.func127, Tryz.ntmps127
  go_wp2_with fail
  go_loop [8] (fun i => i = .int .i64 0) (fun _ => 0)
  case atStart => rfl
  case round =>
    obtain rfl := hrel
    go_wp2_with fail
    go_ret
    exact ⟨-1, rfl, ⟨fun h => by omega, fun h => by cases h⟩, Below.refl _ _⟩
/-- A slice value that reads as these terms. -/
def TmSl (w : World) (v : Value) (ts : List Tm) : Prop := ∃ p cap, v = .slice p ts.length cap ∧ ts.length ≤ maxLen ∧ (ts.length = 0 ∨ ∃ a o, p = some ⟨a, o, none⟩ ∧ TmsAt w a o ts)
theorem TmSl.up {w w' : World} {v : Value} {ts : List Tm} (h : TmSl w v ts) (hb : Below w.heap.size w w') : TmSl w' v ts := by
  obtain ⟨p, cap, hv, hm, h⟩ := h
  refine ⟨p, cap, hv, hm, ?_⟩
  rcases h with h | ⟨a, o, hp, h⟩
  · exact .inl h
  · exact .inr ⟨a, o, hp, h.up hb h.lt⟩
theorem idxAny (sv : Value) (ts : List Tm) (w : World) (hts : TmSl w sv ts) (hr : TmsR ts) :
    Calls Tryz.prog 127 #[sv, .func (.func 121) #[] #[]] w (IdxPost (ts.any tmBad) w) := by
  obtain ⟨p, cap, rfl, hm, h⟩ := hts
  rcases h with h | ⟨a, o, rfl, h⟩
  · obtain rfl := List.eq_nil_of_length_eq_zero h
    exact idxTerms0 p cap w
  · exact idxTerms a o cap ts w h hr hm
theorem hasBad (sv : Value) (ts : List Tm) (w : World) (hts : TmSl w sv ts) (hr : TmsR ts) :
    Calls Tryz.prog 120 #[sv, .func (.func 121) #[] #[]] w fun e w' => e = .returned (.bool (ts.any tmBad)) ∧ Below w.heap.size w w' := by
  have HTS := Lib.hid hts; clear hts
  have HR := Lib.hid hr; clear hr
  go_enter Tryz.func120, Tryz.ntmps120
  go_wp2_with fail
  refine (idxAny sv ts _ HTS.out HR.out).mono ?_
  rintro e w1 ⟨r, rfl, hr, hb⟩
  have Hr := Lib.hid hr; clear hr
  have Hb := Lib.hid hb; clear hb
  go_wp2_with fail
  go_ret
  exact ⟨ret_bool (by rw [Bool.eq_iff_iff, ← Hr.out]; simp), Hb.out⟩
/-- An atom that may be. -/
def atOk (p : ByteArray) (ts : List Tm) : Bool := nameB (bl p) && decide (ts.length ≤ 24) && !ts.any tmBad
set_option maxHeartbeats 1000000 in
theorem tCheckAtom (p : ByteArray) (sv : Value) (ts : List Tm) (w : World) (hp : p.size ≤ maxLen) (hts : TmSl w sv ts) (hr : TmsR ts) :
    Calls Tryz.prog 105 #[.agg #[.string p, sv]] w fun e w' => e = .returned (.int .i64 (okCode (atOk p ts) 40)) ∧ Below w.heap.size w w' := by
  have HTS := Lib.hid hts
  have HR := Lib.hid hr; clear hr
  obtain ⟨q, cap, rfl, hm, _⟩ := hts
  rcases hn : nameB (bl p) with _ | _
  · have HE := Lib.hid (show atOk p ts = false by simp [atOk, hn])
    have HN := Lib.hid hn; clear hn
    go_enter Tryz.func105, Tryz.ntmps105
    go_wp2_with fail
    refine (tName p _ hp).mono ?_
    rintro e w1 ⟨rfl, hb⟩
    have Hb := Lib.hid hb; clear hb
    rw [HN.out]
    go_wp2_with fail
    refine (tCode _ _).mono ?_
    rintro e w2 ⟨rfl, rfl⟩
    go_wp2_with fail
    go_ret
    exact ⟨ret_int (by rw [HE.out]), (below_alloc _ _).trans (Hb.out.mono (by simp))⟩
  · by_cases h24 : ts.length ≤ 24
    · have HE := Lib.hid (show atOk p ts = !ts.any tmBad by simp [atOk, hn, h24])
      have HN := Lib.hid hn; clear hn
      have d24 : decide ((ts.length : Int) ≤ 24) = true := decide_eq_true (by omega)
      go_enter Tryz.func105, Tryz.ntmps105
      go_wp2_with fail
      refine (tName p _ hp).mono ?_
      rintro e w1 ⟨rfl, hb⟩
      obtain ⟨hc, hf⟩ := bcell hb
      have Hb := Lib.hid hb; clear hb
      have hsz1 : w.heap.size < w1.heap.size := by have := Hb.out.size; simp at this; omega
      rw [HN.out]
      go_wp2_with fail
      refine (hasBad _ ts _ ((HTS.out.up (below_alloc _ _)).up Hb.out) HR.out).mono ?_
      rintro e w2 ⟨rfl, hb2⟩
      have Hb2 := Lib.hid hb2; clear hb2
      clear hc hf
      obtain ⟨y, hy⟩ : ∃ y, y = ts.any tmBad := ⟨_, rfl⟩
      rw [← hy] at HE
      rw [← hy]
      clear hy
      go_wp2_with fail
      refine (tCode _ _).mono ?_
      rintro e w3 ⟨rfl, rfl⟩
      go_wp2_with fail
      go_ret
      exact ⟨ret_int (by rw [HE.out]), ((below_alloc _ _).trans (Hb.out.mono (by simp))).trans (Hb2.out.mono (by omega))⟩
    · have HE := Lib.hid (show atOk p ts = false by simp [atOk, h24])
      have HN := Lib.hid hn; clear hn
      have d24 : decide ((ts.length : Int) ≤ 24) = false := decide_eq_false (by omega)
      go_enter Tryz.func105, Tryz.ntmps105
      go_wp2_with fail
      refine (tName p _ hp).mono ?_
      rintro e w1 ⟨rfl, hb⟩
      obtain ⟨hc, hf⟩ := bcell hb
      have Hb := Lib.hid hb; clear hb
      have hsz1 : w.heap.size < w1.heap.size := by have := Hb.out.size; simp at this; omega
      rw [HN.out]
      go_wp2_with fail
      refine (tCode _ _).mono ?_
      rintro e w3 ⟨rfl, rfl⟩
      go_wp2_with fail
      go_ret
      exact ⟨ret_int (by rw [HE.out]), (below_alloc _ _).trans (Hb.out.mono (by simp))⟩
end Go.Proofs.YtafjjececdhmjaaGreat

/- The contracts of the writer's columns, of an atom, and of print.Atom. Conditions: what is held and what is written together take at most 2^47 bytes. -/
namespace Go.Proofs.YtafjjececdhmjaaGreat
open Go.RowKit

theorem wrote_bl (s : ByteArray) : catL [s] = bl s := catL_one s
theorem sepL_le (f : Bool) (l : List (List UInt8)) (k : Nat) : (sepL f (l.take k)).length ≤ (sepL f l).length := by
  induction l generalizing f k with
  | nil => simp [sepL]
  | cons x r ih =>
    cases k with
    | zero => simp [sepL]
    | succ k => have := ih false k; simp [sepL]; omega
theorem sep_next (l : List (List UInt8)) (k : Nat) (h : k < l.length) : sepL true (l.take (k + 1)) = sepL true (l.take k) ++ ((if k = 0 then [40] else [44, 32]) ++ l[k]) := by
  rw [List.take_succ_eq_append_getElem h, sepL_snoc]
  cases k with
  | zero => simp
  | succ k =>
    have : (l.take (k + 1)).isEmpty = false := by
      rw [List.isEmpty_eq_false_iff]; intro e; have := congrArg List.length e; rw [List.length_take, List.length_nil] at this; omega
    simp [this]
theorem Wr.drew {T b : Nat} {l : List UInt8} {w : World} (h : Wr T b l w) : Wr T b l w.drew := h
/-- The texts of terms. -/
def termTs (ts : List Tm) : List (List UInt8) := ts.map termL
def atomL (p : ByteArray) (ts : List Tm) : List UInt8 := colsL (bl p) (termTs ts)
end Go.Proofs.YtafjjececdhmjaaGreat

/- The contracts of the writer's atom and of print.Atom. Conditions: what is held and what is written together take at most 2^47 bytes. -/
namespace Go.Proofs.YtafjjececdhmjaaGreat
open Go.RowKit

/-- What was there before the writer was made is there still. -/
structure Env (w0 : World) (b : Nat) (w : World) : Prop where
  le : w0.heap.size ≤ b
  bel : Below w0.heap.size w0 w
theorem Env.kp {w0 : World} {b : Nat} {w w' : World} (h : Env w0 b w) (k : Kp b w w') : Env w0 b w' := ⟨h.le, h.bel.trans (k.below.mono h.le)⟩
theorem makeFn (fn : Fn) (first cap : Array Value) (w : World) : (Instr.makeFunc fn first cap).run Tryz.prog w = .ok (.func fn first cap) w := rfl
theorem len_ts (ts : List Tm) : (ts.length : Int) = ((termTs ts).length : Int) := by simp [termTs]
end Go.Proofs.YtafjjececdhmjaaGreat

/- The contracts of print.Atom; how long the texts are. Conditions: the terms lie in memory as they are told; a text is no longer than the model lets any be. -/
namespace Go.Proofs.YtafjjececdhmjaaGreat
open Go.RowKit

theorem runB_le {fr to : UInt8} {l : List UInt8} (h : runB fr to l = true) : l.length ≤ 120 := by
  cases l with
  | nil => simp
  | cons c r => simp [runB] at h; simp; omega
theorem itoa_le {n : Int} (h0 : -9223372036854775808 ≤ n) (h1 : n ≤ 9223372036854775807) : (Lib.itoa n).length ≤ 21 := by
  unfold Lib.itoa
  split
  · have := dec_len n.natAbs (by omega); simp; omega
  · have := dec_len n.toNat (by omega); omega
theorem quoteL_le (l : List UInt8) : (quoteL l).length ≤ 4 * l.length + 2 := by
  have := escL_le l; simp [quoteL]; omega
theorem showL_le {x : Vl} (hr : VlR x.k x.n x.t) : (showL x).length ≤ 802 := by
  unfold showL
  split
  · rename_i hv
    split
    · have := itoa_le hr.n0 hr.n1; omega
    · rename_i hk
      have h200 : x.t.size ≤ 200 := by
        simp [vlOk] at hv hk; omega
      have hb := size_bl x.t
      split
      · omega
      · have := quoteL_le (bl x.t); omega
  · simp
theorem termL_le {t : Tm} (hr : TmR t.v t.x.k t.x.n t.x.t) (ho : tmOk t = true) : (termL t).length ≤ 802 := by
  unfold termL
  split
  · exact showL_le hr.toVlR
  · rename_i h0
    simp only [tmOk, h0, if_false, Bool.false_eq_true, Bool.and_eq_true, Bool.or_eq_true] at ho
    rcases ho.2 with h | h
    · rw [beq_iff_eq] at h; rw [h]; simp
    · have := runB_le h; omega
theorem nameB_le {l : List UInt8} (h : nameB l = true) : l.length ≤ 120 := by
  simp only [nameB, Bool.and_eq_true] at h
  exact runB_le h.1
theorem sepL_bound (l : List (List UInt8)) (h : ∀ x ∈ l, x.length ≤ 802) (f : Bool) : (sepL f l).length ≤ 804 * l.length := by
  induction l generalizing f with
  | nil => simp [sepL]
  | cons x r ih =>
    have h1 := h x (by simp)
    have h2 := ih (fun y hy => h y (by simp [hy])) false
    cases f <;> simp [sepL] <;> omega
theorem not_bad {ts : List Tm} (h : ts.any tmBad = false) : ∀ t ∈ ts, tmOk t = true := by
  intro t ht
  have := List.any_eq_false.1 h t ht
  simpa [tmBad] using this
theorem colsL_bound {name : List UInt8} {l : List (List UInt8)} (hn : name.length ≤ 120) (h : ∀ x ∈ l, x.length ≤ 802) (h24 : l.length ≤ 24) : (colsL name l).length ≤ 20000 := by
  have := sepL_bound l h true
  unfold colsL
  rw [List.length_append, List.length_append]
  split <;> simp <;> omega
theorem atomL_le {p : ByteArray} {ts : List Tm} (hr : TmsR ts) (ho : atOk p ts = true) : (atomL p ts).length ≤ 20000 := by
  simp only [atOk, Bool.and_eq_true, decide_eq_true_eq, Bool.not_eq_true'] at ho
  refine colsL_bound (nameB_le ho.1.1) ?_ (by simpa [termTs] using ho.1.2)
  intro x hx
  obtain ⟨t, ht, rfl⟩ := List.mem_map.1 hx
  exact termL_le (hr t ht) (not_bad ho.2 t ht)
theorem atOk_24 {p : ByteArray} {ts : List Tm} (ho : atOk p ts = true) : ts.length ≤ 24 := by
  simp only [atOk, Bool.and_eq_true, decide_eq_true_eq] at ho
  exact ho.1.2

end Go.Proofs.YtafjjececdhmjaaGreat
