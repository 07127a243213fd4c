/- The contracts of terms and atoms, printed. Conditions: each part says its own. -/
import Derived.Test.YtdgbenadoaecoaaDoorMA
import Derived.Test.YtdgbenadoaecoaaDoorMB
import Derived.Test.YtdgbenadoaecoaaDoorShelf
import Derived.StillTailTactics
/- The contracts of value.Show and of the reference's. Conditions: a number is one that int64 holds; a text is no longer than the model lets any be. -/
namespace Go.Proofs.YtdgbenadoaecoaaDoor
open Go.RowKit

/-- What a value is within its types' bounds. -/
structure VlR (k n : Int) (t : ByteArray) : Prop where
  n0 : -9223372036854775808 ≤ n
  n1 : n ≤ 9223372036854775807
  t0 : t.size ≤ maxLen
theorem vFormat (n : Int) (h0 : -9223372036854775808 ≤ n) (h1 : n ≤ 9223372036854775807) (w : World) (hT : Tabs w) :
    Calls Tryd.prog 66 #[.int .i64 n, .int .i64 10] w fun e w' => e = .returned (.string ⟨(Lib.itoa n).toArray⟩) ∧ Below w.heap.size w w' := by
  refine (Tryd.strconv_FormatInt_10 n h0 h1 w hT.pow).mono ?_
  rintro e w' ⟨rfl, k, os, rfl⟩
  exact ⟨rfl, Lib.below_grow _ _ (Nat.le_refl _) _ _⟩
theorem ret_show {a b : List UInt8} {m n : Int} (h : a = b) (hm : m = n) : Ending.returned (.tuple #[.string ⟨a.toArray⟩, .int .i64 m]) = .returned (.tuple #[.string ⟨b.toArray⟩, .int .i64 n]) := by rw [h, hm]
set_option maxHeartbeats 1000000 in
theorem vShow (k n : Int) (t : ByteArray) (w : World) (hr : VlR k n t) (hT : Tabs w) :
    Calls Tryd.prog 45 #[.agg #[.int .i8 k, .int .i64 n, .string t]] w fun e w' => e = .returned (.tuple #[.string ⟨(showL ⟨k, n, t⟩).toArray⟩, .int .i64 (okCode (vlOk ⟨k, n, t⟩) 10)]) ∧ Below w.heap.size w w' := by
  have HT := Lib.hid hT; clear hT
  have HR := Lib.hid hr; clear hr
  rcases hv : vlOk ⟨k, n, t⟩ with _ | _
  · have HS := Lib.hid (show showL ⟨k, n, t⟩ = [] by simp [showL, hv])
    have HV := Lib.hid hv; clear hv
    go_enter Tryd.func45, Tryd.ntmps45
    go_wp2_with fail
    refine (vCheck k n t _).mono ?_
    rintro e w1 ⟨rfl, hb⟩
    rw [HV.out, show okCode false 10 = 10 from rfl]
    have Hb := Lib.hid hb; clear hb
    go_wp2_with fail
    go_ret2
    exact ⟨ret_show HS.out.symm rfl, ((Below.refl _ _).alloc (Nat.le_refl _) _).trans (Hb.out.mono (by simp))⟩
  · by_cases hk : k = 1
    · have HS := Lib.hid (show showL ⟨k, n, t⟩ = Lib.itoa n by unfold showL; rw [if_pos hv]; simp [hk])
      have HV := Lib.hid hv; clear hv
      have hk1 : (k == 1) = true := by simp [hk]
      clear hk
      go_enter Tryd.func45, Tryd.ntmps45
      go_wp2_with fail
      refine (vCheck k n t _).mono ?_
      rintro e w1 ⟨rfl, hb⟩
      rw [HV.out, show okCode true 10 = 0 from rfl]
      obtain ⟨hc, hf⟩ := bcell hb
      have Hb := Lib.hid hb; clear hb
      go_wp2_with fail
      refine (vFormat n HR.out.n0 HR.out.n1 _ ((HT.out.alloc _).at Hb.out)).mono ?_
      rintro e w2 ⟨rfl, hb2⟩
      have Hb2 := Lib.hid hb2; clear hb2
      clear hc hf
      go_wp2_with fail
      go_ret2
      exact ⟨ret_show HS.out.symm rfl, (((Below.refl _ _).alloc (Nat.le_refl _) _).trans (Hb.out.mono (by simp))).trans (Hb2.out.mono (by have := Hb.out.size; simp at this; omega))⟩
    · have hk1 : (k == 1) = false := by simpa using hk
      have h200 : t.size ≤ 200 := by
        simp [vlOk, hk] at hv; omega
      rcases hn : nameB (bl t) with _ | _
      · have HS := Lib.hid (show showL ⟨k, n, t⟩ = quoteL (bl t) by unfold showL; rw [if_pos hv]; simp [hk, hn])
        have HV := Lib.hid hv; clear hv
        have HN := Lib.hid hn; clear hn
        clear hk
        go_enter Tryd.func45, Tryd.ntmps45
        go_wp2_with fail
        refine (vCheck k n t _).mono ?_
        rintro e w1 ⟨rfl, hb⟩
        rw [HV.out, show okCode true 10 = 0 from rfl]
        obtain ⟨hc, hf⟩ := bcell hb
        have Hb := Lib.hid hb; clear hb
        have hsz1 : w.heap.size < w1.heap.size := by have := Hb.out.size; simp at this; omega
        go_wp2_with fail
        refine (vName t _ HR.out.t0).mono ?_
        rintro e w2 ⟨rfl, hb2⟩
        rw [HN.out]
        obtain ⟨hc2, hf2⟩ := bcell hb2
        have Hb2 := Lib.hid hb2; clear hb2
        go_wp2_with fail
        refine (vQuoted t _ h200).mono ?_
        rintro e w3 ⟨rfl, hb3⟩
        have Hb3 := Lib.hid hb3; clear hb3
        clear hc hf hc2 hf2
        go_wp2_with fail
        go_ret2
        exact ⟨ret_show HS.out.symm rfl, ((((Below.refl _ _).alloc (Nat.le_refl _) _).trans (Hb.out.mono (by simp))).trans (Hb2.out.mono (by omega))).trans (Hb3.out.mono (by have := Hb2.out.size; omega))⟩
      · have HS := Lib.hid (show showL ⟨k, n, t⟩ = bl t by unfold showL; rw [if_pos hv]; simp [hk, hn])
        have HV := Lib.hid hv; clear hv
        have HN := Lib.hid hn; clear hn
        clear hk
        go_enter Tryd.func45, Tryd.ntmps45
        go_wp2_with fail
        refine (vCheck k n t _).mono ?_
        rintro e w1 ⟨rfl, hb⟩
        rw [HV.out, show okCode true 10 = 0 from rfl]
        obtain ⟨hc, hf⟩ := bcell hb
        have Hb := Lib.hid hb; clear hb
        have hsz1 : w.heap.size < w1.heap.size := by have := Hb.out.size; simp at this; omega
        go_wp2_with fail
        refine (vName t _ HR.out.t0).mono ?_
        rintro e w2 ⟨rfl, hb2⟩
        rw [HN.out]
        obtain ⟨hc2, hf2⟩ := bcell hb2
        have Hb2 := Lib.hid hb2; clear hb2
        go_wp2_with fail
        go_ret2
        refine ⟨?_, (((Below.refl _ _).alloc (Nat.le_refl _) _).trans (Hb.out.mono (by simp))).trans (Hb2.out.mono (by omega))⟩
        rw [HS.out, str_eta]; rfl
end Go.Proofs.YtdgbenadoaecoaaDoor

/- The contracts of term.CheckTerm and of the reference's. Conditions: a text is no longer than the model lets any be. -/
namespace Go.Proofs.YtdgbenadoaecoaaDoor
open Go.RowKit

def zeroVl : Value := .agg #[.int .i8 0, .int .i64 0, .string ⟨#[]⟩]
theorem vl_eq0 (k n : Int) (t : ByteArray) (w : World) :
    (binOp .eql 50 (.agg #[.int .i8 k, .int .i64 n, .string t]) (.agg #[.int .i8 0, .int .i64 0, .string ⟨#[]⟩])).run Tryd.prog w = .ok (.bool (vlZero ⟨k, n, t⟩)) w := by
  by_cases hk : k = 0
  · by_cases hn : n = 0
    · subst hk; subst hn
      go_simp
      by_cases ht : t.toList = [] <;> simp [vlZero, bl, ← ByteArray.toList_eq, ht]
    · subst hk
      go_simp
      simp [vlZero, hn]
  · go_simp
    simp [vlZero, hk]
set_option maxHeartbeats 1000000 in
theorem tCheckTerm (v : ByteArray) (k n : Int) (t : ByteArray) (w : World) (hv : v.size ≤ maxLen) :
    Calls Tryd.prog 73 #[.agg #[.string v, .int .i8 k, .int .i64 n, .string t]] w fun e w' => e = .returned (.int .i64 (okCode (tmOk ⟨v, ⟨k, n, t⟩⟩) 40)) ∧ Below w.heap.size w w' := by
  by_cases h0 : v.toList.isEmpty = true
  · have HE := Lib.hid (show tmOk ⟨v, ⟨k, n, t⟩⟩ = vlOk ⟨k, n, t⟩ by unfold tmOk; rw [if_pos (by rw [bl, ← ByteArray.toList_eq]; exact h0)])
    go_enter Tryd.func73, Tryd.ntmps73
    go_wp2_with fail
    refine (vCheck k n t _).mono ?_
    rintro e w1 ⟨rfl, hb⟩
    have Hb := Lib.hid hb; clear hb
    obtain ⟨x, hx⟩ : ∃ x, x = vlOk ⟨k, n, t⟩ := ⟨_, rfl⟩
    rw [← hx] at HE
    rw [← hx]
    clear hx
    cases x
    all_goals
      first | rw [show okCode false 10 = 10 from rfl] | rw [show okCode true 10 = 0 from rfl]
      go_wp2_with fail
      refine (tCode _ _).mono ?_
      rintro e w2 ⟨rfl, rfl⟩
      go_wp2_with fail
      go_ret
      exact ⟨ret_int (by rw [HE.out]), ((Below.refl _ _).alloc (Nat.le_refl _) _).trans (Hb.out.mono (by simp))⟩
  · have h0' : v.toList.isEmpty = false := by simpa using h0
    have hq : ∀ w, _ := fun w => vl_eq0 k n t w
    have HE := Lib.hid (show tmOk ⟨v, ⟨k, n, t⟩⟩ = (vlZero ⟨k, n, t⟩ && (bl v == [95] || varB (bl v))) by unfold tmOk; rw [if_neg (by rw [bl, ← ByteArray.toList_eq]; exact h0)])
    obtain ⟨z, hz⟩ : ∃ z, z = vlZero ⟨k, n, t⟩ := ⟨_, rfl⟩
    rw [← hz] at HE
    simp only [← hz] at hq
    clear hz h0
    cases z
    · go_enter Tryd.func73, Tryd.ntmps73
      go_wp2_with fail
      refine (tCode _ _).mono ?_
      rintro e w2 ⟨rfl, rfl⟩
      go_wp2_with fail
      go_ret
      exact ⟨ret_int (by rw [HE.out]; rfl), ((Below.refl _ _).alloc (Nat.le_refl _) _)⟩
    · by_cases h95 : v.toList = [95]
      · have h95' : (v.toList == [95]) = true := by simp [h95]
        have HE2 := Lib.hid (show tmOk ⟨v, ⟨k, n, t⟩⟩ = true by rw [HE.out, bl, ← ByteArray.toList_eq, h95']; rfl)
        clear HE h95
        go_enter Tryd.func73, Tryd.ntmps73
        go_wp2_with fail
        refine (tCode _ _).mono ?_
        rintro e w2 ⟨rfl, rfl⟩
        go_wp2_with fail
        go_ret
        exact ⟨ret_int (by rw [HE2.out]), ((Below.refl _ _).alloc (Nat.le_refl _) _)⟩
      · have h95' : (v.toList == [95]) = false := by simpa using h95
        have HE2 := Lib.hid (show tmOk ⟨v, ⟨k, n, t⟩⟩ = varB (bl v) by rw [HE.out, show (bl v == [95]) = false by rw [bl, ← ByteArray.toList_eq]; exact h95']; rfl)
        clear HE h95
        go_enter Tryd.func73, Tryd.ntmps73
        go_wp2_with fail
        refine (tWord v 65 90 _ hv).mono ?_
        rintro e w1 ⟨rfl, hb⟩
        have Hb := Lib.hid hb; clear hb
        rw [show runB 65 90 (bl v) = varB (bl v) from rfl]
        obtain ⟨z, hz⟩ : ∃ z, z = varB (bl v) := ⟨_, rfl⟩
        rw [← hz] at HE2
        rw [← hz]
        clear hz
        go_wp2_with fail
        refine (tCode _ _).mono ?_
        rintro e w2 ⟨rfl, rfl⟩
        go_wp2_with fail
        go_ret
        exact ⟨ret_int (by rw [HE2.out]), ((Below.refl _ _).alloc (Nat.le_refl _) _).trans (Hb.out.mono (by simp))⟩
end Go.Proofs.YtdgbenadoaecoaaDoor

/- The contracts of the reference's CheckTerm, of its term's text and of Term. Conditions: a number is one that int64 holds; a text is no longer than the model lets any be. -/
namespace Go.Proofs.YtdgbenadoaecoaaDoor
open Go.RowKit

/-- What a term is within its types' bounds. -/
structure TmR (v : ByteArray) (k n : Int) (t : ByteArray) : Prop extends VlR k n t where
  v0 : v.size ≤ maxLen
/-- A text, or none. -/
def txt (b : Bool) (l : List UInt8) : List UInt8 := if b then l else []
/-- What a call answers that tells a text or ErrTerm. -/
def TextPost (b : Bool) (l : List UInt8) (w : World) (e : Ending) (w' : World) : Prop := e = .returned (.tuple #[.string ⟨(txt b l).toArray⟩, .int .i64 (okCode b 40)]) ∧ Below w.heap.size w w'
theorem ret_no {b : Bool} {l : List UInt8} (hb : b = false) : Ending.returned (.tuple #[.string ⟨#[]⟩, .int .i64 40]) = .returned (.tuple #[.string ⟨(txt b l).toArray⟩, .int .i64 (okCode b 40)]) := by rw [hb]; rfl
theorem ret_yes {b : Bool} {l : List UInt8} (hb : b = true) : Ending.returned (.tuple #[.string ⟨l.toArray⟩, .int .i64 0]) = .returned (.tuple #[.string ⟨(txt b l).toArray⟩, .int .i64 (okCode b 40)]) := by rw [hb]; rfl
end Go.Proofs.YtdgbenadoaecoaaDoor

/- The contracts of print's writer: put, and a term. Conditions: what is held and what is written together take at most 2^47 bytes. -/
namespace Go.Proofs.YtdgbenadoaecoaaDoor
open Go.RowKit

/-- What a call leaves that writes the bytes l behind what the writer in block b holds. -/
def Wrote (b : Nat) (pre l : List UInt8) (w : World) (e : Ending) (w' : World) : Prop := e = .returned (.tuple #[]) ∧ Wr 68 b (pre ++ l) w' ∧ Kp b w w'
/-- Texts, one behind the other. -/
def catL : List ByteArray → List UInt8
  | [] => []
  | s :: r => bl s ++ catL r
theorem catL_snoc (l : List ByteArray) (s : ByteArray) : catL (l ++ [s]) = catL l ++ bl s := by
  induction l with
  | nil => simp [catL]
  | cons a r ih => simp [catL, ih]
theorem catL_take (l : List ByteArray) (k : Nat) (h : k < l.length) : catL (l.take (k + 1)) = catL (l.take k) ++ bl l[k] := by
  rw [List.take_succ_eq_append_getElem h, catL_snoc]
theorem catL_le (l : List ByteArray) (k : Nat) : (catL (l.take k)).length ≤ (catL l).length := by
  have h : catL l = catL (l.take k) ++ catL (l.drop k) := by
    conv => lhs; rw [← List.take_append_drop k l]
    generalize l.take k = a
    generalize l.drop k = d
    induction a with
    | nil => simp [catL]
    | cons x r ih => simp [catL, ih]
  rw [h, List.length_append]; omega
set_option maxHeartbeats 1000000 in
/-- put, its texts in a block of their own. -/
theorem pPut (b c : Nat) (pre : List UInt8) (l : List ByteArray) (cap : Nat) (w : World) (hw : Wr 68 b pre w) (hl : pre.length + (catL l).length ≤ 140737488355328) (hn : l.length ≤ 8)
    (hc : w.heap[c]? = some (.cells (l.map Value.string).toArray 9 (0, 0))) (hcb : c ≠ b) :
    Calls Tryd.prog 20 #[.pointer (some ⟨b, 0, none⟩), .slice (some ⟨c, 0, none⟩) l.length cap] w (Wrote b pre (catL l) w) := by
  have HW := Lib.hid hw
  have HC := Lib.hid hc; clear hc
  have hlt := hw.lt; clear hw
  go_enter Tryd.func20, Tryd.ntmps20
  go_wp2_with fail
  go_loopw [8] (fun i wr => ∃ k : Nat, k ≤ l.length ∧ i = .int .i64 k ∧ Wr 68 b (pre ++ catL (l.take k)) wr ∧ Kp b w wr) (fun i _ => l.length - (intOf i).toNat)
  case atStart => exact ⟨0, by omega, rfl, by simpa [catL] using HW.out, Kp.refl _ _⟩
  case round =>
    obtain ⟨k, hk, rfl, hwr, hkp⟩ := hrel
    have hle := catL_le l (k + 1)
    have Hr := Lib.hid hwr; clear hwr
    have Hk := Lib.hid hkp; clear hkp
    by_cases hlk : k < l.length
    · have hct := Lib.hid (catL_take l k hlk)
      have hcell : wr.cell? ⟨c, k, none⟩ = some (.string l[k]) := by
        have h1 := Hk.out.cell HC.out hcb (by decide)
        rw [Lib.cell_of_heap h1]
        simp [hlk]
      have hlen2 : (pre ++ catL (l.take k)).length + l[k].size ≤ 140737488355328 := by
        rw [hct.out] at hle
        simp at hle ⊢
        omega
      obtain ⟨s, hs⟩ : ∃ s, s = l[k] := ⟨_, rfl⟩
      rw [← hs] at hcell hlen2 hct
      clear hs
      go_wp2_with fail
      refine (bString wtW b _ s _ Hr.out hlen2).mono ?_
      rintro e w1 ⟨rfl, hw1, hk1⟩
      have H1 := Lib.hid hw1; clear hw1
      have HK1 := Lib.hid hk1; clear hk1
      go_wp2_with fail
      go_roundw
      case rel => exact ⟨k + 1, by omega, by go_num, wr_eq (by rw [hct.out, List.append_assoc]) H1.out, Hk.out.trans HK1.out⟩
      case measure => simp [intOf]; omega
    · obtain rfl : k = l.length := by omega
      go_wp2_with fail
      go_end0
      exact ⟨rfl, wr_eq (by rw [List.take_of_length_le (Nat.le_refl _)]) Hr.out, Hk.out⟩
end Go.Proofs.YtdgbenadoaecoaaDoor

/- The contracts of print's writer at a term, and of print.Term. Conditions: what is held and what is written together take at most 2^47 bytes. -/
namespace Go.Proofs.YtdgbenadoaecoaaDoor
open Go.RowKit

theorem below_alloc (w : World) (o : Obj) : Below w.heap.size w (w.alloc o) := (Below.refl _ _).alloc (Nat.le_refl _) _
theorem Wr.alloc {T b : Nat} {l : List UInt8} {w : World} (h : Wr T b l w) (o : Obj) : Wr T b l (w.alloc o) := h.up (below_alloc w o)
theorem Kp.alloc {T b : Nat} {l : List UInt8} {w : World} (h : Wr T b l w) (o : Obj) : Kp b w (w.alloc o) := Kp.of_below h.lt (below_alloc w o)
theorem catL_one (s : ByteArray) : catL [s] = bl s := by simp [catL]
set_option maxHeartbeats 1000000 in
theorem pTerm (b : Nat) (pre : List UInt8) (v : ByteArray) (k n : Int) (t : ByteArray) (w : World) (hr : TmR v k n t) (hT : Tabs w) (hw : Wr 68 b pre w) (hl : pre.length + (termL ⟨v, ⟨k, n, t⟩⟩).length ≤ 140737488355328) :
    Calls Tryd.prog 26 #[.pointer (some ⟨b, 0, none⟩), .agg #[.string v, .int .i8 k, .int .i64 n, .string t]] w (Wrote b pre (termL ⟨v, ⟨k, n, t⟩⟩) w) := by
  have HR := Lib.hid hr; clear hr
  have HT := Lib.hid hT; clear hT
  have HW := Lib.hid hw
  have hlt := hw.lt; clear hw
  by_cases h0 : v.toList = []
  · have HE := Lib.hid (show termL ⟨v, ⟨k, n, t⟩⟩ = showL ⟨k, n, t⟩ by unfold termL; rw [if_pos (by rw [bl, ← ByteArray.toList_eq, h0]; rfl)])
    have h1 : v.toList.isEmpty = true := by simp [h0]
    clear h0
    go_enter Tryd.func26, Tryd.ntmps26
    go_wp2_with fail
    refine (vShow k n t _ HR.out.toVlR (HT.out.alloc _)).mono ?_
    rintro e w1 ⟨rfl, hb⟩
    have Hb := Lib.hid hb; clear hb
    have hs1 := Hb.out.size
    obtain ⟨x, hx⟩ : ∃ x : ByteArray, bl x = showL ⟨k, n, t⟩ ∧ x = ⟨(showL ⟨k, n, t⟩).toArray⟩ := ⟨_, rfl, rfl⟩
    rw [← hx.2]
    have HX := Lib.hid hx.1; clear hx
    have hlw1 : b < w1.heap.size := by simp at hs1; omega
    go_wp2_with fail
    refine (pPut b w1.heap.size pre [x] 1 _ (((HW.out.alloc _).up Hb.out).alloc _) (by rw [catL_one, HX.out, ← HE.out]; exact hl) (by simp) (heap_alloc_new w1 _) (by omega)).mono ?_
    rintro e w2 ⟨rfl, hw2, hk2⟩
    have H2 := Lib.hid hw2; clear hw2
    have HK2 := Lib.hid hk2; clear hk2
    go_wp2_with fail
    go_end0
    exact ⟨rfl, wr_eq (by rw [catL_one, HX.out, HE.out]) H2.out, (((Kp.alloc HW.out _).trans (Kp.of_below (by simp; omega) Hb.out)).trans (Kp.alloc ((HW.out.alloc _).up Hb.out) _)).trans HK2.out⟩
  · have h1 : v.toList.isEmpty = false := by simpa using h0
    have HE := Lib.hid (show termL ⟨v, ⟨k, n, t⟩⟩ = bl v by unfold termL; rw [if_neg (by rw [bl, ← ByteArray.toList_eq]; simpa using h0)])
    clear h0
    go_enter Tryd.func26, Tryd.ntmps26
    go_wp2_with fail
    refine (pPut b (w.heap.size + 1) pre [v] 1 _ ((HW.out.alloc _).alloc _) (by rw [catL_one, ← HE.out]; exact hl) (by simp) (by simpa using heap_alloc_new (w.alloc _) _) (by omega)).mono ?_
    rintro e w1 ⟨rfl, hw1, hk1⟩
    have H1 := Lib.hid hw1; clear hw1
    have HK1 := Lib.hid hk1; clear hk1
    go_wp2_with fail
    go_end0
    exact ⟨rfl, wr_eq (by rw [catL_one, HE.out]) H1.out, ((Kp.alloc HW.out _).trans (Kp.alloc (HW.out.alloc _) _)).trans HK1.out⟩
end Go.Proofs.YtdgbenadoaecoaaDoor

/- The contracts of term.CheckAtom and what it calls. Conditions: the terms lie in memory as they are told; a text is no longer than the model lets any be. -/
namespace Go.Proofs.YtdgbenadoaecoaaDoor
open Go.RowKit

def tmBad (t : Tm) : Bool := !tmOk t
structure TmCell (w : World) (a o : Nat) (t : Tm) : Prop where
  c0 : w.cell? ⟨a, o, none⟩ = some (.string t.v)
  c1 : w.cell? ⟨a, o + 1, none⟩ = some (.int .i8 t.x.k)
  c2 : w.cell? ⟨a, o + 2, none⟩ = some (.int .i64 t.x.n)
  c3 : w.cell? ⟨a, o + 3, none⟩ = some (.string t.x.t)
/-- Terms in a row of memory. -/
structure TmsAt (w : World) (a o : Nat) (ts : List Tm) : Prop where
  lt : a < w.heap.size
  at_ : ∀ i, (h : i < ts.length) → TmCell w a (o + i * 4) ts[i]
theorem TmCell.up {w w' : World} {B a o : Nat} {t : Tm} (h : TmCell w a o t) (hb : Below B w w') (ha : a < B) : TmCell w' a o t :=
  ⟨(hb.cell (p := ⟨a, o, none⟩) ha).trans h.c0, (hb.cell (p := ⟨a, o + 1, none⟩) ha).trans h.c1, (hb.cell (p := ⟨a, o + 2, none⟩) ha).trans h.c2, (hb.cell (p := ⟨a, o + 3, none⟩) ha).trans h.c3⟩
theorem TmsAt.up {w w' : World} {B a o : Nat} {ts : List Tm} (h : TmsAt w a o ts) (hb : Below B w w') (ha : a < B) : TmsAt w' a o ts :=
  ⟨Nat.lt_of_lt_of_le h.lt hb.size, fun i hi => (h.at_ i hi).up hb ha⟩
/-- Terms within their bounds. -/
def TmsR (ts : List Tm) : Prop := ∀ t ∈ ts, TmR t.v t.x.k t.x.n t.x.t

theorem tTermBad (v : ByteArray) (k n : Int) (t : ByteArray) (w : World) (hv : v.size ≤ maxLen) :
    Calls Tryd.prog 72 #[.agg #[.string v, .int .i8 k, .int .i64 n, .string t]] w fun e w' => e = .returned (.bool (tmBad ⟨v, ⟨k, n, t⟩⟩)) ∧ Below w.heap.size w w' := by
  rcases hx : tmOk ⟨v, ⟨k, n, t⟩⟩ with _ | _
  all_goals have HX := Lib.hid hx
  all_goals have HB := Lib.hid (show tmBad ⟨v, ⟨k, n, t⟩⟩ = !tmOk ⟨v, ⟨k, n, t⟩⟩ from rfl)
  all_goals clear hx
  all_goals
    go_enter Tryd.func72, Tryd.ntmps72
    go_wp2_with fail
    refine (tCheckTerm v k n t _ hv).mono ?_
    rintro e w1 ⟨rfl, hb⟩
    have Hb := Lib.hid hb; clear hb
    rw [HX.out]
    first | rw [show okCode false 40 = 40 from rfl] | rw [show okCode true 40 = 0 from rfl]
    go_wp2_with fail
    go_ret
    exact ⟨ret_bool (by rw [HB.out, HX.out]; rfl), (below_alloc _ _).trans (Hb.out.mono (by simp))⟩
/-- Where the first that is bad stands, or -1. -/
def IdxPost (b : Bool) (w : World) (e : Ending) (w' : World) : Prop := ∃ r : Int, e = .returned (.int .i64 r) ∧ (0 ≤ r ↔ b = true) ∧ Below w.heap.size w w'
theorem any_take {α : Type} (p : α → Bool) (l : List α) (h : ∀ j, (h : j < l.length) → p l[j] = false) : l.any p = false := by
  rw [List.any_eq_false]
  intro x hx
  obtain ⟨j, hj, rfl⟩ := List.getElem_of_mem hx
  simp [h j hj]
theorem any_at {α : Type} (p : α → Bool) (l : List α) (j : Nat) (hj : j < l.length) (h : p l[j] = true) : l.any p = true := List.any_eq_true.2 ⟨_, List.getElem_mem hj, h⟩
set_option maxHeartbeats 1000000 in
theorem idxTerms (a o cap : Nat) (ts : List Tm) (w : World) (hts : TmsAt w a o ts) (hr : TmsR ts) (hn : ts.length ≤ maxLen) :
    Calls Tryd.prog 86 #[.slice (some ⟨a, o, none⟩) ts.length cap, .func (.func 72) #[] #[]] w (IdxPost (ts.any tmBad) w) := by
  have HTS := Lib.hid hts; clear hts
  have HR := Lib.hid hr; clear hr
  unfold maxLen at hn
  go_enter Tryd.func86, Tryd.ntmps86
  go_wp2_with fail
  go_loopw [8] (fun i wr => ∃ k : Nat, k ≤ ts.length ∧ i = .int .i64 k ∧ (∀ j, (h : j < ts.length) → j < k → tmBad ts[j] = false) ∧ Below w.heap.size w wr) (fun i _ => ts.length - (intOf i).toNat)
  case atStart => exact ⟨0, by omega, rfl, fun j _ h => by omega, Below.refl _ _⟩
  case round =>
    obtain ⟨k, hk, rfl, hok, hb⟩ := hrel
    have Hok := Lib.hid hok; clear hok
    have Hb := Lib.hid hb; clear hb
    by_cases hlt : k < ts.length
    · have hc := (HTS.out.at_ k hlt).up Hb.out HTS.out.lt
      have hvr := (HR.out ts[k] (List.getElem_mem hlt)).v0
      obtain ⟨tk, htk⟩ : ∃ tk, tk = ts[k] := ⟨_, rfl⟩
      rw [← htk] at hc hvr
      have HTK := Lib.hid htk; clear htk
      obtain ⟨v, x, n, t⟩ := tk
      obtain ⟨c0, c1, c2, c3⟩ := hc
      rcases hx : tmBad ⟨v, ⟨x, n, t⟩⟩ with _ | _
      · have HX := Lib.hid hx; clear hx
        go_wp2_with fail
        refine (tTermBad v x n t _ hvr).mono ?_
        rintro e w1 ⟨rfl, hb1⟩
        rw [HX.out]
        have Hb1 := Lib.hid hb1; clear hb1
        go_wp2_with fail
        go_roundw
        case rel => exact ⟨k + 1, by omega, by go_num, fun j hj hjk => by
                      by_cases e : j = k
                      · subst e; rw [← HTK.out]; exact HX.out
                      · exact Hok.out j hj (by omega), Hb.out.trans (Hb1.out.mono Hb.out.size)⟩
        case measure => simp [intOf]; omega
      · have HX := Lib.hid hx; clear hx
        go_wp2_with fail
        refine (tTermBad v x n t _ hvr).mono ?_
        rintro e w1 ⟨rfl, hb1⟩
        rw [HX.out]
        have Hb1 := Lib.hid hb1; clear hb1
        go_wp2_with fail
        go_ret
        exact ⟨k, rfl, ⟨fun _ => any_at _ ts k hlt (by rw [← HTK.out]; exact HX.out), fun _ => by omega⟩, Hb.out.trans (Hb1.out.mono Hb.out.size)⟩
    · go_wp2_with fail
      go_ret
      exact ⟨-1, rfl, ⟨fun h => by omega, fun h => by rw [any_take tmBad ts (fun j hj => Hok.out j hj (by omega))] at h; cases h⟩, Hb.out⟩
theorem idxTerms0 (p : Option Addr) (cap : Nat) (w : World) :
    Calls Tryd.prog 86 #[.slice p 0 cap, .func (.func 72) #[] #[]] w (IdxPost false w) := by
  go_enter Tryd.func86, Tryd.ntmps86
  go_wp2_with fail
  go_loop [8] (fun i => i = .int .i64 0) (fun _ => 0)
  case atStart => rfl
  case round =>
    obtain rfl := hrel
    go_wp2_with fail
    go_ret
    exact ⟨-1, rfl, ⟨fun h => by omega, fun h => by cases h⟩, Below.refl _ _⟩
/-- A slice value that reads as these terms. -/
def TmSl (w : World) (v : Value) (ts : List Tm) : Prop := ∃ p cap, v = .slice p ts.length cap ∧ ts.length ≤ maxLen ∧ (ts.length = 0 ∨ ∃ a o, p = some ⟨a, o, none⟩ ∧ TmsAt w a o ts)
theorem TmSl.up {w w' : World} {v : Value} {ts : List Tm} (h : TmSl w v ts) (hb : Below w.heap.size w w') : TmSl w' v ts := by
  obtain ⟨p, cap, hv, hm, h⟩ := h
  refine ⟨p, cap, hv, hm, ?_⟩
  rcases h with h | ⟨a, o, hp, h⟩
  · exact .inl h
  · exact .inr ⟨a, o, hp, h.up hb h.lt⟩
theorem idxAny (sv : Value) (ts : List Tm) (w : World) (hts : TmSl w sv ts) (hr : TmsR ts) :
    Calls Tryd.prog 86 #[sv, .func (.func 72) #[] #[]] w (IdxPost (ts.any tmBad) w) := by
  obtain ⟨p, cap, rfl, hm, h⟩ := hts
  rcases h with h | ⟨a, o, rfl, h⟩
  · obtain rfl := List.eq_nil_of_length_eq_zero h
    exact idxTerms0 p cap w
  · exact idxTerms a o cap ts w h hr hm
theorem hasBad (sv : Value) (ts : List Tm) (w : World) (hts : TmSl w sv ts) (hr : TmsR ts) :
    Calls Tryd.prog 71 #[sv, .func (.func 72) #[] #[]] w fun e w' => e = .returned (.bool (ts.any tmBad)) ∧ Below w.heap.size w w' := by
  have HTS := Lib.hid hts; clear hts
  have HR := Lib.hid hr; clear hr
  go_enter Tryd.func71, Tryd.ntmps71
  go_wp2_with fail
  refine (idxAny sv ts _ HTS.out HR.out).mono ?_
  rintro e w1 ⟨r, rfl, hr, hb⟩
  have Hr := Lib.hid hr; clear hr
  have Hb := Lib.hid hb; clear hb
  go_wp2_with fail
  go_ret
  exact ⟨ret_bool (by rw [Bool.eq_iff_iff, ← Hr.out]; simp), Hb.out⟩
/-- An atom that may be. -/
def atOk (p : ByteArray) (ts : List Tm) : Bool := nameB (bl p) && decide (ts.length ≤ 24) && !ts.any tmBad
set_option maxHeartbeats 1000000 in
theorem tCheckAtom (p : ByteArray) (sv : Value) (ts : List Tm) (w : World) (hp : p.size ≤ maxLen) (hts : TmSl w sv ts) (hr : TmsR ts) :
    Calls Tryd.prog 50 #[.agg #[.string p, sv]] w fun e w' => e = .returned (.int .i64 (okCode (atOk p ts) 40)) ∧ Below w.heap.size w w' := by
  have HTS := Lib.hid hts
  have HR := Lib.hid hr; clear hr
  obtain ⟨q, cap, rfl, hm, _⟩ := hts
  rcases hn : nameB (bl p) with _ | _
  · have HE := Lib.hid (show atOk p ts = false by simp [atOk, hn])
    have HN := Lib.hid hn; clear hn
    go_enter Tryd.func50, Tryd.ntmps50
    go_wp2_with fail
    refine (tName p _ hp).mono ?_
    rintro e w1 ⟨rfl, hb⟩
    have Hb := Lib.hid hb; clear hb
    rw [HN.out]
    go_wp2_with fail
    refine (tCode _ _).mono ?_
    rintro e w2 ⟨rfl, rfl⟩
    go_wp2_with fail
    go_ret
    exact ⟨ret_int (by rw [HE.out]), (below_alloc _ _).trans (Hb.out.mono (by simp))⟩
  · by_cases h24 : ts.length ≤ 24
    · have HE := Lib.hid (show atOk p ts = !ts.any tmBad by simp [atOk, hn, h24])
      have HN := Lib.hid hn; clear hn
      have d24 : decide ((ts.length : Int) ≤ 24) = true := decide_eq_true (by omega)
      go_enter Tryd.func50, Tryd.ntmps50
      go_wp2_with fail
      refine (tName p _ hp).mono ?_
      rintro e w1 ⟨rfl, hb⟩
      obtain ⟨hc, hf⟩ := bcell hb
      have Hb := Lib.hid hb; clear hb
      have hsz1 : w.heap.size < w1.heap.size := by have := Hb.out.size; simp at this; omega
      rw [HN.out]
      go_wp2_with fail
      refine (hasBad _ ts _ ((HTS.out.up (below_alloc _ _)).up Hb.out) HR.out).mono ?_
      rintro e w2 ⟨rfl, hb2⟩
      have Hb2 := Lib.hid hb2; clear hb2
      clear hc hf
      obtain ⟨y, hy⟩ : ∃ y, y = ts.any tmBad := ⟨_, rfl⟩
      rw [← hy] at HE
      rw [← hy]
      clear hy
      go_wp2_with fail
      refine (tCode _ _).mono ?_
      rintro e w3 ⟨rfl, rfl⟩
      go_wp2_with fail
      go_ret
      exact ⟨ret_int (by rw [HE.out]), ((below_alloc _ _).trans (Hb.out.mono (by simp))).trans (Hb2.out.mono (by omega))⟩
    · have HE := Lib.hid (show atOk p ts = false by simp [atOk, h24])
      have HN := Lib.hid hn; clear hn
      have d24 : decide ((ts.length : Int) ≤ 24) = false := decide_eq_false (by omega)
      go_enter Tryd.func50, Tryd.ntmps50
      go_wp2_with fail
      refine (tName p _ hp).mono ?_
      rintro e w1 ⟨rfl, hb⟩
      obtain ⟨hc, hf⟩ := bcell hb
      have Hb := Lib.hid hb; clear hb
      have hsz1 : w.heap.size < w1.heap.size := by have := Hb.out.size; simp at this; omega
      rw [HN.out]
      go_wp2_with fail
      refine (tCode _ _).mono ?_
      rintro e w3 ⟨rfl, rfl⟩
      go_wp2_with fail
      go_ret
      exact ⟨ret_int (by rw [HE.out]), (below_alloc _ _).trans (Hb.out.mono (by simp))⟩
end Go.Proofs.YtdgbenadoaecoaaDoor

/- The contracts of the writer's columns, of an atom, and of print.Atom. Conditions: what is held and what is written together take at most 2^47 bytes. -/
namespace Go.Proofs.YtdgbenadoaecoaaDoor
open Go.RowKit

theorem wrote_bl (s : ByteArray) : catL [s] = bl s := catL_one s
theorem sepL_le (f : Bool) (l : List (List UInt8)) (k : Nat) : (sepL f (l.take k)).length ≤ (sepL f l).length := by
  induction l generalizing f k with
  | nil => simp [sepL]
  | cons x r ih =>
    cases k with
    | zero => simp [sepL]
    | succ k => have := ih false k; simp [sepL]; omega
theorem sep_next (l : List (List UInt8)) (k : Nat) (h : k < l.length) : sepL true (l.take (k + 1)) = sepL true (l.take k) ++ ((if k = 0 then [40] else [44, 32]) ++ l[k]) := by
  rw [List.take_succ_eq_append_getElem h, sepL_snoc]
  cases k with
  | zero => simp
  | succ k =>
    have : (l.take (k + 1)).isEmpty = false := by
      rw [List.isEmpty_eq_false_iff]; intro e; have := congrArg List.length e; rw [List.length_take, List.length_nil] at this; omega
    simp [this]
set_option maxHeartbeats 2000000 in
/-- columns, its function a closure that captured two variables. -/
theorem pColumns (F : Nat) (hF : ∀ (args : Array Value) (w : World), (callFunc F args).run Tryd.prog w = .ok (.enter F args) w) (c1 c2 : Nat) (b : Nat) (pre : List UInt8) (name : ByteArray) (outs : List (List UInt8)) (w : World)
    (hw : Wr 68 b pre w) (hl : pre.length + (colsL (bl name) outs).length ≤ 140737488355328) (hn : outs.length ≤ 24)
    (hone : ∀ (k : Nat) (h : k < outs.length) (p : List UInt8) (wr : World), Kp b w wr → Wr 68 b p wr → p.length + outs[k].length ≤ 140737488355328 →
      Calls Tryd.prog F #[.int .i64 k, .pointer (some ⟨c1, 0, none⟩), .pointer (some ⟨c2, 0, none⟩)] wr (Wrote b p outs[k] wr)) :
    Calls Tryd.prog 24 #[.pointer (some ⟨b, 0, none⟩), .string name, .int .i64 outs.length, .func (.func F) #[] #[.pointer (some ⟨c1, 0, none⟩), .pointer (some ⟨c2, 0, none⟩)]] w (Wrote b pre (colsL (bl name) outs) w) := by
  have HW := Lib.hid hw
  have hlt := hw.lt; clear hw
  have HONE := Lib.hid hone; clear hone
  have hl2 : pre.length + ((bl name).length + ((sepL true outs).length + (if outs.isEmpty then [] else [41] : List UInt8).length)) ≤ 140737488355328 := by simpa [colsL] using hl
  have HL := Lib.hid hl2; clear hl2 hl
  go_enter Tryd.func24, Tryd.ntmps24
  go_wp2_with fail
  refine (pPut b w.heap.size pre [name] 1 _ (HW.out.alloc _) (by rw [catL_one]; have := HL.out; omega) (by simp) (heap_alloc_new w _) (by omega)).mono ?_
  rintro e w1 ⟨rfl, hw1, hk1⟩
  have H1 := Lib.hid (wr_eq (by rw [catL_one]) hw1); clear hw1
  have HK1 := Lib.hid ((Kp.alloc HW.out _).trans hk1); clear hk1
  have hltb := H1.out.lt
  go_wp2_with fail
  go_loopw [14] (fun i wr => ∃ k : Nat, k ≤ outs.length ∧ i = .int .i64 k ∧ Wr 68 b (pre ++ bl name ++ sepL true (outs.take k)) wr ∧ Kp b w wr) (fun i _ => outs.length - (intOf i).toNat)
  case atStart => exact ⟨0, by omega, rfl, by simpa [sepL] using H1.out, HK1.out⟩
  case round =>
    obtain ⟨k, hk, rfl, hwr, hkp⟩ := hrel
    have HLE := Lib.hid (sepL_le true outs (k + 1))
    have Hr := Lib.hid hwr
    have hltr := hwr.lt; clear hwr
    have Hk := Lib.hid hkp; clear hkp
    by_cases hlk : k < outs.length
    · have hnx := Lib.hid (sep_next outs k hlk)
      by_cases hk0 : k = 0
      · subst hk0
        go_wp2_with fail
        refine (pPut b wr.heap.size _ [⟨#[40]⟩] 1 _ (Hr.out.alloc _) (by rw [catL_one]; have h1 := HL.out; have h2 := HLE.out; rw [hnx.out] at h2; simp [bl] at h1 h2 ⊢; omega) (by simp) (heap_alloc_new wr _) (by omega)).mono ?_
        rintro e wa ⟨rfl, hwa, hka⟩
        have Ha := Lib.hid (wr_eq (by rw [catL_one]) hwa); clear hwa
        have HKa := Lib.hid ((Kp.alloc Hr.out _).trans hka); clear hka
        go_wp2_with fail
        refine (HONE.out 0 hlk _ _ (Hk.out.trans HKa.out) Ha.out (by have h1 := HL.out; have h2 := HLE.out; rw [hnx.out] at h2; simp [bl] at h1 h2 ⊢; omega)).mono ?_
        rintro e wb ⟨rfl, hwb, hkb⟩
        have Hb := Lib.hid hwb; clear hwb
        have HKb := Lib.hid hkb; clear hkb
        go_wp2_with fail
        go_roundw
        case rel => exact ⟨0 + 1, by omega, by go_num, wr_eq (by rw [hnx.out]; simp [bl]) Hb.out, (Hk.out.trans HKa.out).trans HKb.out⟩
        case measure => simp [intOf]; omega
      · have q0 : ((k : Int) == 0) = false := beq_eq_false_iff_ne.2 (by omega)
        have hkz : k ≠ 0 := hk0
        have HZ := Lib.hid hkz; clear hkz hk0
        go_wp2_with fail
        refine (pPut b wr.heap.size _ [⟨#[44, 32]⟩] 1 _ (Hr.out.alloc _) (by rw [catL_one]; have h1 := HL.out; have h2 := HLE.out; rw [hnx.out] at h2; simp [bl, HZ.out] at h1 h2 ⊢; omega) (by simp) (heap_alloc_new wr _) (by omega)).mono ?_
        rintro e wa ⟨rfl, hwa, hka⟩
        have Ha := Lib.hid (wr_eq (by rw [catL_one]) hwa); clear hwa
        have HKa := Lib.hid ((Kp.alloc Hr.out _).trans hka); clear hka
        go_wp2_with fail
        refine (HONE.out k hlk _ _ (Hk.out.trans HKa.out) Ha.out (by have h1 := HL.out; have h2 := HLE.out; rw [hnx.out] at h2; simp [bl, HZ.out] at h1 h2 ⊢; omega)).mono ?_
        rintro e wb ⟨rfl, hwb, hkb⟩
        have Hb := Lib.hid hwb; clear hwb
        have HKb := Lib.hid hkb; clear hkb
        go_wp2_with fail
        go_roundw
        case rel => exact ⟨k + 1, by omega, by go_num, wr_eq (by rw [hnx.out]; simp [bl, HZ.out]) Hb.out, (Hk.out.trans HKa.out).trans HKb.out⟩
        case measure => simp [intOf]; omega
    · obtain rfl : k = outs.length := by omega
      have hta := Lib.hid (show outs.take outs.length = outs from List.take_of_length_le (Nat.le_refl _))
      by_cases h0 : outs.length = 0
      · have q0 : decide (0 < outs.length) = false := decide_eq_false (by omega)
        have HE := Lib.hid (show outs = [] from List.eq_nil_of_length_eq_zero h0)
        clear h0
        go_wp2_with fail
        go_end0
        exact ⟨rfl, wr_eq (by rw [hta.out, HE.out]; simp [colsL, sepL]) Hr.out, Hk.out⟩
      · have q0 : decide (0 < outs.length) = true := decide_eq_true (by omega)
        have HE := Lib.hid (show outs.isEmpty = false by cases outs; exact absurd rfl h0; rfl)
        clear h0
        go_wp2_with fail
        refine (pPut b wr.heap.size _ [⟨#[41]⟩] 1 _ (Hr.out.alloc _) (by rw [catL_one, hta.out]; have h1 := HL.out; rw [HE.out] at h1; simp [bl] at h1 ⊢; omega) (by simp) (heap_alloc_new wr _) (by omega)).mono ?_
        rintro e wa ⟨rfl, hwa, hka⟩
        have Ha := Lib.hid (wr_eq (by rw [catL_one]) hwa); clear hwa
        have HKa := Lib.hid ((Kp.alloc Hr.out _).trans hka); clear hka
        go_wp2_with fail
        go_end0
        exact ⟨rfl, wr_eq (by rw [hta.out, colsL, HE.out]; simp [bl]) Ha.out, Hk.out.trans HKa.out⟩
theorem Wr.drew {T b : Nat} {l : List UInt8} {w : World} (h : Wr T b l w) : Wr T b l w.drew := h
/-- The texts of terms. -/
def termTs (ts : List Tm) : List (List UInt8) := ts.map termL
def atomL (p : ByteArray) (ts : List Tm) : List UInt8 := colsL (bl p) (termTs ts)
set_option maxHeartbeats 1000000 in
set_option maxRecDepth 100000 in
theorem pAtomCol (c1 c2 b i : Nat) (pre : List UInt8) (sv : Value) (ts : List Tm) (wr : World) (hi : i < ts.length) (hw : Wr 68 b pre wr) (hT : Tabs wr)
    (h1 : wr.cell? ⟨c1, 0, none⟩ = some (.pointer (some ⟨b, 0, none⟩))) (h2 : wr.cell? ⟨c2, 1, none⟩ = some sv) (hts : TmSl wr sv ts) (hr : TmsR ts) (hl : pre.length + (termL ts[i]).length ≤ 140737488355328) :
    Calls Tryd.prog 74 #[.int .i64 i, .pointer (some ⟨c1, 0, none⟩), .pointer (some ⟨c2, 0, none⟩)] wr (Wrote b pre (termL ts[i]) wr) := by
  obtain ⟨q, cap, rfl, hm, h⟩ := hts
  rcases h with h | ⟨a, o, rfl, h⟩
  · omega
  · have hc := h.at_ i hi
    have hvr := Lib.hid (hr ts[i] (List.getElem_mem hi))
    obtain ⟨tk, htk⟩ : ∃ tk, tk = ts[i] := ⟨_, rfl⟩
    rw [← htk] at hc hvr hl ⊢
    clear htk
    obtain ⟨v, x, n, t⟩ := tk
    have HW := Lib.hid hw; clear hw
    have HT := Lib.hid hT; clear hT
    obtain ⟨c0, c1', c2', c3⟩ := hc
    go_enter Tryd.func74, Tryd.ntmps74
    go_wp2_with fail
    go_still_tail 6, (by kernel_rfl)
    change wpList _ _ _ _ _ wr.drew
    have HWd := Lib.hid (Wr.drew HW.out)
    have HTd := Lib.hid (HT.out.up ((Below.refl _ wr).drew) HT.out.size)
    have HKd := Lib.hid (Kp.of_below HW.out.lt ((Below.refl _ wr).drew))
    clear h1 h2 c0 c1' c2' c3 h
    obtain ⟨wd, hwd⟩ : ∃ wd, wd = wr.drew := ⟨_, rfl⟩
    rw [← hwd] at HWd HTd HKd ⊢
    clear hwd
    go_wp2_with fail
    refine (pTerm b pre v x n t _ hvr.out HTd.out HWd.out hl).mono ?_
    rintro e w1 ⟨rfl, hw1, hk1⟩
    have H1 := Lib.hid hw1; clear hw1
    have HK1 := Lib.hid hk1; clear hk1
    go_wp2_with fail
    go_end0
    exact ⟨rfl, H1.out, HKd.out.trans HK1.out⟩
end Go.Proofs.YtdgbenadoaecoaaDoor

/- The contracts of the writer's atom and of print.Atom. Conditions: what is held and what is written together take at most 2^47 bytes. -/
namespace Go.Proofs.YtdgbenadoaecoaaDoor
open Go.RowKit

/-- What was there before the writer was made is there still. -/
structure Env (w0 : World) (b : Nat) (w : World) : Prop where
  le : w0.heap.size ≤ b
  bel : Below w0.heap.size w0 w
theorem Env.kp {w0 : World} {b : Nat} {w w' : World} (h : Env w0 b w) (k : Kp b w w') : Env w0 b w' := ⟨h.le, h.bel.trans (k.below.mono h.le)⟩
theorem makeFn (fn : Fn) (first cap : Array Value) (w : World) : (Instr.makeFunc fn first cap).run Tryd.prog w = .ok (.func fn first cap) w := rfl
theorem enterAtom (args : Array Value) (w : World) : (callFunc 74 args).run Tryd.prog w = .ok (.enter 74 args) w := by kernel_rfl
theorem len_ts (ts : List Tm) : (ts.length : Int) = ((termTs ts).length : Int) := by simp [termTs]
set_option maxHeartbeats 1000000 in
set_option maxRecDepth 100000 in
theorem pAtom (w0 : World) (b : Nat) (pre : List UInt8) (p : ByteArray) (sv : Value) (ts : List Tm) (w : World) (hE : Env w0 b w) (hT : Tabs w0) (hts : TmSl w0 sv ts) (hr : TmsR ts) (h24 : ts.length ≤ 24)
    (hw : Wr 68 b pre w) (hl : pre.length + (atomL p ts).length ≤ 140737488355328) :
    Calls Tryd.prog 51 #[.pointer (some ⟨b, 0, none⟩), .agg #[.string p, sv]] w (Wrote b pre (atomL p ts) w) := by
  have HE := Lib.hid hE; clear hE
  have HT := Lib.hid hT; clear hT
  have HTS := Lib.hid hts
  have HR := Lib.hid hr; clear hr
  have HW := Lib.hid hw
  have hlt := hw.lt; clear hw
  obtain ⟨q, cap, rfl, hm, _⟩ := hts
  have hmf := makeFn
  go_enter Tryd.func51, Tryd.ntmps51
  go_wp2_with fail
  clear hmf
  rw [len_ts]
  refine (pColumns 74 enterAtom w.heap.size (w.heap.size + 1) b pre p (termTs ts) _ ((HW.out.alloc _).alloc _) hl (by simpa [termTs] using h24) ?_).mono ?_
  · intro k hk p' wr hkp hwr hlen
    have hk' : k < ts.length := by simpa [termTs] using hk
    have e1 : (termTs ts)[k] = termL ts[k] := by simp [termTs]
    rw [e1] at hlen ⊢
    have hkw := ((Kp.alloc HW.out _).trans (Kp.alloc (HW.out.alloc _) _)).trans hkp
    have henv := HE.out.kp hkw
    refine pAtomCol w.heap.size (w.heap.size + 1) b k p' _ ts wr hk' hwr (HT.out.at henv.bel) ?_ ?_ (HTS.out.up henv.bel) HR.out hlen
    · have h1 := hkp.cell (k := w.heap.size) (c := #[.pointer (some ⟨b, 0, none⟩)]) (t := 75) (fz := (0, 0)) (by rw [Lib.alloc_old _ _ _ (by simp)]; exact heap_alloc_new w _) (by omega) (by decide)
      rw [Lib.cell_of_heap h1]; rfl
    · have h1 := hkp.cell (k := w.heap.size + 1) (c := #[.string p, .slice q ts.length cap]) (t := 29) (fz := (0, 0)) (by simpa using heap_alloc_new (w.alloc _) _) (by omega) (by decide)
      rw [Lib.cell_of_heap h1]; rfl
  · rintro e w1 ⟨rfl, hw1, hk1⟩
    have H1 := Lib.hid hw1; clear hw1
    have HK1 := Lib.hid hk1; clear hk1
    go_wp2_with fail
    go_end0
    exact ⟨rfl, H1.out, ((Kp.alloc HW.out _).trans (Kp.alloc (HW.out.alloc _) _)).trans HK1.out⟩
end Go.Proofs.YtdgbenadoaecoaaDoor

/- The contracts of print.Atom; how long the texts are. Conditions: the terms lie in memory as they are told; a text is no longer than the model lets any be. -/
namespace Go.Proofs.YtdgbenadoaecoaaDoor
open Go.RowKit

theorem runB_le {fr to : UInt8} {l : List UInt8} (h : runB fr to l = true) : l.length ≤ 120 := by
  cases l with
  | nil => simp
  | cons c r => simp [runB] at h; simp; omega
theorem itoa_le {n : Int} (h0 : -9223372036854775808 ≤ n) (h1 : n ≤ 9223372036854775807) : (Lib.itoa n).length ≤ 21 := by
  unfold Lib.itoa
  split
  · have := dec_len n.natAbs (by omega); simp; omega
  · have := dec_len n.toNat (by omega); omega
theorem quoteL_le (l : List UInt8) : (quoteL l).length ≤ 4 * l.length + 2 := by
  have := escL_le l; simp [quoteL]; omega
theorem showL_le {x : Vl} (hr : VlR x.k x.n x.t) : (showL x).length ≤ 802 := by
  unfold showL
  split
  · rename_i hv
    split
    · have := itoa_le hr.n0 hr.n1; omega
    · rename_i hk
      have h200 : x.t.size ≤ 200 := by
        simp [vlOk] at hv hk; omega
      have hb := size_bl x.t
      split
      · omega
      · have := quoteL_le (bl x.t); omega
  · simp
theorem termL_le {t : Tm} (hr : TmR t.v t.x.k t.x.n t.x.t) (ho : tmOk t = true) : (termL t).length ≤ 802 := by
  unfold termL
  split
  · exact showL_le hr.toVlR
  · rename_i h0
    simp only [tmOk, h0, if_false, Bool.false_eq_true, Bool.and_eq_true, Bool.or_eq_true] at ho
    rcases ho.2 with h | h
    · rw [beq_iff_eq] at h; rw [h]; simp
    · have := runB_le h; omega
theorem nameB_le {l : List UInt8} (h : nameB l = true) : l.length ≤ 120 := by
  simp only [nameB, Bool.and_eq_true] at h
  exact runB_le h.1
theorem sepL_bound (l : List (List UInt8)) (h : ∀ x ∈ l, x.length ≤ 802) (f : Bool) : (sepL f l).length ≤ 804 * l.length := by
  induction l generalizing f with
  | nil => simp [sepL]
  | cons x r ih =>
    have h1 := h x (by simp)
    have h2 := ih (fun y hy => h y (by simp [hy])) false
    cases f <;> simp [sepL] <;> omega
theorem not_bad {ts : List Tm} (h : ts.any tmBad = false) : ∀ t ∈ ts, tmOk t = true := by
  intro t ht
  have := List.any_eq_false.1 h t ht
  simpa [tmBad] using this
theorem colsL_bound {name : List UInt8} {l : List (List UInt8)} (hn : name.length ≤ 120) (h : ∀ x ∈ l, x.length ≤ 802) (h24 : l.length ≤ 24) : (colsL name l).length ≤ 20000 := by
  have := sepL_bound l h true
  unfold colsL
  rw [List.length_append, List.length_append]
  split <;> simp <;> omega
theorem atomL_le {p : ByteArray} {ts : List Tm} (hr : TmsR ts) (ho : atOk p ts = true) : (atomL p ts).length ≤ 20000 := by
  simp only [atOk, Bool.and_eq_true, decide_eq_true_eq, Bool.not_eq_true'] at ho
  refine colsL_bound (nameB_le ho.1.1) ?_ (by simpa [termTs] using ho.1.2)
  intro x hx
  obtain ⟨t, ht, rfl⟩ := List.mem_map.1 hx
  exact termL_le (hr t ht) (not_bad ho.2 t ht)
theorem atOk_24 {p : ByteArray} {ts : List Tm} (ho : atOk p ts = true) : ts.length ≤ 24 := by
  simp only [atOk, Bool.and_eq_true, decide_eq_true_eq] at ho
  exact ho.1.2

set_option maxHeartbeats 1000000 in
theorem pToldA (p : ByteArray) (sv : Value) (ts : List Tm) (w : World) (hp : p.size ≤ maxLen) (hts : TmSl w sv ts) (hr : TmsR ts) (hT : Tabs w) :
    Calls Tryd.prog 49 #[.agg #[.string p, sv], .func (.func 50) #[] #[], .func (.func 51) #[] #[]] w (TextPost (atOk p ts) (atomL p ts) w) := by
  have HR := Lib.hid hr; clear hr
  have HT := Lib.hid hT; clear hT
  have HTS := Lib.hid hts
  obtain ⟨q, cap, rfl, _, _⟩ := hts
  rcases hx : atOk p ts with _ | _
  all_goals have HX := Lib.hid hx
  all_goals rw [← hx]
  all_goals clear hx
  · go_enter Tryd.func49, Tryd.ntmps49
    go_wp2_with fail
    refine (tCheckAtom p _ ts _ hp (HTS.out.up (below_alloc _ _)) HR.out).mono ?_
    rintro e w1 ⟨rfl, hb⟩
    have Hb := Lib.hid hb; clear hb
    rw [HX.out, show okCode false 40 = 40 from rfl]
    go_wp2_with fail
    go_ret2
    exact ⟨ret_no HX.out, (below_alloc _ _).trans (Hb.out.mono (by simp))⟩
  · have HL := Lib.hid (atomL_le HR.out HX.out)
    go_enter Tryd.func49, Tryd.ntmps49
    go_wp2_with fail
    refine (tCheckAtom p _ ts _ hp (HTS.out.up (below_alloc _ _)) HR.out).mono ?_
    rintro e w1 ⟨rfl, hb⟩
    obtain ⟨hc, hf⟩ := bcell hb
    have Hb := Lib.hid hb; clear hb
    have hsz1 : w.heap.size < w1.heap.size := by have := Hb.out.size; simp at this; omega
    rw [HX.out, show okCode true 40 = 0 from rfl]
    go_wp2_with fail
    clear hc hf
    refine (pAtom w w1.heap.size [] p _ ts _ ⟨by omega, ((below_alloc _ _).trans (Hb.out.mono (by simp))).trans ((below_alloc w1 _).mono (by omega))⟩ HT.out HTS.out HR.out (atOk_24 HX.out) (wr_fresh _ w1) (by have := HL.out; simp; omega)).mono ?_
    rintro e w2 ⟨rfl, hw2, hk2⟩
    have H2 := Lib.hid hw2; clear hw2
    have HK2 := Lib.hid hk2; clear hk2
    go_wp2_with fail
    refine (bText w1.heap.size _ _ H2.out).mono ?_
    rintro e w3 ⟨rfl, hk3⟩
    have HK3 := Lib.hid hk3; clear hk3
    go_wp2_with fail
    go_ret2
    exact ⟨ret_yes HX.out, (((below_alloc _ _).trans (Hb.out.mono (by simp))).trans ((below_alloc w1 _).mono (by omega))).trans ((HK2.out.trans HK3.out).below.mono (by omega))⟩
theorem pAtomT (p : ByteArray) (sv : Value) (ts : List Tm) (w : World) (hp : p.size ≤ maxLen) (hts : TmSl w sv ts) (hr : TmsR ts) (hT : Tabs w) :
    Calls Tryd.prog 28 #[.agg #[.string p, sv]] w (TextPost (atOk p ts) (atomL p ts) w) := by
  have HR := Lib.hid hr; clear hr
  have HT := Lib.hid hT; clear hT
  have HTS := Lib.hid hts
  obtain ⟨q, cap, rfl, _, _⟩ := hts
  go_enter Tryd.func28, Tryd.ntmps28
  go_wp2_with fail
  refine (pToldA p _ ts _ hp (HTS.out.up (below_alloc _ _)) HR.out (HT.out.alloc _)).mono ?_
  rintro e w1 ⟨rfl, hb⟩
  have Hb := Lib.hid hb; clear hb
  go_wp2_with fail
  go_ret2
  exact ⟨rfl, (below_alloc _ _).trans (Hb.out.mono (by simp))⟩
end Go.Proofs.YtdgbenadoaecoaaDoor
