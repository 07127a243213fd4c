/- The contracts of the reference's CheckTerm, of its term's text and of Term. Conditions: a number is one that int64 holds; a text is no longer than the model lets any be. -/
import Derived.Test.YtlghiakckkhekaaDoorW11
namespace Go.Proofs.YtlghiakckkhekaaDoor
open Go.RowKit

/-- What a term is within its types' bounds. -/
structure TmR (v : ByteArray) (k n : Int) (t : ByteArray) : Prop extends VlR k n t where
  v0 : v.size ≤ maxLen
set_option maxHeartbeats 1000000 in
theorem rterm (v : ByteArray) (k n : Int) (t : ByteArray) (w : World) (hv : v.size ≤ maxLen) :
    Calls Tryd.prog 64 #[.agg #[.string v, .int .i8 k, .int .i64 n, .string t]] w fun e w' => e = .returned (.bool (tmOk ⟨v, ⟨k, n, t⟩⟩)) ∧ Below w.heap.size w w' := by
  by_cases h0 : v.toList = []
  · have HE := Lib.hid (show tmOk ⟨v, ⟨k, n, t⟩⟩ = vlOk ⟨k, n, t⟩ by unfold tmOk; rw [if_pos (by rw [bl, ← ByteArray.toList_eq, h0]; rfl)])
    go_enter Tryd.func64, Tryd.ntmps64
    go_wp2_with fail
    refine (rCheck k n t _).mono ?_
    rintro e w1 ⟨rfl, hb⟩
    have Hb := Lib.hid hb; clear hb
    obtain ⟨x, hx⟩ : ∃ x, x = vlOk ⟨k, n, t⟩ := ⟨_, rfl⟩
    rw [← hx] at HE
    rw [← hx]
    clear hx
    cases x
    all_goals
      first | rw [show okCode false 10 = 10 from rfl] | rw [show okCode true 10 = 0 from rfl]
      go_wp2_with fail
      go_ret
      exact ⟨ret_bool (by rw [HE.out]), (((Below.refl _ _).alloc (Nat.le_refl _) _).alloc (by simp) _).trans (Hb.out.mono (by simp; omega))⟩
  · have h0' : (v.toList == []) = false := by simpa using h0
    have hq : ∀ w, _ := fun w => vl_eq0 k n t w
    have HE := Lib.hid (show tmOk ⟨v, ⟨k, n, t⟩⟩ = (vlZero ⟨k, n, t⟩ && (bl v == [95] || varB (bl v))) by unfold tmOk; rw [if_neg (by rw [bl, ← ByteArray.toList_eq]; simpa using h0)])
    obtain ⟨z, hz⟩ : ∃ z, z = vlZero ⟨k, n, t⟩ := ⟨_, rfl⟩
    rw [← hz] at HE
    simp only [← hz] at hq
    clear hz
    have h1 : v.toList.isEmpty = false := by simpa using h0
    clear h0
    by_cases h95 : v.toList = [95]
    · have h95' : (v.toList == [95]) = true := by simp [h95]
      have HE2 := Lib.hid (show tmOk ⟨v, ⟨k, n, t⟩⟩ = z by rw [HE.out, bl, ← ByteArray.toList_eq, h95']; simp)
      clear HE h0' h1 h95'
      go_enter Tryd.func64, Tryd.ntmps64
      go_wp2_with fail
      go_ret
      exact ⟨ret_bool (by rw [HE2.out]), (((Below.refl _ _).alloc (Nat.le_refl _) _).alloc (by simp) _)⟩
    · have h95' : (v.toList == [95]) = false := by simpa using h95
      have HE2 := Lib.hid (show tmOk ⟨v, ⟨k, n, t⟩⟩ = (varB (bl v) && z) by rw [HE.out, show (bl v == [95]) = false by rw [bl, ← ByteArray.toList_eq]; exact h95', Bool.and_comm]; rfl)
      clear HE h95
      go_enter Tryd.func64, Tryd.ntmps64
      go_wp2_with fail
      refine (rVariable v _ hv).mono ?_
      rintro e w1 ⟨rfl, rfl⟩
      obtain ⟨y, hy⟩ : ∃ y, y = varB (bl v) := ⟨_, rfl⟩
      rw [← hy] at HE2
      rw [← hy]
      clear hy
      cases y
      all_goals
        go_wp2_with fail
        go_ret
        exact ⟨ret_bool (by rw [HE2.out]; rfl), (((Below.refl _ _).alloc (Nat.le_refl _) _).alloc (by simp) _)⟩
theorem rCheckTerm (v : ByteArray) (k n : Int) (t : ByteArray) (w : World) (hv : v.size ≤ maxLen) :
    Calls Tryd.prog 29 #[.agg #[.string v, .int .i8 k, .int .i64 n, .string t]] w fun e w' => e = .returned (.int .i64 (okCode (tmOk ⟨v, ⟨k, n, t⟩⟩) 40)) ∧ Below w.heap.size w w' := by
  go_enter Tryd.func29, Tryd.ntmps29
  go_wp2_with fail
  refine (rterm v k n t _ hv).mono ?_
  rintro e w1 ⟨rfl, hb⟩
  have Hb := Lib.hid hb; clear hb
  go_wp2_with fail
  refine (rSaid _ _).mono ?_
  rintro e w2 ⟨rfl, rfl⟩
  go_wp2_with fail
  go_ret
  exact ⟨rfl, ((Below.refl _ _).alloc (Nat.le_refl _) _).trans (Hb.out.mono (by simp))⟩
theorem rText (v : ByteArray) (k n : Int) (t : ByteArray) (w : World) (hr : TmR v k n t) :
    Calls Tryd.prog 30 #[.agg #[.string v, .int .i8 k, .int .i64 n, .string t]] w fun e w' => e = .returned (.string ⟨(termL ⟨v, ⟨k, n, t⟩⟩).toArray⟩) ∧ Below w.heap.size w w' := by
  have HR := Lib.hid hr; clear hr
  by_cases h0 : v.toList = []
  · have HE := Lib.hid (show termL ⟨v, ⟨k, n, t⟩⟩ = showL ⟨k, n, t⟩ by unfold termL; rw [if_pos (by rw [bl, ← ByteArray.toList_eq, h0]; rfl)])
    go_enter Tryd.func30, Tryd.ntmps30
    go_wp2_with fail
    refine (rShow k n t _ HR.out.toVlR).mono ?_
    rintro e w1 ⟨rfl, hb⟩
    have Hb := Lib.hid hb; clear hb
    go_wp2_with fail
    go_ret
    exact ⟨ret_str HE.out.symm, ((Below.refl _ _).alloc (Nat.le_refl _) _).trans (Hb.out.mono (by simp))⟩
  · have h1 : v.toList.isEmpty = false := by simpa using h0
    have HE := Lib.hid (show termL ⟨v, ⟨k, n, t⟩⟩ = bl v by unfold termL; rw [if_neg (by rw [bl, ← ByteArray.toList_eq]; simpa using h0)])
    clear h0
    go_enter Tryd.func30, Tryd.ntmps30
    go_wp2_with fail
    go_ret
    exact ⟨ret_bytes HE.out.symm, (Below.refl _ _).alloc (Nat.le_refl _) _⟩
/-- A text, or none. -/
def txt (b : Bool) (l : List UInt8) : List UInt8 := if b then l else []
/-- What a call answers that tells a text or ErrTerm. -/
def TextPost (b : Bool) (l : List UInt8) (w : World) (e : Ending) (w' : World) : Prop := e = .returned (.tuple #[.string ⟨(txt b l).toArray⟩, .int .i64 (okCode b 40)]) ∧ Below w.heap.size w w'
theorem ret_no {b : Bool} {l : List UInt8} (hb : b = false) : Ending.returned (.tuple #[.string ⟨#[]⟩, .int .i64 40]) = .returned (.tuple #[.string ⟨(txt b l).toArray⟩, .int .i64 (okCode b 40)]) := by rw [hb]; rfl
theorem ret_yes {b : Bool} {l : List UInt8} (hb : b = true) : Ending.returned (.tuple #[.string ⟨l.toArray⟩, .int .i64 0]) = .returned (.tuple #[.string ⟨(txt b l).toArray⟩, .int .i64 (okCode b 40)]) := by rw [hb]; rfl
set_option maxHeartbeats 1000000 in
theorem rTerm (v : ByteArray) (k n : Int) (t : ByteArray) (w : World) (hr : TmR v k n t) :
    Calls Tryd.prog 9 #[.agg #[.string v, .int .i8 k, .int .i64 n, .string t]] w (TextPost (tmOk ⟨v, ⟨k, n, t⟩⟩) (termL ⟨v, ⟨k, n, t⟩⟩) w) := by
  have HR := Lib.hid hr; clear hr
  rcases hx : tmOk ⟨v, ⟨k, n, t⟩⟩ with _ | _
  all_goals have HX := Lib.hid hx
  all_goals rw [← hx]
  all_goals clear hx
  · go_enter Tryd.func9, Tryd.ntmps9
    go_wp2_with fail
    refine (rCheckTerm v k n t _ HR.out.v0).mono ?_
    rintro e w1 ⟨rfl, hb⟩
    have Hb := Lib.hid hb; clear hb
    rw [HX.out, show okCode false 40 = 40 from rfl]
    go_wp2_with fail
    go_ret2
    exact ⟨ret_no HX.out, ((Below.refl _ _).alloc (Nat.le_refl _) _).trans (Hb.out.mono (by simp))⟩
  · go_enter Tryd.func9, Tryd.ntmps9
    go_wp2_with fail
    refine (rCheckTerm v k n t _ HR.out.v0).mono ?_
    rintro e w1 ⟨rfl, hb⟩
    obtain ⟨hc, hf⟩ := bcell hb
    have Hb := Lib.hid hb; clear hb
    have hsz1 : w.heap.size < w1.heap.size := by have := Hb.out.size; simp at this; omega
    rw [HX.out, show okCode true 40 = 0 from rfl]
    go_wp2_with fail
    refine (rText v k n t _ HR.out).mono ?_
    rintro e w2 ⟨rfl, hb2⟩
    have Hb2 := Lib.hid hb2; clear hb2
    clear hc hf
    go_wp2_with fail
    go_ret2
    exact ⟨ret_yes HX.out, (((Below.refl _ _).alloc (Nat.le_refl _) _).trans (Hb.out.mono (by simp))).trans (Hb2.out.mono (by omega))⟩
end Go.Proofs.YtlghiakckkhekaaDoor
