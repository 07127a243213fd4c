/- The contracts of the reference's check of atoms and of its columns. Conditions: the terms lie in memory as they are told; a text is no longer than 2^40 bytes. -/
import Derived.Test.YtafjjececdhmjaaGreatNMC
namespace Go.Proofs.YtafjjececdhmjaaGreat
open Go.RowKit

theorem any_bad_no {ts : List Tm} (h : ∀ m, (hm : m < ts.length) → tmOk ts[m] = true) : ts.any tmBad = false := by
  rw [List.any_eq_false]
  intro t ht
  obtain ⟨m, hm, rfl⟩ := List.mem_iff_getElem.1 ht
  simp [tmBad, h m hm]
theorem any_bad_yes {ts : List Tm} {m : Nat} (hm : m < ts.length) (h : tmOk ts[m] = false) : ts.any tmBad = true := by
  rw [List.any_eq_true]
  exact ⟨ts[m], List.getElem_mem hm, by simp [tmBad, h]⟩
set_option maxHeartbeats 2000000 in
theorem rAtomB (p : ByteArray) (sv : Value) (ts : List Tm) (w : World) (hp : p.size ≤ maxLen) (hts : TmSl w sv ts) (hr : TmsR ts) :
    Calls Tryz.prog 60 #[.agg #[.string p, sv]] w fun e w' => e = .returned (.bool (atOk p ts)) ∧ Below w.heap.size w w' := by
  obtain ⟨q, cap, rfl, hm, hs⟩ := hts
  have HS := Lib.hid hs; clear hs
  have HR := Lib.hid hr; clear hr
  rcases hn : nameB (bl p) with _ | _
  · have HE := Lib.hid (show atOk p ts = false by simp [atOk, hn])
    have HN := Lib.hid hn; clear hn
    go_enter Tryz.func60, Tryz.ntmps60
    go_wp2_with fail
    refine (rName p _ hp).mono ?_
    rintro e w1 ⟨rfl, rfl⟩
    rw [HN.out]
    go_wp2_with fail
    go_ret
    exact ⟨ret_bool HE.out.symm, below_alloc _ _⟩
  · by_cases h24 : ts.length ≤ 24
    · have HE := Lib.hid (show atOk p ts = !ts.any tmBad by simp [atOk, hn, h24])
      have HN := Lib.hid hn; clear hn
      have d24 : decide ((24 : Int) < (ts.length : Int)) = false := decide_eq_false (by omega)
      obtain ⟨W, hW⟩ : ∃ W, W = w.alloc (.cells #[.string p, .slice q ts.length cap] 26) := ⟨_, rfl⟩
      have HBW := Lib.hid (show Below w.heap.size w W by rw [hW]; exact below_alloc _ _)
      have hsW : W.heap.size = w.heap.size + 1 := by rw [hW]; simp
      have HBX := Lib.hid (show W.heap[w.heap.size]? = some (.cells #[.string p, .slice q ts.length cap] 26 (0, 0)) by rw [hW]; exact heap_alloc_new w _)
      go_enter Tryz.func60, Tryz.ntmps60
      go_wp2_with fail
      refine (rName p _ hp).mono ?_
      rintro e w1 ⟨rfl, rfl⟩
      rw [HN.out]
      go_wp2_with fail
      rw [← hW]
      clear hW
      go_loopw [3] (fun i wr => ∃ j : Nat, j ≤ ts.length ∧ i = .int .i64 j ∧ (∀ m, (h : m < ts.length) → m < j → tmOk ts[m] = true) ∧ Below W.heap.size W wr) (fun i _ => ts.length - (intOf i).toNat)
      case atStart => exact ⟨0, by omega, rfl, fun m _ h => by omega, Below.refl _ _⟩
      case round =>
        obtain ⟨j, hj, rfl, hok, hb⟩ := hrel
        have Hok := Lib.hid hok; clear hok
        have Hb := Lib.hid hb; clear hb
        have hbx := (Hb.out.block w.heap.size (by omega)).trans HBX.out
        have x0 : wr.cell? ⟨w.heap.size, 0, none⟩ = some (.string p) := by rw [Lib.cell_of_heap hbx]; rfl
        have x1 : wr.cell? ⟨w.heap.size, 1, none⟩ = some (.slice q ts.length cap) := by rw [Lib.cell_of_heap hbx]; rfl
        clear hbx
        by_cases hlt : j < ts.length
        · rcases HS.out with h0 | ⟨a, o, hq, hat⟩
          · omega
          subst hq
          have hck := (hat.at_ j hlt).up (HBW.out.trans (Hb.out.mono (by omega))) hat.lt
          have hvr := (HR.out ts[j] (List.getElem_mem hlt)).v0
          clear hat
          obtain ⟨tk, htk⟩ : ∃ tk, tk = ts[j] := ⟨_, rfl⟩
          rw [← htk] at hck hvr
          have HTK := Lib.hid htk; clear htk
          obtain ⟨v, k, n, t⟩ := tk
          obtain ⟨c0, c1, c2, c3⟩ := hck
          rcases hx : tmOk ⟨v, ⟨k, n, t⟩⟩ with _ | _
          all_goals have HX := Lib.hid hx
          all_goals clear hx
          · go_wp2_with fail
            refine (rterm v k n t _ hvr).mono ?_
            rintro e w1 ⟨rfl, hb1⟩
            rw [HX.out]
            have Hb1 := Lib.hid hb1; clear hb1
            go_wp2_with fail
            go_ret
            exact ⟨ret_bool (by rw [HE.out, any_bad_yes hlt (by rw [← HTK.out]; exact HX.out)]; rfl), HBW.out.trans ((Hb.out.trans (Hb1.out.mono Hb.out.size)).mono (by omega))⟩
          · go_wp2_with fail
            refine (rterm v k n t _ hvr).mono ?_
            rintro e w1 ⟨rfl, hb1⟩
            rw [HX.out]
            have Hb1 := Lib.hid hb1; clear hb1
            go_wp2_with fail
            go_roundw
            case rel => exact ⟨j + 1, by omega, by go_num, fun m hm hmj => by
                          by_cases e : m = j
                          · subst e; rw [← HTK.out]; exact HX.out
                          · exact Hok.out m hm (by omega), Hb.out.trans (Hb1.out.mono Hb.out.size)⟩
            case measure => simp [intOf]; omega
        · go_wp2_with fail
          go_ret
          exact ⟨ret_bool (by rw [HE.out, any_bad_no (fun m hm => Hok.out m hm (by omega))]; rfl), HBW.out.trans (Hb.out.mono (by omega))⟩
    · have HE := Lib.hid (show atOk p ts = false by simp [atOk, h24])
      have HN := Lib.hid hn; clear hn
      have d24 : decide ((24 : Int) < (ts.length : Int)) = true := decide_eq_true (by omega)
      go_enter Tryz.func60, Tryz.ntmps60
      go_wp2_with fail
      refine (rName p _ hp).mono ?_
      rintro e w1 ⟨rfl, rfl⟩
      rw [HN.out]
      go_wp2_with fail
      go_ret
      exact ⟨ret_bool HE.out.symm, below_alloc _ _⟩
theorem sepL_take : ∀ (f : Bool) (l : List (List UInt8)) (j : Nat), (sepL f (l.take j)).length ≤ (sepL f l).length
  | f, [], j => by simp
  | f, x :: r, 0 => by simp [sepL]
  | f, x :: r, j + 1 => by
    have := sepL_take false r j
    simp [sepL]
    omega
theorem sepL_count : ∀ (f : Bool) (l : List (List UInt8)), l.length ≤ (sepL f l).length
  | _, [] => by simp
  | f, x :: r => by
    have := sepL_count false r
    cases f <;> simp [sepL] <;> omega
/-- Texts in a row of memory. -/
def StrsAt (w : World) (p : Option Addr) (l : List (List UInt8)) : Prop := l.length = 0 ∨ ∃ a o, p = some ⟨a, o, none⟩ ∧ ∀ i, (h : i < l.length) → w.cell? ⟨a, o + i, none⟩ = some (.string ⟨l[i].toArray⟩)
theorem bl_app (a b : ByteArray) : bl (a ++ b) = bl a ++ bl b := by simp [bl]
/-- What the columns' loop has gathered behind j columns. -/
def colsJ (l : List (List UInt8)) (j : Nat) : List UInt8 := if j = 0 then [40] else sepL true (l.take j)
theorem colsJ_zero (l : List (List UInt8)) : colsJ l 0 = [40] := rfl
theorem colsJ_one {l : List (List UInt8)} (h : 0 < l.length) : colsJ l (0 + 1) = ([40] : List UInt8) ++ l[0] := by
  cases l with
  | nil => simp at h
  | cons x r => simp [colsJ, sepL]
theorem colsJ_succ {l : List (List UInt8)} {j : Nat} (hj : j ≠ 0) (h : j < l.length) : colsJ l (j + 1) = colsJ l j ++ ([44, 32] ++ l[j]) := by
  have h1 : (l.take j).isEmpty = false := by
    cases l with
    | nil => simp at h
    | cons x r =>
      cases j with
      | zero => exact absurd rfl hj
      | succ j => rfl
  simp only [colsJ, hj, if_false, Nat.add_eq_zero_iff, and_false, Nat.succ_ne_self]
  rw [← List.take_append_getElem h, sepL_snoc, h1]
  simp
theorem colsJ_le (l : List (List UInt8)) (j : Nat) : (colsJ l j).length ≤ (sepL true l).length + 1 := by
  unfold colsJ
  split
  · simp
  · have := sepL_take true l j
    omega
def ColsRel (name : ByteArray) (l : List (List UInt8)) (w : World) (v i : Value) (wr : World) : Prop :=
  ∃ (j : Nat) (s : ByteArray), i = .int .i64 j ∧ v = .string s ∧ j ≤ l.length ∧ bl s = bl name ++ colsJ l j ∧ wr = w
end Go.Proofs.YtafjjececdhmjaaGreat
