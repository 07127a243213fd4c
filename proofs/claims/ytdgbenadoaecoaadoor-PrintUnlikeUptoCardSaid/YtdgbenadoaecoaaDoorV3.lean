/- The contracts of lex.Keyword, runeInWord, spelt, Name. Conditions: a text is no longer than the model lets any be; the keywords lie as the program lays them. -/
import Derived.Test.YtdgbenadoaecoaaDoorMC
import Derived.Laws.RangeAny
import Derived.Lib.OthersKept
namespace Go.Proofs.YtdgbenadoaecoaaDoor
open Go.RowKit

def kwT : List ByteArray := [⟨#[110, 111, 116]⟩, ⟨#[99, 111, 117, 110, 116]⟩, ⟨#[115, 117, 109]⟩, ⟨#[109, 105, 110]⟩, ⟨#[109, 97, 120]⟩, ⟨#[108, 101, 110]⟩, ⟨#[99, 104, 97, 114, 115]⟩, ⟨#[98, 97, 99, 107]⟩]
/-- The keywords' table, as a world holds it. -/
structure KwAt (w : World) : Prop where
  size : 9 ≤ w.heap.size
  kws : ∀ i, i < 8 → w.cell? ⟨5, i, none⟩ = some (.string (kwT.getD i ⟨#[]⟩))
theorem KwAt.at {w w' : World} (h : KwAt w) (hb : Below w.heap.size w w') : KwAt w' :=
  ⟨Nat.le_trans h.size hb.size, fun i hi => (hb.cell (p := ⟨5, i, none⟩) (by have := h.size; show 5 < _; omega)).trans (h.kws i hi)⟩
/-- The keywords from one on. -/
def kwFrom (k : Nat) (l : List UInt8) : Bool := (kwT.drop k).any (fun s => l == bl s)
theorem kwFrom_all (l : List UInt8) : kwB l = kwFrom 0 l := by
  simp [kwB, kwFrom, kwT, bl, Bool.or_assoc]
theorem kwFrom_end (k : Nat) (h : 8 ≤ k) (l : List UInt8) : kwFrom k l = false := by
  unfold kwFrom
  rw [List.drop_eq_nil_of_le (by simpa [kwT] using h)]
  rfl
theorem lRune (r : Int) (w : World) :
    Calls Tryd.prog 80 #[.int .i32 r] w fun e w' => e = .returned (.bool (decide (97 ≤ r) && decide (r ≤ 122) || decide (65 ≤ r) && decide (r ≤ 90) || decide (48 ≤ r) && decide (r ≤ 57) || decide (r = 95))) ∧ w = w' := by
  go_enter Tryd.func80, Tryd.ntmps80
  go_wp2
  all_goals go_ret
  all_goals (refine ⟨ret_bool ?_, rfl⟩; first | (rw [Bool.eq_iff_iff]; done) | (rw [Bool.eq_iff_iff]; simp; done) | (rw [Bool.eq_iff_iff]; simp; omega))
theorem rune_word (c : UInt8) : (decide (97 ≤ (c.toNat : Int)) && decide ((c.toNat : Int) ≤ 122) || decide (65 ≤ (c.toNat : Int)) && decide ((c.toNat : Int) ≤ 90) || decide (48 ≤ (c.toNat : Int)) && decide ((c.toNat : Int) ≤ 57) || decide ((c.toNat : Int) = 95)) = wordB c := by
  rw [Bool.eq_iff_iff]
  simp [wordB, lowerB, upperB, digitB]
  omega
theorem rune_high (r : Nat) (h : 128 ≤ r) : (decide (97 ≤ (r : Int)) && decide ((r : Int) ≤ 122) || decide (65 ≤ (r : Int)) && decide ((r : Int) ≤ 90) || decide (48 ≤ (r : Int)) && decide ((r : Int) ≤ 57) || decide ((r : Int) = 95)) = false := by
  rw [Bool.eq_false_iff]
  simp
  omega
def kwV : Value := .agg #[.string ⟨#[110, 111, 116]⟩, .string ⟨#[99, 111, 117, 110, 116]⟩, .string ⟨#[115, 117, 109]⟩, .string ⟨#[109, 105, 110]⟩, .string ⟨#[109, 97, 120]⟩, .string ⟨#[108, 101, 110]⟩, .string ⟨#[99, 104, 97, 114, 115]⟩, .string ⟨#[98, 97, 99, 107]⟩]
theorem kwIdx (w : World) (k : Nat) (h : k < 8) : (Instr.index 134 kwV (.int .i64 (k : Int))).run Tryd.prog w = .ok (.string (kwT.getD k ⟨#[]⟩)) w := by
  rcases (show k = 0 ∨ k = 1 ∨ k = 2 ∨ k = 3 ∨ k = 4 ∨ k = 5 ∨ k = 6 ∨ k = 7 by omega) with rfl | rfl | rfl | rfl | rfl | rfl | rfl | rfl
  all_goals kernel_rfl
theorem kwFrom_step (k : Nat) (h : k < 8) (l : List UInt8) : kwFrom k l = (l == bl (kwT.getD k ⟨#[]⟩) || kwFrom (k + 1) l) := by
  rcases (show k = 0 ∨ k = 1 ∨ k = 2 ∨ k = 3 ∨ k = 4 ∨ k = 5 ∨ k = 6 ∨ k = 7 by omega) with rfl | rfl | rfl | rfl | rfl | rfl | rfl | rfl
  all_goals rfl
set_option maxHeartbeats 2000000 in
set_option maxRecDepth 100000 in
theorem lKeyword (s : ByteArray) (w : World) (hK : KwAt w) :
    Calls Tryd.prog 65 #[.string s] w fun e w' => e = .returned (.bool (kwB (bl s))) ∧ w = w' := by
  have HE := Lib.hid (kwFrom_all (bl s))
  have k0 : w.cell? ⟨5, 0, none⟩ = some (.string ⟨#[110, 111, 116]⟩) := hK.kws 0 (by decide)
  have k1 : w.cell? ⟨5, 1, none⟩ = some (.string ⟨#[99, 111, 117, 110, 116]⟩) := hK.kws 1 (by decide)
  have k2 : w.cell? ⟨5, 2, none⟩ = some (.string ⟨#[115, 117, 109]⟩) := hK.kws 2 (by decide)
  have k3 : w.cell? ⟨5, 3, none⟩ = some (.string ⟨#[109, 105, 110]⟩) := hK.kws 3 (by decide)
  have k4 : w.cell? ⟨5, 4, none⟩ = some (.string ⟨#[109, 97, 120]⟩) := hK.kws 4 (by decide)
  have k5 : w.cell? ⟨5, 5, none⟩ = some (.string ⟨#[108, 101, 110]⟩) := hK.kws 5 (by decide)
  have k6 : w.cell? ⟨5, 6, none⟩ = some (.string ⟨#[99, 104, 97, 114, 115]⟩) := hK.kws 6 (by decide)
  have k7 : w.cell? ⟨5, 7, none⟩ = some (.string ⟨#[98, 97, 99, 107]⟩) := hK.kws 7 (by decide)
  clear hK
  go_enter Tryd.func65, Tryd.ntmps65
  go_wp2_with fail
  clear k0 k1 k2 k3 k4 k5 k6 k7
  obtain ⟨KV, hKV⟩ : ∃ KV, KV = kwV := ⟨_, rfl⟩
  rw [show (Value.agg #[.string ⟨#[110, 111, 116]⟩, .string ⟨#[99, 111, 117, 110, 116]⟩, .string ⟨#[115, 117, 109]⟩, .string ⟨#[109, 105, 110]⟩, .string ⟨#[109, 97, 120]⟩, .string ⟨#[108, 101, 110]⟩, .string ⟨#[99, 104, 97, 114, 115]⟩, .string ⟨#[98, 97, 99, 107]⟩]) = KV from hKV.symm]
  have hidx := fun k h => kwIdx w k h
  rw [← hKV] at hidx
  have HX := Lib.hid hidx
  clear hKV hidx
  go_loop [6] (fun i => ∃ k : Nat, k ≤ 8 ∧ i = .int .i64 k ∧ kwFrom 0 (bl s) = kwFrom k (bl s)) (fun i => 8 - (intOf i).toNat)
  case atStart => exact ⟨0, by omega, rfl, rfl⟩
  case round =>
    obtain ⟨k, hk, rfl, hw⟩ := hrel
    have HW := Lib.hid hw; clear hw
    by_cases hlt : k < 8
    · have HS := Lib.hid (kwFrom_step k hlt (bl s))
      have hix := HX.out k hlt
      obtain ⟨x, hx⟩ : ∃ x, x = kwT.getD k ⟨#[]⟩ := ⟨_, rfl⟩
      rw [← hx] at hix
      have HXX := Lib.hid hx; clear hx
      rcases hq : s.toList == x.toList with _ | _
      · have HQ := Lib.hid (show (bl s == bl x) = false by rw [bl, bl, ← ByteArray.toList_eq, ← ByteArray.toList_eq]; exact hq)
        go_wp2_with fail
        exact ⟨⟨k + 1, by omega, by go_num, by rw [HW.out, HS.out, ← HXX.out, HQ.out]; rfl⟩, by simp [intOf]; omega⟩
      · have HQ := Lib.hid (show (bl s == bl x) = true by rw [bl, bl, ← ByteArray.toList_eq, ← ByteArray.toList_eq]; exact hq)
        go_wp2_with fail
        go_ret
        exact ⟨ret_bool (by rw [HE.out, HW.out, HS.out, ← HXX.out, HQ.out]; rfl), rfl⟩
    · go_wp2_with fail
      go_ret
      exact ⟨ret_bool (by rw [HE.out, HW.out, kwFrom_end k (by omega)]), rfl⟩
theorem runB_low {fr to : UInt8} {s : ByteArray} {j : Nat} (h0 : 0 < s.size) (hj : j < s.size) (h : wordB s[j] = false) : runB fr to (bl s) = false := by
  rw [runB_eq fr to s h0, all_false wordB s j hj h]
  simp
set_option maxHeartbeats 2000000 in
theorem lSpelt (s : ByteArray) (fr to : UInt8) (w : World) (hs : s.size ≤ maxLen) :
    Calls Tryd.prog 64 #[.string s, .int .i32 fr.toNat, .int .i32 to.toNat] w fun e w' => e = .returned (.bool (runB fr to (bl s))) ∧ Below w.heap.size w w' := by
  unfold maxLen at hs
  by_cases h0 : s.size = 0
  · have HE := Lib.hid (runB_no0 fr to s h0)
    have g : s.toList.isEmpty = true := by rw [ByteArray.toList_eq, List.isEmpty_iff_length_eq_zero]; rw [← size_bl] at h0; exact h0
    clear h0
    go_enter Tryd.func64, Tryd.ntmps64
    go_wp2_with fail
    go_ret
    exact ⟨ret_bool HE.out.symm, Below.refl _ _⟩
  · have g : s.toList.isEmpty = false := by rw [ByteArray.toList_eq, Bool.eq_false_iff]; intro h; rw [List.isEmpty_iff_length_eq_zero] at h; exact h0 (by rw [← size_bl]; exact h)
    have h0' : 0 < s.size := by omega
    clear h0
    by_cases h1 : 120 < s.size
    · have HE := Lib.hid (show runB fr to (bl s) = false from runB_not h0' (by omega))
      have g1 : decide (120 < (s.size : Int)) = true := decide_eq_true (by omega)
      go_enter Tryd.func64, Tryd.ntmps64
      go_wp2_with fail
      go_ret
      exact ⟨ret_bool HE.out.symm, Below.refl _ _⟩
    · have g1 : decide (120 < (s.size : Int)) = false := decide_eq_false (by omega)
      go_enter Tryd.func64, Tryd.ntmps64
      go_wp2_with fail
      clear g g1
      go_loopw [7, 8] (fun _ _ wr => ∃ pos : Nat, pos ≤ s.size ∧ wr = w.iter s pos ∧ (∀ j, (h : j < s.size) → j < pos → wordB s[j] = true) ∧ (0 < pos → fr.toNat ≤ s[0].toNat ∧ s[0].toNat ≤ to.toNat)) (fun _ _ wr => s.size - wr.iterPos w.heap.size)
      case atStart => exact ⟨0, by omega, rfl, fun j _ h => by omega, fun h => by omega⟩
      case round =>
        obtain ⟨pos, hp, rfl, hw, hfl⟩ := hrel
        have HWr := Lib.hid hw; clear hw
        have HFL := Lib.hid hfl; clear hfl
        by_cases hlt : pos < s.size
        · by_cases ha : s[pos].toNat < 128
          · have hnext : ∀ ty, (Instr.next (.pointer (some ⟨w.heap.size, 0, none⟩)) true ty).run Tryd.prog (w.iter s pos) = _ := fun ty => run_next_ascii w s pos ty hlt ha
            have HMU := Lib.hid (World.iterPos_iter w s pos)
            have HMU2 := Lib.hid (World.iterPos_iter w s (pos + 1))
            have HB2 := Lib.hid (show Below w.heap.size w (w.iter s (pos + 1)) from below_alloc _ _)
            obtain ⟨W1, hW1⟩ : ∃ W1, W1 = w.iter s (pos + 1) := ⟨_, rfl⟩
            rw [← hW1] at hnext HMU2 HB2
            have HW1 := Lib.hid hW1; clear hW1
            rcases hwd : wordB s[pos] with _ | _
            · have HE := Lib.hid (runB_low (fr := fr) (to := to) h0' hlt hwd)
              have HWD := Lib.hid (rune_word s[pos]); rw [hwd] at HWD
              clear hwd
              go_wp2_with fail
              refine (lRune _ _).mono ?_
              rintro e w1 ⟨rfl, rfl⟩
              rw [HWD.out]
              go_wp2_with fail
              go_ret
              exact ⟨ret_bool HE.out.symm, HB2.out⟩
            · have HWD := Lib.hid (rune_word s[pos]); rw [hwd] at HWD
              have HWT := Lib.hid hwd
              clear hwd
              by_cases hz : pos = 0
              · subst hz
                by_cases h2 : s[0].toNat < fr.toNat
                · have g2 : decide (s[0].toNat < fr.toNat) = true := decide_eq_true h2
                  have HE := Lib.hid (show runB fr to (bl s) = false from runB_not h0' (by omega))
                  clear h2
                  go_wp2_with fail
                  refine (lRune _ _).mono ?_
                  rintro e w1 ⟨rfl, rfl⟩
                  rw [HWD.out]
                  go_wp2_with fail
                  go_ret
                  exact ⟨ret_bool HE.out.symm, HB2.out⟩
                · have g2 : decide (s[0].toNat < fr.toNat) = false := decide_eq_false h2
                  by_cases h3 : to.toNat < s[0].toNat
                  · have g3 : decide (to.toNat < s[0].toNat) = true := decide_eq_true h3
                    have HE := Lib.hid (show runB fr to (bl s) = false from runB_not h0' (by omega))
                    clear h2 h3
                    go_wp2_with fail
                    refine (lRune _ _).mono ?_
                    rintro e w1 ⟨rfl, rfl⟩
                    rw [HWD.out]
                    go_wp2_with fail
                    go_ret
                    exact ⟨ret_bool HE.out.symm, HB2.out⟩
                  · have g3 : decide (to.toNat < s[0].toNat) = false := decide_eq_false h3
                    have H23 := Lib.hid (show fr.toNat ≤ s[0].toNat ∧ s[0].toNat ≤ to.toNat by omega)
                    clear h2 h3
                    go_wp2_with fail
                    refine (lRune _ _).mono ?_
                    rintro e w1 ⟨rfl, rfl⟩
                    rw [HWD.out]
                    go_wp2_with fail
                    exact ⟨⟨1, by omega, HW1.out, step_all HWr.out hlt HWT.out, fun _ => H23.out⟩, by rw [HMU.out, HMU2.out]; omega⟩
              · have hzb : ((pos : Int) == 0) = false := beq_eq_false_iff_ne.2 (by omega)
                go_wp2_with fail
                refine (lRune _ _).mono ?_
                rintro e w1 ⟨rfl, rfl⟩
                rw [HWD.out]
                go_wp2_with fail
                exact ⟨⟨pos + 1, by omega, HW1.out, step_all HWr.out hlt HWT.out, fun _ => HFL.out (by omega)⟩, by rw [HMU.out, HMU2.out]; omega⟩
          · have hnext : ∀ ty, (Instr.next (.pointer (some ⟨w.heap.size, 0, none⟩)) true ty).run Tryd.prog (w.iter s pos) = _ := fun ty => run_next_any w s pos ty hlt
            have HR := Lib.hid (rune_high _ (decode_high s pos hlt (by omega)).1)
            have HE := Lib.hid (runB_low (fr := fr) (to := to) h0' hlt (wordB_false _ (by omega)))
            have HB2 := Lib.hid (show Below w.heap.size w (w.iter s (pos + (Utf8.decode s pos).2)) from below_alloc _ _)
            obtain ⟨W1, hW1⟩ : ∃ W1, W1 = w.iter s (pos + (Utf8.decode s pos).2) := ⟨_, rfl⟩
            rw [← hW1] at hnext HB2
            clear hW1
            go_wp2_with fail
            refine (lRune _ _).mono ?_
            rintro e w1 ⟨rfl, rfl⟩
            rw [HR.out]
            go_wp2_with fail
            go_ret
            exact ⟨ret_bool HE.out.symm, HB2.out⟩
        · have hnext : ∀ ty, (Instr.next (.pointer (some ⟨w.heap.size, 0, none⟩)) true ty).run Tryd.prog (w.iter s pos) = _ := fun ty => run_next_end w s pos ty hlt
          have HE := Lib.hid (show runB fr to (bl s) = true by
            rw [runB_all h0' (by omega) (HFL.out (by omega)).1 (HFL.out (by omega)).2]
            exact all_true wordB s (fun j h => HWr.out j h (by omega)))
          have HB2 := Lib.hid (show Below w.heap.size w (w.iter s pos) from below_alloc _ _)
          go_wp2_with fail
          go_ret
          exact ⟨ret_bool HE.out.symm, HB2.out⟩
theorem lName (s : ByteArray) (w : World) (hs : s.size ≤ maxLen) (hK : KwAt w) :
    Calls Tryd.prog 44 #[.string s] w fun e w' => e = .returned (.bool (nameB (bl s))) ∧ Below w.heap.size w w' := by
  have HK := Lib.hid hK; clear hK
  rcases hb : runB 97 122 (bl s) with _ | _
  all_goals have HB := Lib.hid hb
  all_goals clear hb
  · go_enter Tryd.func44, Tryd.ntmps44
    go_wp2_with fail
    refine (lSpelt s 97 122 _ hs).mono ?_
    rintro e w1 ⟨rfl, hb⟩
    have Hb := Lib.hid hb; clear hb
    rw [HB.out]
    go_wp2_with fail
    go_ret
    exact ⟨ret_bool (by simp [nameB, HB.out]), Hb.out⟩
  · go_enter Tryd.func44, Tryd.ntmps44
    go_wp2_with fail
    refine (lSpelt s 97 122 _ hs).mono ?_
    rintro e w1 ⟨rfl, hb⟩
    have Hb := Lib.hid hb; clear hb
    rw [HB.out]
    go_wp2_with fail
    refine (lKeyword s _ (HK.out.at Hb.out)).mono ?_
    rintro e w2 ⟨rfl, rfl⟩
    go_wp2_with fail
    go_ret
    exact ⟨ret_bool (by simp [nameB, HB.out]), Hb.out⟩
end Go.Proofs.YtdgbenadoaecoaaDoor
