/- The contracts of the reference's hex, piece and quoted. Conditions: a text takes at most 2^16 bytes. -/
import Derived.Test.YtcigdlpljjkplaaDoorK2
import Derived.Test.YtcigdlpljjkplaaDoorG2
namespace Go.Proofs.YtcigdlpljjkplaaDoor
open Go.RowKit

def hexZ (c : UInt8) : Int := match hexN c with | some n => (n : Int) | none => -1
theorem kHex (c : UInt8) (w : World) :
    Calls Tryd.prog 74 #[.int .u8 c.toNat] w fun e w' => e = .returned (.int .i64 (hexZ c)) ∧ w = w' := by
  have hc := c.toNat_lt
  rcases hd : digitB c with _ | _
  · have hd2 : ¬ (48 ≤ c.toNat ∧ c.toNat ≤ 57) := by unfold digitB at hd; simp at hd; omega
    by_cases h2 : 97 ≤ c.toNat ∧ c.toNat ≤ 102
    · have HR := Lib.hid (show hexZ c = ((c.toNat - 87 : Nat) : Int) by rw [hexZ, hexN, if_neg hd2, if_pos h2])
      have q1 : decide (97 ≤ (c.toNat : Int)) = true := decide_eq_true (by omega)
      have q2 : decide ((c.toNat : Int) ≤ 102) = true := decide_eq_true (by omega)
      have HD := Lib.hid hd
      clear hd hd2
      go_enter Tryd.func74, Tryd.ntmps74
      go_wp2_with fail
      refine (kDigit c _).mono ?_
      rintro e w1 ⟨rfl, rfl⟩
      rw [HD.out]
      go_wp2_with fail
      go_ret
      exact ⟨ret_int (by rw [HR.out]; omega), rfl⟩
    · have HR := Lib.hid (show hexZ c = -1 by rw [hexZ, hexN, if_neg hd2, if_neg h2])
      have HD := Lib.hid hd
      clear hd hd2
      by_cases h97 : 97 ≤ c.toNat
      · have q1 : decide (97 ≤ (c.toNat : Int)) = true := decide_eq_true (by omega)
        have q2 : decide ((c.toNat : Int) ≤ 102) = false := decide_eq_false (by omega)
        clear h2 h97
        go_enter Tryd.func74, Tryd.ntmps74
        go_wp2_with fail
        refine (kDigit c _).mono ?_
        rintro e w1 ⟨rfl, rfl⟩
        rw [HD.out]
        go_wp2_with fail
        go_ret
        exact ⟨ret_int (by rw [HR.out]), rfl⟩
      · have q1 : decide (97 ≤ (c.toNat : Int)) = false := decide_eq_false (by omega)
        clear h2 h97
        go_enter Tryd.func74, Tryd.ntmps74
        go_wp2_with fail
        refine (kDigit c _).mono ?_
        rintro e w1 ⟨rfl, rfl⟩
        rw [HD.out]
        go_wp2_with fail
        go_ret
        exact ⟨ret_int (by rw [HR.out]), rfl⟩
  · have hd2 : 48 ≤ c.toNat ∧ c.toNat ≤ 57 := by unfold digitB at hd; simpa using hd
    have HR := Lib.hid (show hexZ c = ((c.toNat - 48 : Nat) : Int) by rw [hexZ, hexN, if_pos hd2])
    have HD := Lib.hid hd
    clear hd
    go_enter Tryd.func74, Tryd.ntmps74
    go_wp2_with fail
    refine (kDigit c _).mono ?_
    rintro e w1 ⟨rfl, rfl⟩
    rw [HD.out]
    go_wp2_with fail
    go_ret
    exact ⟨ret_int (by rw [HR.out]; omega), rfl⟩
/-- What the reference's piece answers. -/
def stR (l : List UInt8) : Value := match stepQ l with | some (v, m) => .tuple #[.int .u8 v.toNat, .int .i64 m] | none => .tuple #[.int .u8 0, .int .i64 0]
theorem stR_none {l : List UInt8} (h : stepQ l = none) : stR l = .tuple #[.int .u8 0, .int .i64 0] := by rw [stR, h]
theorem stR_some {l : List UInt8} {v : UInt8} {m : Nat} (h : stepQ l = some (v, m)) : stR l = .tuple #[.int .u8 v.toNat, .int .i64 m] := by rw [stR, h]
theorem st_bs {c : UInt8} {r : List UInt8} (h : c.toNat = 92) : stepQ (c :: r) = (pieceP r).map fun x => (x.1, x.2 + 1) := by rw [stepQ, if_pos h]
theorem st_pl {c : UInt8} {r : List UInt8} (h : c.toNat ≠ 92) (h34 : c.toNat ≠ 34) (h1 : 32 ≤ c.toNat) (h2 : c.toNat ≤ 126) : stepQ (c :: r) = some (c, 1) := by rw [stepQ, if_neg h, if_pos ⟨h1, h2, h34⟩]
theorem st_no {c : UInt8} {r : List UInt8} (h : c.toNat ≠ 92) (h1 : ¬ (32 ≤ c.toNat ∧ c.toNat ≤ 126)) : stepQ (c :: r) = none := by rw [stepQ, if_neg h, if_neg (fun h2 => h1 ⟨h2.1, h2.2.1⟩)]
theorem pP_n {c : UInt8} {r : List UInt8} (h : c.toNat = 110) : pieceP (c :: r) = some (10, 1) := by simp only [pieceP, if_pos h]
theorem pP_q {c : UInt8} {r : List UInt8} (h1 : ¬ c.toNat = 110) (h : c.toNat = 34 ∨ c.toNat = 92) : pieceP (c :: r) = some (c, 1) := by simp only [pieceP, if_neg h1, if_pos h]
theorem pP_no {c : UInt8} {r : List UInt8} (h1 : ¬ c.toNat = 110) (h2 : ¬ (c.toNat = 34 ∨ c.toNat = 92)) (h3 : ¬ c.toNat = 120) : pieceP (c :: r) = none := by simp only [pieceP, if_neg h1, if_neg h2, if_neg h3]
theorem pP_short {c : UInt8} {r : List UInt8} (h3 : c.toNat = 120) (hl : r.length < 2) : pieceP (c :: r) = none := by
  simp only [pieceP, if_neg (show ¬ c.toNat = 110 by omega), if_neg (show ¬ (c.toNat = 34 ∨ c.toNat = 92) by omega), if_pos h3]
  match r, hl with
  | [], _ => rfl
  | [a], _ => rfl
def hexP (a b : UInt8) : Option (UInt8 × Nat) := match hexN a, hexN b with | some h, some l => some (UInt8.ofNat (16 * h + l), 3) | _, _ => none
theorem pP_x {c a b : UInt8} {r : List UInt8} (h3 : c.toNat = 120) : pieceP (c :: a :: b :: r) = hexP a b := by
  simp only [pieceP, if_neg (show ¬ c.toNat = 110 by omega), if_neg (show ¬ (c.toNat = 34 ∨ c.toNat = 92) by omega), if_pos h3, hexP]
  cases hexN a <;> cases hexN b <;> rfl
theorem hex_sum {x y : Nat} (hx : x < 16) (hy : y < 16) : ((UInt8.ofNat (16 * x + y)).toNat : Int) = 16 * (x : Int) + (y : Int) := by
  rw [UInt8.toNat_ofNat']
  omega
theorem hexP_1 {a b : UInt8} (h : hexN a = none) : hexP a b = none := by rw [hexP, h]
theorem hexP_2 {a b : UInt8} (h : hexN b = none) : hexP a b = none := by rw [hexP, h]; cases hexN a <;> rfl
theorem hexP_3 {a b : UInt8} {x y : Nat} (ha : hexN a = some x) (hb : hexN b = some y) : hexP a b = some (UInt8.ofNat (16 * x + y), 3) := by rw [hexP, ha, hb]
set_option maxHeartbeats 8000000 in
set_option maxRecDepth 100000 in
theorem kPiece (s : ByteArray) (k : Nat) (w : World) (hk : k < s.size) (hs : s.size ≤ 65536) (h34 : s[k].toNat ≠ 34) :
    Calls Tryd.prog 63 #[.string s, .int .i64 k] w fun e w' => e = .returned (stR ((bl s).drop k)) ∧ Below w.heap.size w w' := by
  have HD := Lib.hid (drop_get s k hk)
  have hki : (k : Int) < (s.size : Int) := by omega
  have hk0 : (0 : Int) ≤ (k : Int) := by omega
  have q34 : ((s[k].toNat : Int) == 34) = false := by simp; omega
  have q34' : ((s[k].toNat : Int) != 34) = true := by simp; omega
  by_cases h92 : s[k].toNat = 92
  · have q92 : ((s[k].toNat : Int) == 92) = true := by simp [h92]
    by_cases h1 : s.size ≤ k + 1
    · have q1 : decide ((s.size : Int) ≤ (k : Int) + 1) = true := decide_eq_true (by omega)
      have HR := Lib.hid (stR_none (show stepQ ((bl s).drop k) = none by rw [HD.out, st_bs h92, List.drop_of_length_le (by rw [size_bl]; exact h1)]; rfl))
      clear h34 h92
      go_enter Tryd.func63, Tryd.ntmps63
      go_wp2_with fail
      go_ret2
      exact ⟨by rw [HR.out] <;> rfl, Below.refl _ _⟩
    · have q1 : decide ((s.size : Int) ≤ (k : Int) + 1) = false := decide_eq_false (by omega)
      have hk1 : k + 1 < s.size := by omega
      have hk1i : (k : Int) + 1 < (s.size : Int) := by omega
      have HD1 := Lib.hid (drop_get s (k + 1) hk1)
      have HST := Lib.hid (show stepQ ((bl s).drop k) = (pieceP (s[k + 1] :: (bl s).drop (k + 1 + 1))).map fun x => (x.1, x.2 + 1) by rw [HD.out, st_bs h92, HD1.out])
      clear h34 h92 h1
      rcases qn : ((s[k + 1].toNat : Int) == 110) with _ | _
      · rcases qa : ((s[k + 1].toNat : Int) == 34) with _ | _
        · rcases qb : ((s[k + 1].toNat : Int) == 92) with _ | _
          · rcases qx : ((s[k + 1].toNat : Int) == 120) with _ | _
            · have HR := Lib.hid (stR_none (show stepQ ((bl s).drop k) = none by rw [HST.out, pP_no (by simp at qn; omega) (by simp at qa qb; omega) (by simp at qx; omega)]; rfl))
              go_enter Tryd.func63, Tryd.ntmps63
              go_wp2_with fail
              go_ret2
              exact ⟨by rw [HR.out] <;> rfl, Below.refl _ _⟩
            · by_cases h3 : k + 3 < s.size
              · have q3 : decide ((k : Int) + 3 < (s.size : Int)) = true := decide_eq_true (by omega)
                have hk2 : k + 2 < s.size := by omega
                have hk2i : (k : Int) + 2 < (s.size : Int) := by omega
                have hk3i : (k : Int) + 3 < (s.size : Int) := by omega
                have HST2 := Lib.hid (show stepQ ((bl s).drop k) = (hexP s[k + 2] s[k + 3]).map fun x => (x.1, x.2 + 1) by
                  rw [HST.out, drop_get s (k + 1 + 1) hk2, drop_get s (k + 1 + 1 + 1) h3, pP_x (by simp at qx; omega)])
                rcases ha : hexN s[k + 2] with _ | x
                · have HA := Lib.hid (show hexZ s[k + 2] = -1 by rw [hexZ, ha])
                  have HR := Lib.hid (stR_none (show stepQ ((bl s).drop k) = none by rw [HST2.out, hexP_1 ha]; rfl))
                  clear ha
                  go_enter Tryd.func63, Tryd.ntmps63
                  go_wp2_with fail
                  refine (kHex _ _).mono ?_
                  rintro e w1 ⟨rfl, rfl⟩
                  rw [HA.out]
                  go_wp2_with fail
                  go_ret2
                  exact ⟨by rw [HR.out] <;> rfl, Below.refl _ _⟩
                · have hx := hexN_lt ha
                  have HA := Lib.hid (show hexZ s[k + 2] = (x : Int) by rw [hexZ, ha])
                  have hxq : decide (0 ≤ (x : Int)) = true := decide_eq_true (by omega)
                  rcases hb : hexN s[k + 3] with _ | y
                  · have HB := Lib.hid (show hexZ s[k + 3] = -1 by rw [hexZ, hb])
                    have HR := Lib.hid (stR_none (show stepQ ((bl s).drop k) = none by rw [HST2.out, hexP_2 hb]; rfl))
                    clear ha hb
                    go_enter Tryd.func63, Tryd.ntmps63
                    go_wp2_with fail
                    refine (kHex _ _).mono ?_
                    rintro e w1 ⟨rfl, rfl⟩
                    rw [HA.out]
                    go_wp2_with fail
                    refine (kHex _ _).mono ?_
                    rintro e w1 ⟨rfl, rfl⟩
                    rw [HB.out]
                    go_wp2_with fail
                    go_ret2
                    exact ⟨by rw [HR.out] <;> rfl, Below.refl _ _⟩
                  · have hy := hexN_lt hb
                    have HB := Lib.hid (show hexZ s[k + 3] = (y : Int) by rw [hexZ, hb])
                    have hyq : decide (0 ≤ (y : Int)) = true := decide_eq_true (by omega)
                    have HR := Lib.hid (stR_some (show stepQ ((bl s).drop k) = some (UInt8.ofNat (16 * x + y), 4) by rw [HST2.out, hexP_3 ha hb]; rfl))
                    clear ha hb
                    go_enter Tryd.func63, Tryd.ntmps63
                    go_wp2_with fail
                    refine (kHex _ _).mono ?_
                    rintro e w1 ⟨rfl, rfl⟩
                    rw [HA.out]
                    go_wp2_with fail
                    refine (kHex _ _).mono ?_
                    rintro e w1 ⟨rfl, rfl⟩
                    rw [HB.out]
                    go_wp2_with fail
                    go_quiet (first | (go_at_call 74; refine (kHex _ _).mono ?_; rintro e w2 ⟨rfl, rfl⟩; (first | rw [HA.out] | rw [HB.out]); exact ⟨rfl, _, rfl⟩))
                    go_wp2_with fail
                    go_ret2
                    exact ⟨by rw [HR.out, hex_sum hx hy] <;> rfl, tk_drewN _ _⟩
              · have q3 : decide ((k : Int) + 3 < (s.size : Int)) = false := decide_eq_false (by omega)
                have HR := Lib.hid (stR_none (show stepQ ((bl s).drop k) = none by rw [HST.out, pP_short (by simp at qx; omega) (by rw [List.length_drop, size_bl]; omega)]; rfl))
                go_enter Tryd.func63, Tryd.ntmps63
                go_wp2_with fail
                go_ret2
                exact ⟨by rw [HR.out] <;> rfl, Below.refl _ _⟩
          · have HR := Lib.hid (stR_some (show stepQ ((bl s).drop k) = some (s[k + 1], 2) by rw [HST.out, pP_q (by simp at qn; omega) (by simp at qb; omega)]; rfl))
            go_enter Tryd.func63, Tryd.ntmps63
            go_wp2_with fail
            go_ret2
            exact ⟨by rw [HR.out] <;> rfl, Below.refl _ _⟩
        · have HR := Lib.hid (stR_some (show stepQ ((bl s).drop k) = some (s[k + 1], 2) by rw [HST.out, pP_q (by simp at qn; omega) (by simp at qa; omega)]; rfl))
          go_enter Tryd.func63, Tryd.ntmps63
          go_wp2_with fail
          go_ret2
          exact ⟨by rw [HR.out] <;> rfl, Below.refl _ _⟩
      · have HR := Lib.hid (stR_some (show stepQ ((bl s).drop k) = some (10, 2) by rw [HST.out, pP_n (by simp at qn; omega)]; rfl))
        go_enter Tryd.func63, Tryd.ntmps63
        go_wp2_with fail
        go_ret2
        exact ⟨by rw [HR.out] <;> rfl, Below.refl _ _⟩
  · have q92 : ((s[k].toNat : Int) == 92) = false := by simp; omega
    by_cases hlo : 32 ≤ s[k].toNat ∧ s[k].toNat ≤ 126
    · have qa : decide (32 ≤ (s[k].toNat : Int)) = true := decide_eq_true (by omega)
      have qb : decide ((s[k].toNat : Int) ≤ 126) = true := decide_eq_true (by omega)
      have HR := Lib.hid (stR_some (show stepQ ((bl s).drop k) = some (s[k], 1) by rw [HD.out, st_pl h92 h34 hlo.1 hlo.2]))
      clear h34 h92 hlo
      go_enter Tryd.func63, Tryd.ntmps63
      go_wp2_with fail
      go_ret2
      exact ⟨by rw [HR.out] <;> rfl, Below.refl _ _⟩
    · have HR := Lib.hid (stR_none (show stepQ ((bl s).drop k) = none by rw [HD.out, st_no h92 hlo]))
      by_cases hl2 : 32 ≤ s[k].toNat
      · have qa : decide (32 ≤ (s[k].toNat : Int)) = true := decide_eq_true (by omega)
        have qb : decide ((s[k].toNat : Int) ≤ 126) = false := decide_eq_false (by omega)
        clear h34 h92 hlo hl2
        go_enter Tryd.func63, Tryd.ntmps63
        go_wp2_with fail
        go_ret2
        exact ⟨by rw [HR.out] <;> rfl, Below.refl _ _⟩
      · have qa : decide (32 ≤ (s[k].toNat : Int)) = false := decide_eq_false (by omega)
        clear h34 h92 hlo hl2
        go_enter Tryd.func63, Tryd.ntmps63
        go_wp2_with fail
        go_ret2
        exact ⟨by rw [HR.out] <;> rfl, Below.refl _ _⟩
end Go.Proofs.YtcigdlpljjkplaaDoor
