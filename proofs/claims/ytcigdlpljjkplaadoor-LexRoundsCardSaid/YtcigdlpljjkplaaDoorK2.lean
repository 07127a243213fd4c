/- The contracts of lex.piece and lex.quoted. Conditions: a text takes at most 2^47 bytes. -/
import Derived.Test.YtcigdlpljjkplaaDoorK1
import Derived.Test.YtcigdlpljjkplaaDoorL7
namespace Go.Proofs.YtcigdlpljjkplaaDoor
open Go.RowKit

/-- A byte's worth by the row of digits. -/
def hexI (c : UInt8) : Int := Lib.indexByte [48, 49, 50, 51, 52, 53, 54, 55, 56, 57, 97, 98, 99, 100, 101, 102] c
theorem hexI_eq : ∀ c : UInt8, hexI c = (match hexN c with | some n => (n : Int) | none => -1) := by
  intro c
  have h : ∀ n : Fin 256, hexI (UInt8.ofNat n.1) = (match hexN (UInt8.ofNat n.1) with | some n => (n : Int) | none => -1) := by decide +kernel
  have h2 := h ⟨c.toNat, c.toNat_lt⟩
  simpa using h2
theorem hexI_at (c : UInt8) : Lib.indexByte (⟨#[48, 49, 50, 51, 52, 53, 54, 55, 56, 57, 97, 98, 99, 100, 101, 102]⟩ : ByteArray).data.toList ((c.toNat : Int)).toNat.toUInt8 = hexI c := by
  rw [hexI, Int.toNat_natCast, Nat.toUInt8, UInt8.ofNat_toNat]
theorem hex_or : ∀ (h l : Fin 16), bits BinOp.or IntKind.i64 ((h.1 : Int) * 16) (l.1 : Int) % 256 = ((UInt8.ofNat (16 * h.1 + l.1)).toNat : Int) := by decide +kernel
def piR (l : List UInt8) : Value := match pieceP l with | some (v, m) => .tuple #[.int .u8 v.toNat, .int .i64 m] | none => .tuple #[.int .u8 0, .int .i64 0]
/-- What two digits of base 16 stand for. -/
def piH (a b : UInt8) : Value := match hexN a, hexN b with | some h, some l => .tuple #[.int .u8 (UInt8.ofNat (16 * h + l)).toNat, .int .i64 3] | _, _ => .tuple #[.int .u8 0, .int .i64 0]
theorem piR_n {c : UInt8} {r : List UInt8} (h : c.toNat = 110) : piR (c :: r) = .tuple #[.int .u8 10, .int .i64 1] := by
  simp only [piR, pieceP, if_pos h]; rfl
theorem piR_q {c : UInt8} {r : List UInt8} (h : c.toNat = 34 ∨ c.toNat = 92) : piR (c :: r) = .tuple #[.int .u8 c.toNat, .int .i64 1] := by
  simp only [piR, pieceP, if_neg (show ¬ c.toNat = 110 by omega), if_pos h]; rfl
theorem piR_no {c : UInt8} {r : List UInt8} (h1 : c.toNat ≠ 110) (h2 : c.toNat ≠ 34) (h3 : c.toNat ≠ 92) (h4 : c.toNat ≠ 120) : piR (c :: r) = .tuple #[.int .u8 0, .int .i64 0] := by
  simp only [piR, pieceP, if_neg h1, if_neg (show ¬ (c.toNat = 34 ∨ c.toNat = 92) by omega), if_neg h4]
theorem piR_short {c : UInt8} {r : List UInt8} (h : c.toNat = 120) (hl : r.length < 2) : piR (c :: r) = .tuple #[.int .u8 0, .int .i64 0] := by
  simp only [piR, pieceP, if_neg (show ¬ c.toNat = 110 by omega), if_neg (show ¬ (c.toNat = 34 ∨ c.toNat = 92) by omega), if_pos h]
  match r, hl with
  | [], _ => rfl
  | [a], _ => rfl
theorem piR_x {c a b : UInt8} {r : List UInt8} (h : c.toNat = 120) : piR (c :: a :: b :: r) = piH a b := by
  simp only [piR, pieceP, if_neg (show ¬ c.toNat = 110 by omega), if_neg (show ¬ (c.toNat = 34 ∨ c.toNat = 92) by omega), if_pos h, piH]
  cases hexN a <;> cases hexN b <;> rfl
set_option maxHeartbeats 4000000 in
set_option maxRecDepth 100000 in
theorem lPiece (s : ByteArray) (w : World) (hs : s.size ≤ maxLen) :
    Calls Tryd.prog 65 #[.string s] w fun e w' => e = .returned (piR (bl s)) ∧ Below w.heap.size w w' := by
  unfold maxLen at hs
  by_cases h0 : s.size = 0
  · have hR := Lib.hid (show piR (bl s) = .tuple #[.int .u8 0, .int .i64 0] by rw [List.eq_nil_of_length_eq_zero (show (bl s).length = 0 by rw [size_bl]; exact h0)]; rfl)
    have g : s.toList.isEmpty = true := by rw [ByteArray.toList_eq, List.isEmpty_iff_length_eq_zero]; rw [← size_bl] at h0; exact h0
    clear h0
    go_enter Tryd.func65, Tryd.ntmps65
    go_wp2_with fail
    go_ret2
    exact ⟨by rw [hR.out] <;> rfl, Below.refl _ _⟩
  · have g : s.toList.isEmpty = false := by rw [ByteArray.toList_eq, Bool.eq_false_iff]; intro h; rw [List.isEmpty_iff_length_eq_zero] at h; exact h0 (by rw [← size_bl]; exact h)
    have h0' : 0 < s.size := by omega
    have hi0 : (0 : Int) < (s.size : Int) := by omega
    have hd := drop_get s 0 h0'
    rw [List.drop_zero] at hd
    have HP := Lib.hid (show piR (bl s) = piR (s[0] :: (bl s).drop 1) by rw [hd]; rfl)
    clear hd h0
    go_enter Tryd.func65, Tryd.ntmps65
    rcases q1 : ((s[0].toNat : Int) == 110) with _ | _
    · rcases q2 : ((s[0].toNat : Int) == 34) with _ | _
      · rcases q3 : ((s[0].toNat : Int) == 92) with _ | _
        · rcases q4 : ((s[0].toNat : Int) == 120) with _ | _
          · have HR := Lib.hid (show piR (bl s) = .tuple #[.int .u8 0, .int .i64 0] by rw [HP.out]; exact piR_no (by simp at q1; omega) (by simp at q2; omega) (by simp at q3; omega) (by simp at q4; omega))
            go_wp2_with fail
            go_ret2
            exact ⟨by rw [HR.out] <;> rfl, Below.refl _ _⟩
          · by_cases h3 : s.size < 3
            · have q5 : decide ((s.size : Int) < 3) = true := decide_eq_true (by omega)
              have HR := Lib.hid (show piR (bl s) = .tuple #[.int .u8 0, .int .i64 0] by rw [HP.out]; exact piR_short (by simp at q4; omega) (by simp; omega))
              go_wp2_with fail
              go_ret2
              exact ⟨by rw [HR.out] <;> rfl, Below.refl _ _⟩
            · have q5 : decide ((s.size : Int) < 3) = false := decide_eq_false (by omega)
              have h1 : 1 < s.size := by omega
              have h2 : 2 < s.size := by omega
              have hi1 : (1 : Int) < (s.size : Int) := by omega
              have hi2 : (2 : Int) < (s.size : Int) := by omega
              have HR := Lib.hid (show piR (bl s) = piH s[1] s[2] by rw [HP.out, drop_get s 1 h1, drop_get s 2 h2]; exact piR_x (by simp at q4; omega))
              go_wp2_with fail
              go_quiet (first | (go_at_call 32; refine (Tryd.strings_IndexByte _ _ _).mono ?_; rintro e w2 ⟨rfl, rfl⟩; exact ⟨rfl, _, rfl⟩))
              rw [hexI_at s[1], hexI_at s[2], hexI_eq, hexI_eq]
              rcases ha : hexN s[1] with _ | x
              · have HF := Lib.hid (show piH s[1] s[2] = .tuple #[.int .u8 0, .int .i64 0] by rw [piH, ha])
                clear ha
                generalize (match hexN s[2] with | some n => (n : Int) | none => -1) = z
                go_wp2_with fail
                go_ret2
                exact ⟨by rw [HR.out, HF.out] <;> rfl, tk_drewN _ _⟩
              · rcases hb : hexN s[2] with _ | y
                · have hx := hexN_lt ha
                  have hq : decide ((x : Int) < 0) = false := decide_eq_false (by omega)
                  have HF := Lib.hid (show piH s[1] s[2] = .tuple #[.int .u8 0, .int .i64 0] by rw [piH, ha, hb])
                  clear ha hb
                  go_wp2_with fail
                  go_ret2
                  exact ⟨by rw [HR.out, HF.out] <;> rfl, tk_drewN _ _⟩
                · have hx := hexN_lt ha
                  have hy := hexN_lt hb
                  have hq : decide ((x : Int) < 0) = false := decide_eq_false (by omega)
                  have hq2 : decide ((y : Int) < 0) = false := decide_eq_false (by omega)
                  have HF := Lib.hid (show piH s[1] s[2] = .tuple #[.int .u8 (UInt8.ofNat (16 * x + y)).toNat, .int .i64 3] by rw [piH, ha, hb])
                  clear ha hb
                  have HOR := Lib.hid (hex_or ⟨x, hx⟩ ⟨y, hy⟩)
                  go_wp2_with fail
                  rw [HOR.out]
                  go_ret2
                  exact ⟨by rw [HR.out, HF.out] <;> rfl, tk_drewN _ _⟩
        · have HR := Lib.hid (show piR (bl s) = .tuple #[.int .u8 s[0].toNat, .int .i64 1] by rw [HP.out]; exact piR_q (by simp at q3; omega))
          go_wp2_with fail
          go_ret2
          exact ⟨by rw [HR.out] <;> rfl, Below.refl _ _⟩
      · have HR := Lib.hid (show piR (bl s) = .tuple #[.int .u8 s[0].toNat, .int .i64 1] by rw [HP.out]; exact piR_q (by simp at q2; omega))
        go_wp2_with fail
        go_ret2
        exact ⟨by rw [HR.out] <;> rfl, Below.refl _ _⟩
    · have HR := Lib.hid (show piR (bl s) = .tuple #[.int .u8 10, .int .i64 1] by rw [HP.out]; exact piR_n (by simp at q1; omega))
      go_wp2_with fail
      go_ret2
      exact ⟨by rw [HR.out] <;> rfl, Below.refl _ _⟩
end Go.Proofs.YtcigdlpljjkplaaDoor
