/- The contracts of strconv.FormatUint at base 10 and of the reference's decimal. Conditions: the table of powers lies as the program lays it. -/
import Derived.Lib.ItoaLen
import Derived.Lib.AppendIntMem
import Derived.Lib.LaidTab
import Derived.Laws.BytesArg
import Derived.Test.YtcigdlpljjkplaaDoorShelf
import Derived.Test.YtcigdlpljjkplaaDoorL5
namespace Go.Proofs.YtcigdlpljjkplaaDoor
open Go.RowKit Go.Sort

theorem one_byte (w : World) (x : Int) : ∃ sc : ByteArray, bl sc = [UInt8.ofNat x.toNat] ∧ sc.size ≤ 1 ∧
    (convert 54 9 (.slice (some ⟨w.heap.size, 0, none⟩) 1 1)).run Tryd.prog (w.alloc (.cells #[.int .u8 x] 5)) = .ok (.string sc) (w.alloc (.cells #[.int .u8 x] 5)) := by
  have h := run_convert_bytes_arg (P := Tryd.prog) (w.alloc (.cells #[.int .u8 x] 5)) 54 5 Tryd.underlying54 Tryd.underlying5 w.heap.size 0 1 1 [x] rfl (fun i hi => by
    obtain rfl : i = 0 := by omega
    simp) 9 Tryd.underlying9
  exact ⟨_, rfl, Nat.le_refl _, h⟩
theorem dec_len (n : Nat) (hn : n < 18446744073709551616) : (Lib.decDigits n).length ≤ 20 := by
  rw [Lib.decDigits_length]; exact Lib.nDigits_le20 n hn
theorem dec_step {n m : Nat} {l : List UInt8} (h10 : 10 ≤ m) (hd : Lib.decDigits m ++ l = Lib.decDigits n) : Lib.decDigits (m / 10) ++ ([UInt8.ofNat (48 + (m : Int) % 10).toNat] ++ l) = Lib.decDigits n := by
  rw [← hd, Lib.decDigits.eq_1 m, dif_neg (by omega), show (48 + (m : Int) % 10).toNat = 48 + m % 10 by omega]; simp
theorem dec_last {n m : Nat} {l : List UInt8} (h10 : ¬ 10 ≤ m) (hd : Lib.decDigits m ++ l = Lib.decDigits n) : [UInt8.ofNat (48 + (m : Int)).toNat] ++ l = Lib.decDigits n := by
  rw [← hd, Lib.decDigits.eq_1 m, dif_pos (by omega), show (48 + (m : Int)).toNat = 48 + m by omega]
/-- The world holds the table of powers. -/
structure PwAt (w : World) : Prop where
  size : 9 ≤ w.heap.size
  pow : Lib.TabIs Tryd.prog w "internal/strconv.uint64pow10" .u64 Lib.pow10Tab
theorem gPow : Tryd.prog.globalNamed "internal/strconv.uint64pow10" = some 3 := by kernel_rfl
theorem PwAt.at {w w' : World} (h : PwAt w) (hb : Below w.heap.size w w') : PwAt w' := ⟨Nat.le_trans h.size hb.size, var?_below hb gPow (by have := h.size; omega) h.pow⟩
set_option maxHeartbeats 6400000 in
set_option maxRecDepth 100000 in
theorem iFormat (u : Nat) (hu64 : u < 18446744073709551616) (w : World) (htab : Lib.TabIs Tryd.prog w "internal/strconv.uint64pow10" .u64 Lib.pow10Tab) :
    Calls Tryd.prog 60 #[.int .u64 u, .int .i64 10] w fun e w' => e = .returned (.string ⟨(Lib.decDigits u).toArray⟩) ∧ Below w.heap.size w w' := by
  by_cases hs : u < 100
  · exact (iFormatSmall u hs w).mono fun e w' h => ⟨h.1, by rw [h.2]; exact Below.refl _ _⟩
  · have hu1 : 1 ≤ u := by omega
    have hnd20 : Lib.nDigits u ≤ 20 := Lib.nDigits_le20 u hu64
    have q100 : decide ((u : Int) < 100) = false := decide_eq_false (by omega)
    have hal : Tryd.prog.arrayLen 87 = 24 := by kernel_rfl
    have hsl1 : ∀ W, (Instr.sliceAt 87 (.pointer (some ⟨w.heap.size, 0, none⟩)) none (some (.int .i64 (Lib.nDigits u : Int))) none).run Tryd.prog W = .ok (.slice (some ⟨w.heap.size, 0, none⟩) (Lib.nDigits u) 24) W := fun W => by
      rw [run_sliceAt_array_h W 87 ⟨w.heap.size, 0, none⟩ (by kernel_rfl) .i64 (Lib.nDigits u : Int) (by omega) (by rw [hal]; omega)]
      go_simp
    have hH0 := Lib.holds_zero0 w 87 (Lib.nDigits u) (by omega)
    have hfmt := Tryd.internal_strconv_formatBase10 w.heap.size 0 24 u (Array.replicate (Lib.nDigits u) 0) (w.alloc (.cells Lib.zeros24 87)) hH0 (by rw [Array.size_replicate]; exact Lib.lt_pow_nDigits u) hu64 (by rw [Array.size_replicate]; omega)
    rw [Array.size_replicate] at hfmt
    have HH0 := Lib.hid hH0
    clear hH0 hal hs
    go_enter Tryd.func60, Tryd.ntmps60
    go_wp2_with (first
      | (go_at_call 70; refine (Tryd.internal_strconv_numDigits u hu1 hu64 _ (Lib.tabIs_alloc htab _)).mono ?_; rintro e w' ⟨rfl, rfl⟩))
    refine hfmt.mono ?_
    rintro e w' ⟨rfl, k, v', dk, rfl, hF⟩
    have hcv : (convert 54 9 (.slice (some ⟨w.heap.size, 0, none⟩) (Lib.nDigits u) 24)).run Tryd.prog ((putRow (fun (b : UInt8) => Value.int .u8 (b.toNat : Int)) (w.alloc (.cells Lib.zeros24 87)) w.heap.size 0 dk).drewN k) = .ok (.string ⟨(Lib.decDigits u).toArray⟩) ((putRow (fun (b : UInt8) => Value.int .u8 (b.toNat : Int)) (w.alloc (.cells Lib.zeros24 87)) w.heap.size 0 dk).drewN k) := by
      have h := run_convert_bytes_back (P := Tryd.prog) ((putRow (fun (b : UInt8) => Value.int .u8 (b.toNat : Int)) (w.alloc (.cells Lib.zeros24 87)) w.heap.size 0 dk).drewN k) 54 9 5 ⟨w.heap.size, 0, none⟩ 24 (Lib.decDigits u) Tryd.underlying54 Tryd.underlying5 Tryd.underlying9 (fun j hj => by
        rw [Lib.row_is_numeral hF j hj, Lib.add_plain, World.cell?_drewN]
        exact cell?_putRow (fun (b : UInt8) => Value.int .u8 (b.toNat : Int)) _ w.heap.size 0 _ dk HH0.out (by rw [hF.size, Array.size_replicate]) j (by rw [hF.size]; rw [Lib.decDigits_length] at hj; exact hj))
      rw [Lib.decDigits_length] at h
      exact h
    go_wp2_with fail
    go_ret
    obtain ⟨os, eo⟩ := Lib.fin_at w (.cells Lib.zeros24 87) dk k 0
    refine ⟨rfl, ?_⟩
    rw [eo]
    exact Lib.below_grow _ _ (Nat.le_refl _) _ _
theorem sFormat (u : Nat) (hu : u < 18446744073709551616) (w : World) (hT : PwAt w) :
    Calls Tryd.prog 35 #[.int .u64 u, .int .i64 10] w fun e w' => e = .returned (.string ⟨(Lib.decDigits u).toArray⟩) ∧ Below w.heap.size w w' := by
  have HL := Lib.hid (dec_len u hu)
  have HC := Lib.hid (iFormat u hu w hT.pow)
  clear hT
  obtain ⟨l, hl⟩ : ∃ l, l = Lib.decDigits u := ⟨_, rfl⟩
  rw [← hl] at HC HL ⊢
  clear hl
  go_enter Tryd.func35, Tryd.ntmps35
  go_wp2_with fail
  refine HC.out.mono ?_
  rintro e w1 ⟨rfl, hb⟩
  have Hb := Lib.hid hb; clear hb
  go_wp2_with fail
  go_ret
  exact ⟨rfl, Hb.out⟩
end Go.Proofs.YtcigdlpljjkplaaDoor
