/- The contracts of the reference's digits. Conditions: the number is one that its type holds. -/
import Derived.Test.YtlghiakckkhekaaDoorW6
import Derived.Lib.ItoaLen
import Derived.Laws.BytesArg
namespace Go.Proofs.YtlghiakckkhekaaDoor
open Go.RowKit

theorem one_byte (w : World) (x : Int) : ∃ sc : ByteArray, bl sc = [UInt8.ofNat x.toNat] ∧ sc.size ≤ 1 ∧
    (convert 90 9 (.slice (some ⟨w.heap.size, 0, none⟩) 1 1)).run Tryd.prog (w.alloc (.cells #[.int .u8 x] 5)) = .ok (.string sc) (w.alloc (.cells #[.int .u8 x] 5)) := by
  have h := run_convert_bytes_arg (P := Tryd.prog) (w.alloc (.cells #[.int .u8 x] 5)) 90 5 Tryd.underlying90 Tryd.underlying5 w.heap.size 0 1 1 [x] rfl (fun i hi => by
    obtain rfl : i = 0 := by omega
    simp) 9 Tryd.underlying9
  exact ⟨_, rfl, Nat.le_refl _, h⟩
theorem dec_len (n : Nat) (hn : n < 18446744073709551616) : (Lib.decDigits n).length ≤ 20 := by
  rw [Lib.decDigits_length]; exact Lib.nDigits_le20 n hn
theorem dec_step {n m : Nat} {l : List UInt8} (h10 : 10 ≤ m) (hd : Lib.decDigits m ++ l = Lib.decDigits n) : Lib.decDigits (m / 10) ++ ([UInt8.ofNat (48 + (m : Int) % 10).toNat] ++ l) = Lib.decDigits n := by
  rw [← hd, Lib.decDigits.eq_1 m, dif_neg (by omega), show (48 + (m : Int) % 10).toNat = 48 + m % 10 by omega]; simp
theorem dec_last {n m : Nat} {l : List UInt8} (h10 : ¬ 10 ≤ m) (hd : Lib.decDigits m ++ l = Lib.decDigits n) : [UInt8.ofNat (48 + (m : Int)).toNat] ++ l = Lib.decDigits n := by
  rw [← hd, Lib.decDigits.eq_1 m, dif_pos (by omega), show (48 + (m : Int)).toNat = 48 + m by omega]
theorem bl_append (a b : ByteArray) : bl (a ++ b) = bl a ++ bl b := by
  show (a ++ b).data.toList = _
  rw [ByteArray.data_append, Array.toList_append]
theorem ret_bytes {a : ByteArray} {l : List UInt8} (h : bl a = l) : Ending.returned (.string a) = .returned (.string ⟨l.toArray⟩) := by
  rw [← h, str_eta]

set_option maxHeartbeats 1000000 in
set_option maxRecDepth 100000 in
theorem rdigits (n : Nat) (hn : n < 18446744073709551616) (w : World) :
    Calls Tryd.prog 131 #[.int .u64 n] w fun e w' => e = .returned (.string ⟨(Lib.decDigits n).toArray⟩) ∧ Below w.heap.size w w' := by
  have HL := Lib.hid (dec_len n hn)
  go_enter Tryd.func131, Tryd.ntmps131
  go_wp2_with fail
  go_loopw [0, 3] (fun v t wr => ∃ (m : Nat) (ts : ByteArray), v = .int .u64 m ∧ t = .string ts ∧ m ≤ n ∧ Lib.decDigits m ++ bl ts = Lib.decDigits n ∧ Below w.heap.size w wr) (fun v _ _ => (intOf v).toNat)
  case atStart => exact ⟨n, ByteArray.empty, rfl, rfl, Nat.le_refl _, by rw [show bl ByteArray.empty = [] from rfl]; simp, Below.refl _ _⟩
  case round =>
    obtain ⟨m, ts, rfl, rfl, hm, hd, hb⟩ := hrel
    have hts : ts.size ≤ 20 := by
      have h1 := congrArg List.length hd
      rw [List.length_append, size_bl] at h1
      have := HL.out
      omega
    have Hd := Lib.hid hd; clear hd
    have Hb := Lib.hid hb; clear hb
    by_cases h10 : 10 ≤ m
    · obtain ⟨sc, hsc, hsz, hcv⟩ := one_byte wr (48 + (m : Int) % 10)
      have HD := Lib.hid (dec_step h10 Hd.out)
      have Hsc := Lib.hid hsc; clear hsc
      go_wp2_with fail
      go_roundw
      case rel => exact ⟨m / 10, sc ++ ts, by go_num, rfl, by omega, by rw [bl_append, Hsc.out]; exact HD.out, Hb.out.alloc Hb.out.size _⟩
      case measure => simp [intOf]; omega
    · obtain ⟨sc, hsc, hsz, hcv⟩ := one_byte wr (48 + (m : Int))
      have HD := Lib.hid (dec_last h10 Hd.out)
      have Hsc := Lib.hid hsc; clear hsc
      go_wp2_with fail
      go_ret
      exact ⟨ret_bytes (by rw [bl_append, Hsc.out]; exact HD.out), Hb.out.alloc Hb.out.size _⟩
theorem wrap_neg (n : Int) (h0 : -9223372036854775808 ≤ n) (h1 : n < 0) : IntKind.u64.wrap (-IntKind.u64.wrap n) = ((n.natAbs : Nat) : Int) := by
  simp only [IntKind.wrap_u64]; omega
theorem wrap_pos (n : Int) (h0 : 0 ≤ n) (h1 : n ≤ 9223372036854775807) : IntKind.u64.wrap n = ((n.toNat : Nat) : Int) := by
  simp only [IntKind.wrap_u64]; omega
theorem one_string (c : UInt8) (l : List UInt8) : bl (⟨#[c]⟩ ++ ⟨l.toArray⟩) = c :: l := by rw [bl_append]; rfl
theorem rDigits (n : Int) (h0 : -9223372036854775808 ≤ n) (h1 : n ≤ 9223372036854775807) (w : World) :
    Calls Tryd.prog 102 #[.int .i64 n] w fun e w' => e = .returned (.string ⟨(Lib.itoa n).toArray⟩) ∧ Below w.heap.size w w' := by
  by_cases hn : n < 0
  · have HI := Lib.hid (show Lib.itoa n = 45 :: Lib.decDigits n.natAbs by rw [Lib.itoa, if_pos hn])
    have HW := Lib.hid (wrap_neg n h0 hn)
    have hb : n.natAbs < 18446744073709551616 := by omega
    have HL := Lib.hid (dec_len _ hb)
    have HB := Lib.hid hb; clear hb h0 h1
    go_enter Tryd.func102, Tryd.ntmps102
    go_wp2_with fail
    rw [HW.out]
    refine (rdigits _ HB.out _).mono ?_
    rintro e w' ⟨rfl, hb⟩
    have Hb := Lib.hid hb; clear hb
    obtain ⟨l, hl⟩ : ∃ l, l = Lib.decDigits n.natAbs := ⟨_, rfl⟩
    rw [← hl]
    have hll : l.length ≤ 20 := by rw [hl]; exact HL.out
    have HLL := Lib.hid hl; clear hl
    go_wp2_with fail
    go_ret
    exact ⟨ret_bytes (by rw [one_string, HI.out, HLL.out]), Hb.out⟩
  · have HI := Lib.hid (show Lib.itoa n = Lib.decDigits n.toNat by rw [Lib.itoa, if_neg hn])
    have HW := Lib.hid (wrap_pos n (by omega) h1)
    have HB := Lib.hid (show n.toNat < 18446744073709551616 by omega)
    clear h0 h1
    go_enter Tryd.func102, Tryd.ntmps102
    go_wp2_with fail
    rw [HW.out]
    refine (rdigits _ HB.out _).mono ?_
    rintro e w' ⟨rfl, hb⟩
    have Hb := Lib.hid hb; clear hb
    go_wp2_with fail
    go_ret
    exact ⟨ret_str HI.out.symm, Hb.out⟩
end Go.Proofs.YtlghiakckkhekaaDoor
