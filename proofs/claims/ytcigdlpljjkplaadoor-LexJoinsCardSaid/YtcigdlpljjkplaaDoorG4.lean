/- The contract of the reference's decimal. Conditions: the number is one that its type holds. -/
import Derived.Test.YtcigdlpljjkplaaDoorG3
import Derived.Deep.RegionWith
import Derived.StillTailTactics
namespace Go.Proofs.YtcigdlpljjkplaaDoor
open Go.RowKit

/-- A byte in a block of its own, turned into a string. -/
theorem conv_at (x : Int) : ∃ sc : ByteArray, bl sc = [UInt8.ofNat x.toNat] ∧ sc.size ≤ 1 ∧ ∀ (W : World) (b : Nat), W.heap[b]? = some (.cells #[.int .u8 x] 5 (0, 0)) →
    (convert 54 9 (.slice (some ⟨b, 0, none⟩) 1 1)).run Tryd.prog W = .ok (.string sc) W :=
  ⟨strOfNums [x], rfl, Nat.le_refl _, fun W b h => run_convert_bytes_arg (P := Tryd.prog) W 54 5 Tryd.underlying54 Tryd.underlying5 b 0 1 1 [x] rfl (fun i hi => by
    obtain rfl : i = 0 := by omega
    rw [Lib.cell_of_heap h]
    rfl) 9 Tryd.underlying9⟩
theorem wrap_u8 (n : Int) (h0 : 0 ≤ n) (h1 : n < 256) : IntKind.u8.wrap n = n := by
  simp [IntKind.wrap, IntKind.bits, IntKind.signed]; omega
theorem bl_app (a b : ByteArray) : bl (a ++ b) = bl a ++ bl b := by simp [bl]
set_option maxHeartbeats 2000000 in
set_option maxRecDepth 100000 in
theorem kDecimal (n : Nat) : ∀ (_ : n < 18446744073709551616) (w : World),
    Calls Tryd.prog 38 #[.int .u64 n] w fun e w' => e = .returned (.string ⟨(Lib.decDigits n).toArray⟩) ∧ Below w.heap.size w w' := by
  induction n using Nat.strongRecOn with
  | _ n IH =>
    intro hn w
    by_cases h10 : n < 10
    · have q10 : decide ((n : Int) < 10) = true := decide_eq_true (by omega)
      obtain ⟨sc, hsc, hsz, hcv⟩ := one_byte w (48 + (n : Int))
      have HD := Lib.hid (dec_last (n := n) (m := n) (l := []) (by omega) (by simp))
      have Hsc := Lib.hid hsc; clear hsc IH
      go_enter Tryd.func38, Tryd.ntmps38
      go_wp2_with fail
      go_ret
      exact ⟨ret_bytes (by rw [Hsc.out, ← HD.out]; simp), (Below.refl _ _).alloc (Nat.le_refl _) _⟩
    · have q10 : decide ((n : Int) < 10) = false := decide_eq_false (by omega)
      have HD := Lib.hid (dec_step (n := n) (m := n) (l := []) (by omega) (by simp))
      have hcall := fun w' => IH (n / 10) (by omega) (by omega) w'
      rw [show ((n / 10 : Nat) : Int) = (n : Int) / 10 by omega] at hcall
      have HL := Lib.hid (dec_len (n / 10) (by omega))
      obtain ⟨l, hl⟩ : ∃ l, l = Lib.decDigits (n / 10) := ⟨_, rfl⟩
      rw [← hl] at hcall HL HD
      have hll : l.length ≤ 20 := HL.out
      have HC := Lib.hid hcall
      have HWR := Lib.hid (show IntKind.u64.wrap ((n : Int) / 10) = (n : Int) / 10 by rw [IntKind.wrap_u64]; omega)
      obtain ⟨sc, hsc, hsz, hcv⟩ := conv_at (IntKind.u8.wrap (IntKind.u64.wrap (48 + (n : Int).tmod 10)))
      have h1 := fun W : World => hcv (W.alloc (.cells #[.int .u8 (IntKind.u8.wrap (IntKind.u64.wrap (48 + (n : Int).tmod 10)))] 5)) W.heap.size (heap_alloc_new W _)
      have h1d := hcv (w.alloc (.cells #[.int .u8 (IntKind.u8.wrap (IntKind.u64.wrap (48 + (n : Int).tmod 10)))] 5)).drew w.heap.size (heap_alloc_new w _)
      have HCV := Lib.hid hcv; clear hcv
      rw [show (IntKind.u8.wrap (IntKind.u64.wrap (48 + (n : Int).tmod 10))) = 48 + (n : Int) % 10 by rw [Int.tmod_eq_emod_of_nonneg (by omega), IntKind.wrap_u64, wrap_u8] <;> omega] at hsc
      have Hsc := Lib.hid hsc; clear hsc
      clear IH hl hcall HL
      go_enter Tryd.func38, Tryd.ntmps38
      go_wp2_with fail
      go_region_with (first
        | (go_at_call 38
           rw [HWR.out]
           refine (HC.out _).mono ?_
           rintro r w1 ⟨rfl, hb⟩
           first
             | (have h2 := HCV.out w1 w.heap.size ((hb.block w.heap.size (by simp)).trans (heap_alloc_new w _))
                have Hb := Lib.hid ((Below.drew (below_alloc w _)).trans (hb.mono (by simp)))
                clear hb)
             | (have Hb := Lib.hid ((Below.drew (Below.refl w.heap.size w)).trans hb)
                clear hb)))
      all_goals
        go_wp2_with fail
        go_ret
        first
          | exact ⟨ret_bytes (by rw [bl_app, Hsc.out, bl_mk, ← HD.out]; simp), Hb.out⟩
          | exact ⟨ret_bytes (by rw [bl_app, Hsc.out, bl_mk, ← HD.out]; simp), Hb.out.alloc Hb.out.size _⟩
end Go.Proofs.YtcigdlpljjkplaaDoor
