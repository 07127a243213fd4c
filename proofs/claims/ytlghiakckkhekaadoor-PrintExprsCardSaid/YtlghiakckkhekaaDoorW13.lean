/- The contracts of print's writer: put, and a term. Conditions: what is held and what is written together take at most 2^47 bytes. -/
import Derived.Test.YtlghiakckkhekaaDoorW10
namespace Go.Proofs.YtlghiakckkhekaaDoor
open Go.RowKit

/-- What a call leaves that writes the bytes l behind what the writer in block b holds. -/
def Wrote (b : Nat) (pre l : List UInt8) (w : World) (e : Ending) (w' : World) : Prop := e = .returned (.tuple #[]) ∧ Wr 94 b (pre ++ l) w' ∧ Kp b w w'
/-- Texts, one behind the other. -/
def catL : List ByteArray → List UInt8
  | [] => []
  | s :: r => bl s ++ catL r
theorem catL_snoc (l : List ByteArray) (s : ByteArray) : catL (l ++ [s]) = catL l ++ bl s := by
  induction l with
  | nil => simp [catL]
  | cons a r ih => simp [catL, ih]
theorem catL_take (l : List ByteArray) (k : Nat) (h : k < l.length) : catL (l.take (k + 1)) = catL (l.take k) ++ bl l[k] := by
  rw [List.take_succ_eq_append_getElem h, catL_snoc]
theorem catL_le (l : List ByteArray) (k : Nat) : (catL (l.take k)).length ≤ (catL l).length := by
  have h : catL l = catL (l.take k) ++ catL (l.drop k) := by
    conv => lhs; rw [← List.take_append_drop k l]
    generalize l.take k = a
    generalize l.drop k = d
    induction a with
    | nil => simp [catL]
    | cons x r ih => simp [catL, ih]
  rw [h, List.length_append]; omega
set_option maxHeartbeats 1000000 in
/-- put, its texts in a block of their own. -/
theorem pPut (b c : Nat) (pre : List UInt8) (l : List ByteArray) (cap : Nat) (w : World) (hw : Wr 94 b pre w) (hl : pre.length + (catL l).length ≤ 140737488355328) (hn : l.length ≤ 8)
    (hc : w.heap[c]? = some (.cells (l.map Value.string).toArray 9 (0, 0))) (hcb : c ≠ b) :
    Calls Tryd.prog 47 #[.pointer (some ⟨b, 0, none⟩), .slice (some ⟨c, 0, none⟩) l.length cap] w (Wrote b pre (catL l) w) := by
  have HW := Lib.hid hw
  have HC := Lib.hid hc; clear hc
  have hlt := hw.lt; clear hw
  go_enter Tryd.func47, Tryd.ntmps47
  go_wp2_with fail
  go_loopw [8] (fun i wr => ∃ k : Nat, k ≤ l.length ∧ i = .int .i64 k ∧ Wr 94 b (pre ++ catL (l.take k)) wr ∧ Kp b w wr) (fun i _ => l.length - (intOf i).toNat)
  case atStart => exact ⟨0, by omega, rfl, by simpa [catL] using HW.out, Kp.refl _ _⟩
  case round =>
    obtain ⟨k, hk, rfl, hwr, hkp⟩ := hrel
    have hle := catL_le l (k + 1)
    have Hr := Lib.hid hwr; clear hwr
    have Hk := Lib.hid hkp; clear hkp
    by_cases hlk : k < l.length
    · have hct := Lib.hid (catL_take l k hlk)
      have hcell : wr.cell? ⟨c, k, none⟩ = some (.string l[k]) := by
        have h1 := Hk.out.cell HC.out hcb (by decide)
        rw [Lib.cell_of_heap h1]
        simp [hlk]
      have hlen2 : (pre ++ catL (l.take k)).length + l[k].size ≤ 140737488355328 := by
        rw [hct.out] at hle
        simp [size_bl] at hle ⊢
        omega
      obtain ⟨s, hs⟩ : ∃ s, s = l[k] := ⟨_, rfl⟩
      rw [← hs] at hcell hlen2 hct
      clear hs
      go_wp2_with fail
      refine (bString wtW b _ s _ Hr.out hlen2).mono ?_
      rintro e w1 ⟨rfl, hw1, hk1⟩
      have H1 := Lib.hid hw1; clear hw1
      have HK1 := Lib.hid hk1; clear hk1
      go_wp2_with fail
      go_roundw
      case rel => exact ⟨k + 1, by omega, by go_num, wr_eq (by rw [hct.out, List.append_assoc]) H1.out, Hk.out.trans HK1.out⟩
      case measure => simp [intOf]; omega
    · obtain rfl : k = l.length := by omega
      go_wp2_with fail
      go_end0
      exact ⟨rfl, wr_eq (by rw [List.take_of_length_le (Nat.le_refl _)]) Hr.out, Hk.out⟩
end Go.Proofs.YtlghiakckkhekaaDoor
