/- The contract of alike. Conditions: the tokens lie as they are told. -/
import Derived.Test.YtcigdlpljjkplaaDoorJ2
import Derived.BigQuiet
namespace Go.Proofs.YtcigdlpljjkplaaDoor
open Go.RowKit

set_option maxHeartbeats 8000000 in
set_option maxRecDepth 100000 in
theorem kAlike (l m : List Tk) (p q : Option Addr) (c d : Nat) (w : World) (hp : TksAt w p l) (hq : TksAt w q m) (hn : l.length ≤ maxLen) (hlm : m.length = l.length) (hk : ∀ i, (h : i < l.length) → (h' : i < m.length) → l[i].k = m[i].k ∧ l[i].t = m[i].t ∧ l[i].n = m[i].n) :
    Calls Tryd.prog 28 #[.slice p l.length c, .slice q l.length d] w fun e w' => e = .returned (.bool true) ∧ Below w.heap.size w w' := by
  unfold maxLen at hn
  have HP := Lib.hid hp; clear hp
  have HQ := Lib.hid hq; clear hq
  have HK := Lib.hid hk; clear hk
  have HLM := Lib.hid hlm; clear hlm
  go_enter Tryd.func28, Tryd.ntmps28
  go_wp2_with fail
  go_loopw [5] (fun i wr => ∃ k : Nat, k ≤ l.length ∧ i = .int .i64 k ∧ Below w.heap.size w wr) (fun i _ => l.length - (intOf i).toNat)
  case atStart => exact ⟨0, by omega, rfl, Below.refl _ _⟩
  case round =>
    obtain ⟨k, hk, rfl, hb⟩ := hrel
    have Hb := Lib.hid hb; clear hb
    have hsz := Hb.out.size
    by_cases hlt : k < l.length
    · have hltm : k < m.length := by rw [HLM.out]; exact hlt
      obtain ⟨a, o, ha, c0, c1, c2, c3, rfl⟩ := HP.out.get Hb.out hlt
      obtain ⟨a2, o2, ha2, d0, d1, d2, d3, rfl⟩ := HQ.out.get Hb.out hltm
      obtain ⟨e1, e2, e3⟩ := HK.out k hlt hltm
      rw [e1] at c0
      rw [e2] at c1
      rw [e3] at c2
      obtain ⟨x, hx⟩ : ∃ x, x = m[k] := ⟨_, rfl⟩
      obtain ⟨y, hy⟩ : ∃ y : Int, y = l[k].p := ⟨_, rfl⟩
      rw [← hx] at c0 c1 c2 d0 d1 d2 d3
      rw [← hy] at c3
      clear hx hy e1 e2 e3 hltm
      obtain ⟨xk, xt, xn, xp⟩ := x
      simp only at c0 c1 c2 c3 d0 d1 d2 d3
      have ha3 : a2 < wr.heap.size := by omega
      have D3 := ((below_alloc wr (.cells #[.int .i8 xk, .string xt, .int .i64 xn, .int .i64 y] 36)).cell (p := ⟨a2, o2 + k * 4 + 3, none⟩) ha3).trans d3
      have E0 := ((below_alloc wr (.cells #[.int .i8 xk, .string xt, .int .i64 xn, .int .i64 xp] 36)).cell (p := ⟨a2, o2 + k * 4, none⟩) ha3).trans d0
      have E1 := ((below_alloc wr (.cells #[.int .i8 xk, .string xt, .int .i64 xn, .int .i64 xp] 36)).cell (p := ⟨a2, o2 + k * 4 + 1, none⟩) ha3).trans d1
      have E2 := ((below_alloc wr (.cells #[.int .i8 xk, .string xt, .int .i64 xn, .int .i64 xp] 36)).cell (p := ⟨a2, o2 + k * 4 + 2, none⟩) ha3).trans d2
      have E3 := ((below_alloc wr (.cells #[.int .i8 xk, .string xt, .int .i64 xn, .int .i64 xp] 36)).cell (p := ⟨a2, o2 + k * 4 + 3, none⟩) ha3).trans d3
      have hk0 : (0 : Int) ≤ (k : Int) := by omega
      have hki : (k : Int) < (l.length : Int) := by omega
      go_wp2_with fail
      go_quiet (fail)
      go_wp2_with fail
      go_roundw
      case rel => exact ⟨k + 1, by omega, by go_num, (Hb.out.alloc hsz _).trans ((tk_drewN _ _).mono (by simp; omega))⟩
      case measure => simp [intOf]; omega
    · obtain rfl : k = l.length := by omega
      go_wp2_with fail
      go_ret
      exact ⟨rfl, Hb.out⟩
end Go.Proofs.YtcigdlpljjkplaaDoor
