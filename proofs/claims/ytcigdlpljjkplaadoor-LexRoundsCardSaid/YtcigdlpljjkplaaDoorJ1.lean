/- Tokens in memory; the contracts of same and beyond. Conditions: the tokens lie as they are told. -/
import Derived.Test.YtcigdlpljjkplaaDoorLs
import Derived.BigQuiet
namespace Go.Proofs.YtcigdlpljjkplaaDoor
open Go.RowKit

/-- What is told of a token's cells. -/
structure TkR (x : Tk) : Prop where
  t_ : x.t.size ≤ maxLen
  k0 : -128 ≤ x.k
  k1 : x.k ≤ 127
  n0 : -9223372036854775808 ≤ x.n
  n1 : x.n ≤ 9223372036854775807
  p0 : -9223372036854775808 ≤ x.p
  p1 : x.p ≤ 9223372036854775807
def Tk.cells (x : Tk) : List Value := [.int .i8 x.k, .string x.t, .int .i64 x.n, .int .i64 x.p]
/-- A token's four cells. -/
structure TkCell (w : World) (a o : Nat) (x : Tk) : Prop where
  c0 : w.cell? ⟨a, o, none⟩ = some (.int .i8 x.k)
  c1 : w.cell? ⟨a, o + 1, none⟩ = some (.string x.t)
  c2 : w.cell? ⟨a, o + 2, none⟩ = some (.int .i64 x.n)
  c3 : w.cell? ⟨a, o + 3, none⟩ = some (.int .i64 x.p)
/-- Tokens in a row of memory. -/
def TksAt (w : World) (p : Option Addr) (l : List Tk) : Prop :=
  l.length = 0 ∨ ∃ a o, p = some ⟨a, o, none⟩ ∧ a < w.heap.size ∧ ∀ i, (h : i < l.length) → TkCell w a (o + i * 4) l[i]
theorem TkCell.up {w w' : World} {B a o : Nat} {x : Tk} (h : TkCell w a o x) (hb : Below B w w') (ha : a < B) : TkCell w' a o x :=
  ⟨(hb.cell (p := ⟨a, o, none⟩) ha).trans h.c0, (hb.cell (p := ⟨a, o + 1, none⟩) ha).trans h.c1, (hb.cell (p := ⟨a, o + 2, none⟩) ha).trans h.c2, (hb.cell (p := ⟨a, o + 3, none⟩) ha).trans h.c3⟩
theorem TksAt.up {w w' : World} {p : Option Addr} {l : List Tk} (h : TksAt w p l) (hb : Below w.heap.size w w') : TksAt w' p l := by
  rcases h with h0 | ⟨a, o, hp, ha, hc⟩
  · exact .inl h0
  · exact .inr ⟨a, o, hp, Nat.lt_of_lt_of_le ha hb.size, fun i hi => (hc i hi).up hb ha⟩
theorem tk_drewN (w : World) (n : Nat) : Below w.heap.size w (w.drewN n) := ⟨rfl, rfl, rfl, Nat.le_refl _, fun _ _ => rfl⟩
set_option maxHeartbeats 4000000 in
set_option maxRecDepth 100000 in
theorem kSame (l : List Tk) (p q : Option Addr) (c d : Nat) (w : World) (hp : TksAt w p l) (hq : TksAt w q l) (hn : l.length ≤ maxLen) :
    Calls Tryd.prog 12 #[.slice p l.length c, .slice q l.length d] w fun e w' => e = .returned (.bool true) ∧ Below w.heap.size w w' := by
  unfold maxLen at hn
  have HP := Lib.hid hp; clear hp
  have HQ := Lib.hid hq; clear hq
  go_enter Tryd.func12, Tryd.ntmps12
  go_wp2_with fail
  go_loopw [5] (fun i wr => ∃ k : Nat, k ≤ l.length ∧ i = .int .i64 k ∧ Below w.heap.size w wr) (fun i _ => l.length - (intOf i).toNat)
  case atStart => exact ⟨0, by omega, rfl, Below.refl _ _⟩
  case round =>
    obtain ⟨k, hk, rfl, hb⟩ := hrel
    have Hb := Lib.hid hb; clear hb
    by_cases hlt : k < l.length
    · obtain ⟨a, o, ha, c0, c1, c2, c3, hpe⟩ : ∃ a o, a < w.heap.size ∧ wr.cell? ⟨a, o + k * 4, none⟩ = some (.int .i8 l[k].k) ∧ wr.cell? ⟨a, o + k * 4 + 1, none⟩ = some (.string l[k].t) ∧ wr.cell? ⟨a, o + k * 4 + 2, none⟩ = some (.int .i64 l[k].n) ∧ wr.cell? ⟨a, o + k * 4 + 3, none⟩ = some (.int .i64 l[k].p) ∧ p = some ⟨a, o, none⟩ := by
        rcases HP.out.up Hb.out with h0 | ⟨a, o, hp, ha, hc⟩
        · omega
        · rcases HP.out with h0 | ⟨a', o', hp', ha', _⟩
          · omega
          · rw [hp] at hp'
            obtain ⟨rfl, rfl⟩ : a = a' ∧ o = o' := by simpa using hp'
            exact ⟨a, o, ha', (hc k hlt).c0, (hc k hlt).c1, (hc k hlt).c2, (hc k hlt).c3, hp⟩
      subst hpe
      obtain ⟨a2, o2, ha2, d0, d1, d2, d3, hqe⟩ : ∃ a o, a < w.heap.size ∧ wr.cell? ⟨a, o + k * 4, none⟩ = some (.int .i8 l[k].k) ∧ wr.cell? ⟨a, o + k * 4 + 1, none⟩ = some (.string l[k].t) ∧ wr.cell? ⟨a, o + k * 4 + 2, none⟩ = some (.int .i64 l[k].n) ∧ wr.cell? ⟨a, o + k * 4 + 3, none⟩ = some (.int .i64 l[k].p) ∧ q = some ⟨a, o, none⟩ := by
        rcases HQ.out.up Hb.out with h0 | ⟨a, o, hp, ha, hc⟩
        · omega
        · rcases HQ.out with h0 | ⟨a', o', hp', ha', _⟩
          · omega
          · rw [hp] at hp'
            obtain ⟨rfl, rfl⟩ : a = a' ∧ o = o' := by simpa using hp'
            exact ⟨a, o, ha', (hc k hlt).c0, (hc k hlt).c1, (hc k hlt).c2, (hc k hlt).c3, hp⟩
      subst hqe
      have hk0 : (0 : Int) ≤ (k : Int) := by omega
      have hki : (k : Int) < (l.length : Int) := by omega
      go_wp2_with fail
      go_quiet (fail)
      go_wp2_with fail
      go_roundw
      case rel => exact ⟨k + 1, by omega, by go_num, Hb.out.trans ((tk_drewN _ _).mono Hb.out.size)⟩
      case measure => simp [intOf]; omega
    · obtain rfl : k = l.length := by omega
      go_wp2_with fail
      go_ret
      exact ⟨rfl, Hb.out⟩
/-- One token of a row, by its cells. -/
theorem TksAt.get {w wr : World} {p : Option Addr} {l : List Tk} (h : TksAt w p l) (hb : Below w.heap.size w wr) {k : Nat} (hlt : k < l.length) :
    ∃ a o, a < w.heap.size ∧ wr.cell? ⟨a, o + k * 4, none⟩ = some (.int .i8 l[k].k) ∧ wr.cell? ⟨a, o + k * 4 + 1, none⟩ = some (.string l[k].t) ∧ wr.cell? ⟨a, o + k * 4 + 2, none⟩ = some (.int .i64 l[k].n) ∧ wr.cell? ⟨a, o + k * 4 + 3, none⟩ = some (.int .i64 l[k].p) ∧ p = some ⟨a, o, none⟩ := by
  rcases h with h0 | ⟨a, o, hp, ha, hc⟩
  · omega
  · have h2 := (hc k hlt).up hb ha
    exact ⟨a, o, ha, h2.c0, h2.c1, h2.c2, h2.c3, hp⟩
set_option maxHeartbeats 4000000 in
set_option maxRecDepth 100000 in
theorem kBeyond (l : List Tk) (p : Option Addr) (c : Nat) (w : World) (hp : TksAt w p l) (hn : l.length ≤ maxLen) (hr : ∀ x ∈ l, x.t.size ≤ maxLen) :
    Calls Tryd.prog 17 #[.slice p l.length c] w fun e w' => (e = .returned (.bool true) ∨ (e = .returned (.bool false) ∧ l.length ≤ 2147483647)) ∧ Below w.heap.size w w' := by
  unfold maxLen at hn
  have HP := Lib.hid hp; clear hp
  have HR := Lib.hid (fun k (h : k < l.length) => hr l[k] (List.getElem_mem h)); clear hr
  go_enter Tryd.func17, Tryd.ntmps17
  go_wp2_with fail
  go_loopw [3, 4] (fun v i wr => ∃ k m : Nat, k ≤ l.length ∧ k ≤ m ∧ m ≤ 2147483647 ∧ v = .int .i64 m ∧ i = .int .i64 k ∧ Below w.heap.size w wr) (fun _ i _ => l.length - (intOf i).toNat)
  case atStart => exact ⟨0, 0, by omega, by omega, by omega, rfl, rfl, Below.refl _ _⟩
  case round =>
    obtain ⟨k, m, hk, hkm, hm, rfl, rfl, hb⟩ := hrel
    have Hb := Lib.hid hb; clear hb
    by_cases hlt : k < l.length
    · obtain ⟨a, o, ha, c0, c1, c2, c3, rfl⟩ := HP.out.get Hb.out hlt
      have hts := HR.out k hlt
      unfold maxLen at hts
      have hk0 : (0 : Int) ≤ (k : Int) := by omega
      have hki : (k : Int) < (l.length : Int) := by omega
      by_cases hbig : 2147483647 - (m : Int) ≤ (l[k].t.size : Int)
      · have q : decide (2147483647 - (m : Int) ≤ (l[k].t.size : Int)) = true := decide_eq_true hbig
        go_wp2_with fail
        go_ret
        exact ⟨.inl rfl, Hb.out⟩
      · have q : decide (2147483647 - (m : Int) ≤ (l[k].t.size : Int)) = false := decide_eq_false hbig
        go_wp2_with fail
        go_roundw
        case rel => exact ⟨k + 1, m + 1 + l[k].t.size, by omega, by omega, by omega, by go_num, by go_num, Hb.out⟩
        case measure => simp [intOf]; omega
    · obtain rfl : k = l.length := by omega
      go_wp2_with fail
      go_ret
      exact ⟨.inr ⟨rfl, by omega⟩, Hb.out⟩
end Go.Proofs.YtcigdlpljjkplaaDoor
