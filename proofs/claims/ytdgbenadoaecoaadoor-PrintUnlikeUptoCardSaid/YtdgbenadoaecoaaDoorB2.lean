/- Copies of lists of terms and of atoms: the contracts of TwinTerms, SameTerms, LeftTerms, TwinAtom, LeftAtom. Conditions: the terms lie in memory as they are told, the list is not too long. -/
import Derived.Test.YtdgbenadoaecoaaDoorB1
namespace Go.Proofs.YtdgbenadoaecoaaDoor
open Go.RowKit

/-- A copy of a list of terms in block a, with a mark behind it. -/
structure TwTm (w : World) (a : Nat) (ts : List Tm) : Prop where
  lt : a < w.heap.size
  cells : ∀ i, (h : i < ts.length) → TmCell w a (i * 4) ts[i]
  mark : TmCell w a (ts.length * 4) markTm
theorem TwTm.low {w w' : World} {a : Nat} {ts : List Tm} (h : TwTm w a ts) (hb : Below w.heap.size w w') : TwTm w' a ts :=
  ⟨Nat.lt_of_lt_of_le h.lt hb.size, fun i hi => (h.cells i hi).of_block (hb.block a h.lt), h.mark.of_block (hb.block a h.lt)⟩
theorem TwTm.of_block {w w' : World} {a : Nat} {ts : List Tm} (h : TwTm w a ts) (hl : a < w'.heap.size) (hb : w'.heap[a]? = w.heap[a]?) : TwTm w' a ts :=
  ⟨hl, fun i hi => (h.cells i hi).of_block hb, h.mark.of_block hb⟩
theorem TwTm.sl {w : World} {a : Nat} {ts : List Tm} (h : TwTm w a ts) (hn : ts.length ≤ 2932031007317) : TmSl w (.slice (some ⟨a, 0, none⟩) ts.length (ts.length + 1)) ts :=
  ⟨some ⟨a, 0, none⟩, ts.length + 1, rfl, by unfold maxLen; omega, .inr ⟨a, 0, rfl, h.lt, fun i hi => by rw [Nat.zero_add]; exact h.cells i hi⟩⟩
/-- At the head of the copying rounds. -/
def TtRel (ts : List Tm) (w : World) (i : Value) (wr : World) : Prop :=
  ∃ (j : Nat) (cs : Array Value), i = .int .i64 j ∧ j ≤ ts.length ∧ wr.heap[w.heap.size]? = some (.cells cs 52 (0, 0)) ∧ cs.size = (ts.length + 1) * 4 ∧ (∀ m, (h : m < ts.length) → m < j → TmCell wr w.heap.size (m * 4) ts[m]) ∧ Below w.heap.size w wr
/-- What a call leaves that copies a list of terms. -/
def TtPost (ts : List Tm) (w : World) (r : Ending) (w' : World) : Prop :=
  ∃ a, r = .returned (.slice (some ⟨a, 0, none⟩) ts.length (ts.length + 1)) ∧ w.heap.size ≤ a ∧ TwTm w' a ts ∧ Below w.heap.size w w'
set_option maxHeartbeats 4000000 in
theorem sameTerms (ts : List Tm) (a : Nat) (sv : Value) (w : World) (hts : TmSl w sv ts) (hn : ts.length ≤ 2932031007317) (ht : TwTm w a ts) :
    Calls Tryd.prog 33 #[.slice (some ⟨a, 0, none⟩) ts.length (ts.length + 1), sv] w fun r w' => r = .returned (.bool true) ∧ Below w.heap.size w w' := by
  obtain ⟨q, cap, rfl, hm, hs⟩ := hts
  have HS := Lib.hid hs; clear hs
  have HT := Lib.hid ht; clear ht
  have har0 := HT.out.lt
  go_enter Tryd.func33, Tryd.ntmps33
  go_wp2_with fail
  go_loopw [5] (fun i wr => ∃ j : Nat, j ≤ ts.length ∧ i = .int .i64 j ∧ Below w.heap.size w wr) (fun i _ => ts.length - (intOf i).toNat)
  case atStart => exact ⟨0, by omega, rfl, Below.refl _ _⟩
  case round =>
    obtain ⟨j, hj, rfl, hbe⟩ := hrel
    have HBE := Lib.hid hbe; clear hbe
    by_cases hlt : j < ts.length
    · rcases HS.out with h0 | ⟨b, o, hp, hat⟩
      · omega
      subst hp
      have hck := (hat.at_ j hlt).up HBE.out hat.lt
      have hct := (HT.out.cells j hlt).up HBE.out HT.out.lt
      clear hat
      obtain ⟨tk, htk⟩ : ∃ tk, tk = ts[j] := ⟨_, rfl⟩
      rw [← htk] at hck hct
      clear htk
      obtain ⟨v, ⟨k, n, t⟩⟩ := tk
      obtain ⟨c0, c1, c2, c3⟩ := hck
      obtain ⟨d0, d1, d2, d3⟩ := hct
      go_wp2_with fail
      go_quiet (fail)
      go_wp2_with fail
      go_roundw
      case rel => exact ⟨j + 1, by omega, by go_num, below_drewN HBE.out _⟩
      case measure => simp [intOf]; omega
    · go_wp2_with fail
      go_ret
      exact ⟨rfl, HBE.out⟩
end Go.Proofs.YtdgbenadoaecoaaDoor
