/- Copies of lists of terms and of atoms: the contracts of TwinTerms, SameTerms, LeftTerms, TwinAtom, LeftAtom. Conditions: the terms lie in memory as they are told, the list is not too long. -/
import Derived.Test.YtdgbenadoaecoaaGreatDoorB1
namespace Go.Proofs.YtdgbenadoaecoaaGreatDoor
open Go.RowKit

/-- A copy of a list of terms in block a, with a mark behind it. -/
structure TwTm (w : World) (a : Nat) (ts : List Tm) : Prop where
  lt : a < w.heap.size
  cells : ∀ i, (h : i < ts.length) → TmCell w a (i * 4) ts[i]
  mark : TmCell w a (ts.length * 4) markTm
theorem TwTm.low {w w' : World} {a : Nat} {ts : List Tm} (h : TwTm w a ts) (hb : Below w.heap.size w w') : TwTm w' a ts :=
  ⟨Nat.lt_of_lt_of_le h.lt hb.size, fun i hi => (h.cells i hi).of_block (hb.block a h.lt), h.mark.of_block (hb.block a h.lt)⟩
theorem TwTm.of_block {w w' : World} {a : Nat} {ts : List Tm} (h : TwTm w a ts) (hl : a < w'.heap.size) (hb : w'.heap[a]? = w.heap[a]?) : TwTm w' a ts :=
  ⟨hl, fun i hi => (h.cells i hi).of_block hb, h.mark.of_block hb⟩
theorem TwTm.sl {w : World} {a : Nat} {ts : List Tm} (h : TwTm w a ts) (hn : ts.length ≤ 2932031007317) : TmSl w (.slice (some ⟨a, 0, none⟩) ts.length (ts.length + 1)) ts :=
  ⟨some ⟨a, 0, none⟩, ts.length + 1, rfl, by unfold maxLen; omega, .inr ⟨a, 0, rfl, h.lt, fun i hi => by rw [Nat.zero_add]; exact h.cells i hi⟩⟩
/-- At the head of the copying rounds. -/
def TtRel (ts : List Tm) (w : World) (i : Value) (wr : World) : Prop :=
  ∃ (j : Nat) (cs : Array Value), i = .int .i64 j ∧ j ≤ ts.length ∧ wr.heap[w.heap.size]? = some (.cells cs 56 (0, 0)) ∧ cs.size = (ts.length + 1) * 4 ∧ (∀ m, (h : m < ts.length) → m < j → TmCell wr w.heap.size (m * 4) ts[m]) ∧ Below w.heap.size w wr
/-- What a call leaves that copies a list of terms. -/
def TtPost (ts : List Tm) (w : World) (r : Ending) (w' : World) : Prop :=
  ∃ a, r = .returned (.slice (some ⟨a, 0, none⟩) ts.length (ts.length + 1)) ∧ w.heap.size ≤ a ∧ TwTm w' a ts ∧ Below w.heap.size w w'
set_option maxHeartbeats 4000000 in
theorem twinTerms (ts : List Tm) (sv : Value) (w : World) (hts : TmSl w sv ts) (hn : ts.length ≤ 2932031007317) (hT : Tabs w) :
    Calls Tryz.prog 92 #[sv] w (TtPost ts w) := by
  obtain ⟨q, cap, rfl, hm, hs⟩ := hts
  have HS := Lib.hid hs; clear hs
  have HT := Lib.hid hT; clear hT
  have hmk := fun w => make_tm ts.length hn w
  obtain ⟨Z, hZ⟩ : ∃ Z, Z = madeCells #[.string ⟨#[]⟩, .int .i8 0, .int .i64 0, .string ⟨#[]⟩] ((ts.length + 1) * 4) := ⟨_, rfl⟩
  have HZS := Lib.hid (show Z.size = (ts.length + 1) * 4 by rw [hZ]; exact size_madeCells _ _)
  simp only [← hZ] at hmk
  clear hZ
  go_enter Tryz.func92, Tryz.ntmps92
  go_wp2_with fail
  clear hmk
  go_loopw [4] (fun i wr => TtRel ts w i wr) (fun i _ => ts.length - (intOf i).toNat)
  case atStart => exact ⟨0, Z, rfl, by omega, heap_alloc_new w _, HZS.out, fun m _ h => by omega, below_alloc _ _⟩
  case round =>
    obtain ⟨j, cs, rfl, hj, hbk, hcs, hcell, hbe⟩ := hrel
    have HCELL := Lib.hid hcell; clear hcell
    have HBE := Lib.hid hbe; clear hbe
    have hszr : w.heap.size < wr.heap.size := (Array.getElem?_eq_some_iff.1 hbk).1
    by_cases hlt : j < ts.length
    · rcases HS.out with h0 | ⟨a, o, hp, hat⟩
      · omega
      subst hp
      have hck := (hat.at_ j hlt).up HBE.out hat.lt
      clear hat
      obtain ⟨tk, htk⟩ : ∃ tk, tk = ts[j] := ⟨_, rfl⟩
      rw [← htk] at hck
      have HTK := Lib.hid htk; clear htk
      obtain ⟨c0, c1, c2, c3⟩ := hck
      have q0 : wr.cell? ⟨w.heap.size, j * 4, none⟩ = some (cs[j * 4]'(by omega)) := by rw [Lib.cell_of_heap hbk]; simp [show j * 4 < cs.size by omega]
      have q1 : wr.cell? ⟨w.heap.size, j * 4 + 1, none⟩ = some (cs[j * 4 + 1]'(by omega)) := by rw [Lib.cell_of_heap hbk]; simp [show j * 4 + 1 < cs.size by omega]
      have q2 : wr.cell? ⟨w.heap.size, j * 4 + 2, none⟩ = some (cs[j * 4 + 2]'(by omega)) := by rw [Lib.cell_of_heap hbk]; simp [show j * 4 + 2 < cs.size by omega]
      have q3 : wr.cell? ⟨w.heap.size, j * 4 + 3, none⟩ = some (cs[j * 4 + 3]'(by omega)) := by rw [Lib.cell_of_heap hbk]; simp [show j * 4 + 3 < cs.size by omega]
      have f0 : wr.frozen? ⟨w.heap.size, j * 4, none⟩ = false := Lib.frozen_of_heap hbk _
      have f1 : wr.frozen? ⟨w.heap.size, j * 4 + 1, none⟩ = false := Lib.frozen_of_heap hbk _
      have f2 : wr.frozen? ⟨w.heap.size, j * 4 + 2, none⟩ = false := Lib.frozen_of_heap hbk _
      have f3 : wr.frozen? ⟨w.heap.size, j * 4 + 3, none⟩ = false := Lib.frozen_of_heap hbk _
      have HBK := Lib.hid hbk; clear hbk
      go_wp2_with fail
      go_roundw
      case rel =>
        show TtRel ts w _ (put4 wr w.heap.size (j * 4) (.string tk.v) (.int .i8 tk.x.k) (.int .i64 tk.x.n) (.string tk.x.t))
        refine ⟨j + 1, _, by go_num, by omega, put4_heap HBK.out _ _ _ _ _, by rw [set4_size]; exact hcs, fun m hm hmj => ?_, put4_below HBE.out (Nat.le_refl _) _ _ _ _ _⟩
        by_cases e : m = j
        · subst e
          rw [← HTK.out]
          exact put4_new HBK.out (by omega) tk
        · exact put4_keeps HBK.out (HCELL.out m hm (by omega)) (by omega) _ _ _ _
      case measure => simp [intOf]; omega
    · obtain rfl : j = ts.length := by omega
      have HBK := Lib.hid hbk; clear hbk
      go_wp2_with fail
      refine (mTerm _ (HT.out.at HBE.out)).mono ?_
      rintro r w1 ⟨rfl, hb1⟩
      have hbk1 := (hb1.block w.heap.size hszr).trans HBK.out
      have HB1 := Lib.hid hb1; clear hb1
      have q0 : w1.cell? ⟨w.heap.size, ts.length * 4, none⟩ = some (cs[ts.length * 4]'(by omega)) := by rw [Lib.cell_of_heap hbk1]; simp [show ts.length * 4 < cs.size by omega]
      have q1 : w1.cell? ⟨w.heap.size, ts.length * 4 + 1, none⟩ = some (cs[ts.length * 4 + 1]'(by omega)) := by rw [Lib.cell_of_heap hbk1]; simp [show ts.length * 4 + 1 < cs.size by omega]
      have q2 : w1.cell? ⟨w.heap.size, ts.length * 4 + 2, none⟩ = some (cs[ts.length * 4 + 2]'(by omega)) := by rw [Lib.cell_of_heap hbk1]; simp [show ts.length * 4 + 2 < cs.size by omega]
      have q3 : w1.cell? ⟨w.heap.size, ts.length * 4 + 3, none⟩ = some (cs[ts.length * 4 + 3]'(by omega)) := by rw [Lib.cell_of_heap hbk1]; simp [show ts.length * 4 + 3 < cs.size by omega]
      have f0 : w1.frozen? ⟨w.heap.size, ts.length * 4, none⟩ = false := Lib.frozen_of_heap hbk1 _
      have f1 : w1.frozen? ⟨w.heap.size, ts.length * 4 + 1, none⟩ = false := Lib.frozen_of_heap hbk1 _
      have f2 : w1.frozen? ⟨w.heap.size, ts.length * 4 + 2, none⟩ = false := Lib.frozen_of_heap hbk1 _
      have f3 : w1.frozen? ⟨w.heap.size, ts.length * 4 + 3, none⟩ = false := Lib.frozen_of_heap hbk1 _
      have HBK1 := Lib.hid hbk1; clear hbk1
      go_wp2_with fail
      go_ret
      refine ⟨w.heap.size, rfl, Nat.le_refl _, ⟨?_, fun m h => ?_, put4_new HBK1.out (by omega) markTm⟩, put4_below (HBE.out.trans (HB1.out.mono (by omega))) (Nat.le_refl _) _ _ _ _ _⟩
      · show w.heap.size < (put4 w1 w.heap.size (ts.length * 4) _ _ _ _).heap.size
        rw [put4_size]
        have := HB1.out.size
        omega
      · exact put4_keeps HBK1.out ((HCELL.out m h h).of_block (HB1.out.block _ hszr)) (by omega) _ _ _ _
set_option maxHeartbeats 4000000 in
theorem sameTerms (ts : List Tm) (a : Nat) (sv : Value) (w : World) (hts : TmSl w sv ts) (hn : ts.length ≤ 2932031007317) (ht : TwTm w a ts) :
    Calls Tryz.prog 132 #[.slice (some ⟨a, 0, none⟩) ts.length (ts.length + 1), sv] w fun r w' => r = .returned (.bool true) ∧ Below w.heap.size w w' := by
  obtain ⟨q, cap, rfl, hm, hs⟩ := hts
  have HS := Lib.hid hs; clear hs
  have HT := Lib.hid ht; clear ht
  have har0 := HT.out.lt
  go_enter Tryz.func132, Tryz.ntmps132
  go_wp2_with fail
  go_loopw [5] (fun i wr => ∃ j : Nat, j ≤ ts.length ∧ i = .int .i64 j ∧ Below w.heap.size w wr) (fun i _ => ts.length - (intOf i).toNat)
  case atStart => exact ⟨0, by omega, rfl, Below.refl _ _⟩
  case round =>
    obtain ⟨j, hj, rfl, hbe⟩ := hrel
    have HBE := Lib.hid hbe; clear hbe
    by_cases hlt : j < ts.length
    · rcases HS.out with h0 | ⟨b, o, hp, hat⟩
      · omega
      subst hp
      have hck := (hat.at_ j hlt).up HBE.out hat.lt
      have hct := (HT.out.cells j hlt).up HBE.out HT.out.lt
      clear hat
      obtain ⟨tk, htk⟩ : ∃ tk, tk = ts[j] := ⟨_, rfl⟩
      rw [← htk] at hck hct
      clear htk
      obtain ⟨v, ⟨k, n, t⟩⟩ := tk
      obtain ⟨c0, c1, c2, c3⟩ := hck
      obtain ⟨d0, d1, d2, d3⟩ := hct
      go_wp2_with fail
      go_quiet (fail)
      go_wp2_with fail
      go_roundw
      case rel => exact ⟨j + 1, by omega, by go_num, below_drewN HBE.out _⟩
      case measure => simp [intOf]; omega
    · go_wp2_with fail
      go_ret
      exact ⟨rfl, HBE.out⟩
end Go.Proofs.YtdgbenadoaecoaaGreatDoor
