/- Copies of lists of arguments: the contracts of TwinArgs, SameArgs, LeftArgs. Conditions: the arguments lie in memory as they are told, the list is not too long. -/
import Derived.Test.YtdgbenadoaecoaaGreatDoorS17
namespace Go.Proofs.YtdgbenadoaecoaaGreatDoor
open Go.RowKit

/-- A copy of a list of arguments in block a, with a mark behind it. -/
structure TwAg (w : World) (a : Nat) (ts : List Ag) : Prop where
  lt : a < w.heap.size
  cells : ∀ i, (h : i < ts.length) → AgC w a (i * 5) ts[i]
  mark : AgC w a (ts.length * 5) markAg
theorem TwAg.low {w w' : World} {a : Nat} {ts : List Ag} (h : TwAg w a ts) (hb : Below w.heap.size w w') : TwAg w' a ts :=
  ⟨Nat.lt_of_lt_of_le h.lt hb.size, fun i hi => (h.cells i hi).of_block (hb.block a h.lt), h.mark.of_block (hb.block a h.lt)⟩
theorem TwAg.of_block {w w' : World} {a : Nat} {ts : List Ag} (h : TwAg w a ts) (hl : a < w'.heap.size) (hb : w'.heap[a]? = w.heap[a]?) : TwAg w' a ts :=
  ⟨hl, fun i hi => (h.cells i hi).of_block hb, h.mark.of_block hb⟩
theorem TwAg.sl {w : World} {a : Nat} {ts : List Ag} (h : TwAg w a ts) : AgsAt w (some ⟨a, 0, none⟩) ts :=
  .inr ⟨a, 0, rfl, h.lt, fun i hi => by
    rw [Nat.zero_add]
    obtain ⟨c0, c1, c2, c3, c4⟩ := h.cells i hi
    exact ⟨c0, c1, c2, c3, c4⟩⟩
/-- At the head of the copying rounds. -/
def TaRel (ts : List Ag) (w : World) (i : Value) (wr : World) : Prop :=
  ∃ (j : Nat) (cs : Array Value), i = .int .i64 j ∧ j ≤ ts.length ∧ wr.heap[w.heap.size]? = some (.cells cs 83 (0, 0)) ∧ cs.size = (ts.length + 1) * 5 ∧ (∀ m, (h : m < ts.length) → m < j → AgC wr w.heap.size (m * 5) ts[m]) ∧ Below w.heap.size w wr
/-- What a call leaves that copies a list of arguments. -/
def TgPost (ts : List Ag) (w : World) (r : Ending) (w' : World) : Prop :=
  ∃ a, r = .returned (.slice (some ⟨a, 0, none⟩) ts.length (ts.length + 1)) ∧ w.heap.size ≤ a ∧ TwAg w' a ts ∧ Below w.heap.size w w'
set_option maxHeartbeats 4000000 in
theorem twinArgs (ts : List Ag) (q : Option Addr) (cap : Nat) (w : World) (hts : AgsAt w q ts) (hn : ts.length ≤ 2932031007317) (hT : Tabs w) :
    Calls Tryz.prog 17 #[.slice q ts.length cap] w (TgPost ts w) := by
  have HS := Lib.hid hts; clear hts
  have HT := Lib.hid hT; clear hT
  have hmk := fun w => make_ag ts.length hn w
  obtain ⟨Z, hZ⟩ : ∃ Z, Z = madeCells #[.int .i8 0, .string ⟨#[]⟩, .int .i8 0, .int .i64 0, .string ⟨#[]⟩] ((ts.length + 1) * 5) := ⟨_, rfl⟩
  have HZS := Lib.hid (show Z.size = (ts.length + 1) * 5 by rw [hZ]; exact size_madeCells _ _)
  simp only [← hZ] at hmk
  clear hZ
  go_enter Tryz.func17, Tryz.ntmps17
  go_wp2_with fail
  clear hmk
  go_loopw [4] (fun i wr => TaRel ts w i wr) (fun i _ => ts.length - (intOf i).toNat)
  case atStart => exact ⟨0, Z, rfl, by omega, heap_alloc_new w _, HZS.out, fun m _ h => by omega, below_alloc _ _⟩
  case round =>
    obtain ⟨j, cs, rfl, hj, hbk, hcs, hcell, hbe⟩ := hrel
    have HCELL := Lib.hid hcell; clear hcell
    have HBE := Lib.hid hbe; clear hbe
    have hszr : w.heap.size < wr.heap.size := (Array.getElem?_eq_some_iff.1 hbk).1
    by_cases hlt : j < ts.length
    · rcases HS.out with h0 | ⟨a, o, hp, hal, hat⟩
      · omega
      subst hp
      have hck := (AgsAt.at_ hat j hlt).up HBE.out hal
      clear hat
      obtain ⟨tk, htk⟩ : ∃ tk, tk = ts[j] := ⟨_, rfl⟩
      rw [← htk] at hck
      have HTK := Lib.hid htk; clear htk
      obtain ⟨c0, c1, c2, c3, c4⟩ := hck
      have q0 : wr.cell? ⟨w.heap.size, j * 5, none⟩ = some (cs[j * 5]'(by omega)) := by rw [Lib.cell_of_heap hbk]; simp [show j * 5 < cs.size by omega]
      have q1 : wr.cell? ⟨w.heap.size, j * 5 + 1, none⟩ = some (cs[j * 5 + 1]'(by omega)) := by rw [Lib.cell_of_heap hbk]; simp [show j * 5 + 1 < cs.size by omega]
      have q2 : wr.cell? ⟨w.heap.size, j * 5 + 2, none⟩ = some (cs[j * 5 + 2]'(by omega)) := by rw [Lib.cell_of_heap hbk]; simp [show j * 5 + 2 < cs.size by omega]
      have q3 : wr.cell? ⟨w.heap.size, j * 5 + 3, none⟩ = some (cs[j * 5 + 3]'(by omega)) := by rw [Lib.cell_of_heap hbk]; simp [show j * 5 + 3 < cs.size by omega]
      have q4 : wr.cell? ⟨w.heap.size, j * 5 + 4, none⟩ = some (cs[j * 5 + 4]'(by omega)) := by rw [Lib.cell_of_heap hbk]; simp [show j * 5 + 4 < cs.size by omega]
      have f0 : wr.frozen? ⟨w.heap.size, j * 5, none⟩ = false := Lib.frozen_of_heap hbk _
      have f1 : wr.frozen? ⟨w.heap.size, j * 5 + 1, none⟩ = false := Lib.frozen_of_heap hbk _
      have f2 : wr.frozen? ⟨w.heap.size, j * 5 + 2, none⟩ = false := Lib.frozen_of_heap hbk _
      have f3 : wr.frozen? ⟨w.heap.size, j * 5 + 3, none⟩ = false := Lib.frozen_of_heap hbk _
      have f4 : wr.frozen? ⟨w.heap.size, j * 5 + 4, none⟩ = false := Lib.frozen_of_heap hbk _
      have HBK := Lib.hid hbk; clear hbk
      go_wp2_with fail
      go_roundw
      case rel =>
        show TaRel ts w _ (put5 wr w.heap.size (j * 5) (.int .i8 tk.g) (.string tk.t.v) (.int .i8 tk.t.x.k) (.int .i64 tk.t.x.n) (.string tk.t.x.t))
        refine ⟨j + 1, _, by go_num, by omega, put5_heap HBK.out _ _ _ _ _ _, by rw [set5_size]; exact hcs, fun m hm hmj => ?_, put5_below HBE.out (Nat.le_refl _) _ _ _ _ _ _⟩
        by_cases e : m = j
        · subst e
          rw [← HTK.out]
          exact put5_new HBK.out (by omega) tk
        · exact put5_keeps HBK.out (HCELL.out m hm (by omega)) (by omega) _ _ _ _ _
      case measure => simp [intOf]; omega
    · obtain rfl : j = ts.length := by omega
      have HBK := Lib.hid hbk; clear hbk
      go_wp2_with fail
      refine (mArg _ (HT.out.at HBE.out)).mono ?_
      rintro r w1 ⟨rfl, hb1⟩
      have hbk1 := (hb1.block w.heap.size hszr).trans HBK.out
      have HB1 := Lib.hid hb1; clear hb1
      have q0 : w1.cell? ⟨w.heap.size, ts.length * 5, none⟩ = some (cs[ts.length * 5]'(by omega)) := by rw [Lib.cell_of_heap hbk1]; simp [show ts.length * 5 < cs.size by omega]
      have q1 : w1.cell? ⟨w.heap.size, ts.length * 5 + 1, none⟩ = some (cs[ts.length * 5 + 1]'(by omega)) := by rw [Lib.cell_of_heap hbk1]; simp [show ts.length * 5 + 1 < cs.size by omega]
      have q2 : w1.cell? ⟨w.heap.size, ts.length * 5 + 2, none⟩ = some (cs[ts.length * 5 + 2]'(by omega)) := by rw [Lib.cell_of_heap hbk1]; simp [show ts.length * 5 + 2 < cs.size by omega]
      have q3 : w1.cell? ⟨w.heap.size, ts.length * 5 + 3, none⟩ = some (cs[ts.length * 5 + 3]'(by omega)) := by rw [Lib.cell_of_heap hbk1]; simp [show ts.length * 5 + 3 < cs.size by omega]
      have q4 : w1.cell? ⟨w.heap.size, ts.length * 5 + 4, none⟩ = some (cs[ts.length * 5 + 4]'(by omega)) := by rw [Lib.cell_of_heap hbk1]; simp [show ts.length * 5 + 4 < cs.size by omega]
      have f0 : w1.frozen? ⟨w.heap.size, ts.length * 5, none⟩ = false := Lib.frozen_of_heap hbk1 _
      have f1 : w1.frozen? ⟨w.heap.size, ts.length * 5 + 1, none⟩ = false := Lib.frozen_of_heap hbk1 _
      have f2 : w1.frozen? ⟨w.heap.size, ts.length * 5 + 2, none⟩ = false := Lib.frozen_of_heap hbk1 _
      have f3 : w1.frozen? ⟨w.heap.size, ts.length * 5 + 3, none⟩ = false := Lib.frozen_of_heap hbk1 _
      have f4 : w1.frozen? ⟨w.heap.size, ts.length * 5 + 4, none⟩ = false := Lib.frozen_of_heap hbk1 _
      have HBK1 := Lib.hid hbk1; clear hbk1
      go_wp2_with fail
      go_ret
      refine ⟨w.heap.size, rfl, Nat.le_refl _, ⟨?_, fun m h => ?_, put5_new HBK1.out (by omega) markAg⟩, put5_below (HBE.out.trans (HB1.out.mono (by omega))) (Nat.le_refl _) _ _ _ _ _ _⟩
      · show w.heap.size < (put5 w1 w.heap.size (ts.length * 5) _ _ _ _ _).heap.size
        rw [put5_size]
        have := HB1.out.size
        omega
      · exact put5_keeps HBK1.out ((HCELL.out m h h).of_block (HB1.out.block _ hszr)) (by omega) _ _ _ _ _
set_option maxHeartbeats 4000000 in
theorem sameArgs (ts : List Ag) (a : Nat) (q : Option Addr) (cap : Nat) (w : World) (hts : AgsAt w q ts) (hn : ts.length ≤ 2932031007317) (ht : TwAg w a ts) :
    Calls Tryz.prog 50 #[.slice (some ⟨a, 0, none⟩) ts.length (ts.length + 1), .slice q ts.length cap] w fun r w' => r = .returned (.bool true) ∧ Below w.heap.size w w' := by
  have HS := Lib.hid hts; clear hts
  have HT := Lib.hid ht; clear ht
  have har0 := HT.out.lt
  go_enter Tryz.func50, Tryz.ntmps50
  go_wp2_with fail
  go_loopw [5] (fun i wr => ∃ j : Nat, j ≤ ts.length ∧ i = .int .i64 j ∧ Below w.heap.size w wr) (fun i _ => ts.length - (intOf i).toNat)
  case atStart => exact ⟨0, by omega, rfl, Below.refl _ _⟩
  case round =>
    obtain ⟨j, hj, rfl, hbe⟩ := hrel
    have HBE := Lib.hid hbe; clear hbe
    by_cases hlt : j < ts.length
    · rcases HS.out with h0 | ⟨b, o, hp, hbl, hat⟩
      · omega
      subst hp
      have hck := (AgsAt.at_ hat j hlt).up HBE.out hbl
      have hct := (HT.out.cells j hlt).up HBE.out HT.out.lt
      clear hat
      obtain ⟨tk, htk⟩ : ∃ tk, tk = ts[j] := ⟨_, rfl⟩
      rw [← htk] at hck hct
      clear htk
      obtain ⟨g, ⟨v, ⟨k, n, t⟩⟩⟩ := tk
      obtain ⟨c0, c1, c2, c3, c4⟩ := hck
      obtain ⟨d0, d1, d2, d3, d4⟩ := hct
      go_wp2_with fail
      go_quiet (fail)
      go_wp2_with fail
      go_roundw
      case rel => exact ⟨j + 1, by omega, by go_num, below_drewN HBE.out _⟩
      case measure => simp [intOf]; omega
    · go_wp2_with fail
      go_ret
      exact ⟨rfl, HBE.out⟩
set_option maxHeartbeats 2000000 in
theorem leftArgs (ts : List Ag) (a : Nat) (q : Option Addr) (cap : Nat) (w : World) (hts : AgsAt w q ts) (hn : ts.length ≤ 2932031007317) (ht : TwAg w a ts) (hT : Tabs w) :
    Calls Tryz.prog 24 #[.slice (some ⟨a, 0, none⟩) ts.length (ts.length + 1), .slice q ts.length cap] w fun r w' => r = .returned (.bool true) ∧ Below w.heap.size w w' := by
  have HTS := Lib.hid hts
  have HTW := Lib.hid ht; clear ht
  have HT := Lib.hid hT; clear hT
  clear hts
  go_enter Tryz.func24, Tryz.ntmps24
  go_wp2_with fail
  refine (sameArgs ts a _ _ _ HTS.out hn HTW.out).mono ?_
  rintro r w1 ⟨rfl, hb⟩
  have Hb := Lib.hid hb; clear hb
  obtain ⟨m0, m1, m2, m3, m4⟩ := (HTW.out.low Hb.out).mark
  simp only [markAg, markTm] at m0 m1 m2 m3 m4
  obtain ⟨mk, hmk⟩ : ∃ mk, mk = markB := ⟨_, rfl⟩
  rw [← hmk] at m1
  have HMK := Lib.hid hmk; clear hmk
  go_wp2_with fail
  rw [HMK.out]
  refine (isMarkA _ (HT.out.at Hb.out)).mono ?_
  rintro r w2 ⟨rfl, hb⟩
  have Hb2 := Lib.hid hb; clear hb
  clear m0 m1 m2 m3 m4
  go_wp2_with fail
  go_ret
  exact ⟨rfl, Hb.out.trans (Hb2.out.mono Hb.out.size)⟩
end Go.Proofs.YtdgbenadoaecoaaGreatDoor
