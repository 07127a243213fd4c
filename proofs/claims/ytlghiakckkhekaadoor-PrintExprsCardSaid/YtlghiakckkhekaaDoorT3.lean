/- The contracts of TwinExprs and TwinExpr. Conditions: the expression lies in memory as it is told, its lists are not too long. -/
import Derived.Test.YtlghiakckkhekaaDoorT2
namespace Go.Proofs.YtlghiakckkhekaaDoor
open Go.RowKit

/-- What holds at the head of the copying loop's rounds. -/
def TwRel (d : Nat) (ks : List (Ex d)) (w : World) (i : Value) (wr : World) : Prop :=
  ∃ (j : Nat) (ts : List (Ex d)) (cs : Array Value), i = .int .i64 j ∧ j ≤ ks.length ∧ ts.length = j ∧ (∀ m, (h : m < ks.length) → (h' : m < ts.length) → Alike d ks[m] ts[m]) ∧
    wr.heap[w.heap.size]? = some (.cells cs 36 (0, 0)) ∧ cs.size = (ks.length + 1) * 6 ∧ (∀ m, (h : m < ts.length) → ExCell wr w.heap.size (m * 6) (exOp d ts[m]) (exTm d ts[m]) (exSl d ts[m])) ∧
    (∀ t ∈ ts, TwAt wr (w.heap.size + 1) d t) ∧ Below w.heap.size w wr
theorem ExCell.of_cells {w : World} {a o : Nat} {op : Int} {m : Tm} {v : Value} {cs : Array Value} {t : TypeId} {fz : Nat × Nat} (h : w.heap[a]? = some (.cells cs t fz)) (c0 : cs[o]? = some (.int .i8 op)) (c1 : cs[o + 1]? = some (.string m.v)) (c2 : cs[o + 2]? = some (.int .i8 m.x.k))
    (c3 : cs[o + 3]? = some (.int .i64 m.x.n)) (c4 : cs[o + 4]? = some (.string m.x.t)) (c5 : cs[o + 5]? = some v) : ExCell w a o op m v :=
  ⟨by rw [Lib.cell_of_heap h]; exact c0, by rw [Lib.cell_of_heap h]; exact c1, by rw [Lib.cell_of_heap h]; exact c2, by rw [Lib.cell_of_heap h]; exact c3, by rw [Lib.cell_of_heap h]; exact c4, by rw [Lib.cell_of_heap h]; exact c5⟩
theorem put6_keeps {w : World} {a o o' : Nat} {op : Int} {m : Tm} {v : Value} {cs : Array Value} {t : TypeId} {fz : Nat × Nat} (h : w.heap[a]? = some (.cells cs t fz)) (hc : ExCell w a o' op m v) (ho : o' + 5 < o ∨ o + 5 < o') (v0 v1 v2 v3 v4 v5 : Value) :
    ExCell (put6 w a o v0 v1 v2 v3 v4 v5) a o' op m v := by
  obtain ⟨c0, c1, c2, c3, c4, c5⟩ := hc
  rw [Lib.cell_of_heap h] at c0 c1 c2 c3 c4 c5
  refine ExCell.of_cells (put6_heap h o v0 v1 v2 v3 v4 v5) ?_ ?_ ?_ ?_ ?_ ?_
  all_goals rw [set6_far _ _ _ _ _ _ _ _ _ (by omega)]
  all_goals assumption
theorem put6_new {w : World} {a o : Nat} {cs : Array Value} {t : TypeId} {fz : Nat × Nat} (h : w.heap[a]? = some (.cells cs t fz)) (ho : o + 5 < cs.size) (op : Int) (m : Tm) (v : Value) :
    ExCell (put6 w a o (.int .i8 op) (.string m.v) (.int .i8 m.x.k) (.int .i64 m.x.n) (.string m.x.t) v) a o op m v := by
  obtain ⟨h0, h1, h2, h3, h4, h5⟩ := set6_at cs o (.int .i8 op) (.string m.v) (.int .i8 m.x.k) (.int .i64 m.x.n) (.string m.x.t) v ho
  exact ExCell.of_cells (put6_heap h _ _ _ _ _ _ _) h0 h1 h2 h3 h4 h5
theorem tw_next {d : Nat} {ks ts : List (Ex d)} {cs : Array Value} {w wr w1 : World} {j : Nat} {f : Ex d} (hlt : j < ks.length) (hl : ts.length = j) (hal : ∀ m, (h : m < ks.length) → (h' : m < ts.length) → Alike d ks[m] ts[m])
    (hbk : wr.heap[w.heap.size]? = some (.cells cs 36 (0, 0))) (hcs : cs.size = (ks.length + 1) * 6) (hcell : ∀ m, (h : m < ts.length) → ExCell wr w.heap.size (m * 6) (exOp d ts[m]) (exTm d ts[m]) (exSl d ts[m]))
    (htw : ∀ t ∈ ts, TwAt wr (w.heap.size + 1) d t) (hbe : Below w.heap.size w wr) (hal1 : Alike d ks[j] f) (htw1 : TwAt w1 wr.heap.size d f) (hb1 : Below wr.heap.size wr w1) :
    TwRel d ks w (.int .i64 ((j : Int) + 1)) (put6 w1 w.heap.size (j * 6) (.int .i8 (exOp d f)) (.string (exTm d f).v) (.int .i8 (exTm d f).x.k) (.int .i64 (exTm d f).x.n) (.string (exTm d f).x.t) (exSl d f)) := by
  have hszr : w.heap.size < wr.heap.size := (Array.getElem?_eq_some_iff.1 hbk).1
  have hbk1 := (hb1.block w.heap.size hszr).trans hbk
  have hblk : ∀ k, w.heap.size + 1 ≤ k → k < w1.heap.size → (put6 w1 w.heap.size (j * 6) (.int .i8 (exOp d f)) (.string (exTm d f).v) (.int .i8 (exTm d f).x.k) (.int .i64 (exTm d f).x.n) (.string (exTm d f).x.t) (exSl d f)).heap[k]? = w1.heap[k]? :=
    fun k hk _ => put6_block w1 (by omega) _ _ _ _ _ _ _
  refine ⟨j + 1, ts ++ [f], _, rfl, by omega, by simp [hl], ?_, put6_heap hbk1 _ _ _ _ _ _ _, by rw [set6_size]; exact hcs, ?_, ?_, put6_below (hbe.trans (hb1.mono (by omega))) (Nat.le_refl _) _ _ _ _ _ _ _⟩
  · intro m h h'
    by_cases hm : m < j
    · rw [List.getElem_append_left (by omega)]
      exact hal m h (by omega)
    · obtain rfl : m = j := by simp [hl] at h'; omega
      rw [List.getElem_append_right (by omega)]
      simpa [hl] using hal1
  · intro m h
    by_cases hm : m < j
    · rw [List.getElem_append_left (by omega)]
      exact put6_keeps hbk1 ((hcell m (by omega)).of_block (hb1.block _ hszr)) (by omega) _ _ _ _ _ _
    · obtain rfl : m = j := by simp [hl] at h; omega
      have e1 : (ts ++ [f])[m] = f := by
        rw [List.getElem_append_right (by omega)]
        simp [hl]
      rw [e1]
      exact put6_new hbk1 (by omega) _ _ _
  · intro t ht
    rcases List.mem_append.1 ht with ht | ht
    · have h1 : TwAt w1 (w.heap.size + 1) d t := (htw t ht).up (Nat.le_refl _) hb1.size (fun k hk hk' => hb1.block k hk')
      exact h1.up (Nat.le_refl _) (by rw [put6_size]; omega) hblk
    · obtain rfl := List.mem_singleton.1 ht
      exact htw1.up (by omega) (by rw [put6_size]; omega) (fun k hk hk' => hblk k (by omega) hk')
set_option maxHeartbeats 4000000 in
theorem twins (d : Nat) (ih : TwinAll d) (ks : List (Ex d)) (p : Option Addr) (cap : Nat) (w : World) (hs : KSl w d p ks) (hr : ∀ k ∈ ks, ExR d k) (hb : ∀ k ∈ ks, ExB d k) (hn : ks.length ≤ 2199023255552) (hT : Tabs w) :
    Calls Tryd.prog 33 #[.slice p ks.length cap] w (TwinsPost d ks w) := by
  have IH := Lib.hid ih; clear ih
  have HS := Lib.hid hs; clear hs
  have HR := Lib.hid hr; clear hr
  have HB := Lib.hid hb; clear hb
  have HT := Lib.hid hT; clear hT
  have hmk := fun w => make_ex ks.length hn w
  obtain ⟨Z, hZ⟩ : ∃ Z, Z = madeCells #[.int .i8 0, .string ⟨#[]⟩, .int .i8 0, .int .i64 0, .string ⟨#[]⟩, .slice none 0 0] ((ks.length + 1) * 6) := ⟨_, rfl⟩
  have HZS := Lib.hid (show Z.size = (ks.length + 1) * 6 by rw [hZ]; exact size_madeCells _ _)
  simp only [← hZ] at hmk
  clear hZ
  go_enter Tryd.func33, Tryd.ntmps33
  go_wp2_with fail
  clear hmk
  go_loopw [4] (fun i wr => TwRel d ks w i wr) (fun i _ => ks.length - (intOf i).toNat)
  case atStart => exact ⟨0, [], Z, rfl, by omega, rfl, fun m _ h => by simp at h, heap_alloc_new w _, HZS.out, fun m h => by simp at h, fun t h => by simp at h, below_alloc _ _⟩
  case round =>
    obtain ⟨j, ts, cs, rfl, hj, hl, hal, hbk, hcs, hcell, htw, hbe⟩ := hrel
    have HL := Lib.hid hl; clear hl
    have HAL := Lib.hid hal; clear hal
    have HCELL := Lib.hid hcell; clear hcell
    have HTW := Lib.hid htw; clear htw
    have HBE := Lib.hid hbe; clear hbe
    have HBK := Lib.hid hbk
    have hszr : w.heap.size < wr.heap.size := (Array.getElem?_eq_some_iff.1 hbk).1
    clear hbk
    by_cases hlt : j < ks.length
    · rcases HS.out.1 with h0 | ⟨a, o, hp, ha, hc⟩
      · omega
      subst hp
      have hck := (hc j hlt).up HBE.out ha
      clear hc
      have HE := Lib.hid (ExAt.up HBE.out d _ (HS.out.2 ks[j] (List.getElem_mem hlt)))
      have HRk := Lib.hid (HR.out ks[j] (List.getElem_mem hlt))
      have HBk := Lib.hid (HB.out ks[j] (List.getElem_mem hlt))
      obtain ⟨tk, htk⟩ : ∃ tk, tk = ks[j] := ⟨_, rfl⟩
      rw [← htk] at hck HE HRk HBk
      have HTK := Lib.hid htk; clear htk
      obtain ⟨c0, c1, c2, c3, c4, c5⟩ := hck
      go_wp2_with fail
      refine (IH.out tk _ HE.out HRk.out HBk.out (HT.out.at HBE.out)).mono ?_
      rintro r w1 ⟨f, rfl, hal1, htw1, hb1⟩
      clear c0 c1 c2 c3 c4 c5
      obtain ⟨pf, lf, cf, hslf⟩ := ex_sl (htw1.at (hal1.b HBk.out))
      rw [hslf]
      have HSLF := Lib.hid hslf; clear hslf
      have HAL1 := Lib.hid hal1; clear hal1
      have HTW1 := Lib.hid htw1; clear htw1
      have hbk1 := (hb1.block w.heap.size hszr).trans HBK.out
      have HB1 := Lib.hid hb1; clear hb1
      have q0 : w1.cell? ⟨w.heap.size, j * 6, none⟩ = some (cs[j * 6]'(by omega)) := by rw [Lib.cell_of_heap hbk1]; simp [show j * 6 < cs.size by omega]
      have q1 : w1.cell? ⟨w.heap.size, j * 6 + 1, none⟩ = some (cs[j * 6 + 1]'(by omega)) := by rw [Lib.cell_of_heap hbk1]; simp [show j * 6 + 1 < cs.size by omega]
      have q2 : w1.cell? ⟨w.heap.size, j * 6 + 2, none⟩ = some (cs[j * 6 + 2]'(by omega)) := by rw [Lib.cell_of_heap hbk1]; simp [show j * 6 + 2 < cs.size by omega]
      have q3 : w1.cell? ⟨w.heap.size, j * 6 + 3, none⟩ = some (cs[j * 6 + 3]'(by omega)) := by rw [Lib.cell_of_heap hbk1]; simp [show j * 6 + 3 < cs.size by omega]
      have q4 : w1.cell? ⟨w.heap.size, j * 6 + 4, none⟩ = some (cs[j * 6 + 4]'(by omega)) := by rw [Lib.cell_of_heap hbk1]; simp [show j * 6 + 4 < cs.size by omega]
      have q5 : w1.cell? ⟨w.heap.size, j * 6 + 5, none⟩ = some (cs[j * 6 + 5]'(by omega)) := by rw [Lib.cell_of_heap hbk1]; simp [show j * 6 + 5 < cs.size by omega]
      have f0 : w1.frozen? ⟨w.heap.size, j * 6, none⟩ = false := Lib.frozen_of_heap hbk1 _
      have f1 : w1.frozen? ⟨w.heap.size, j * 6 + 1, none⟩ = false := Lib.frozen_of_heap hbk1 _
      have f2 : w1.frozen? ⟨w.heap.size, j * 6 + 2, none⟩ = false := Lib.frozen_of_heap hbk1 _
      have f3 : w1.frozen? ⟨w.heap.size, j * 6 + 3, none⟩ = false := Lib.frozen_of_heap hbk1 _
      have f4 : w1.frozen? ⟨w.heap.size, j * 6 + 4, none⟩ = false := Lib.frozen_of_heap hbk1 _
      have f5 : w1.frozen? ⟨w.heap.size, j * 6 + 5, none⟩ = false := Lib.frozen_of_heap hbk1 _
      have HBK1 := Lib.hid hbk1; clear hbk1
      go_wp2_with fail
      go_roundw
      case rel =>
        have h1 := tw_next hlt HL.out HAL.out HBK.out hcs HCELL.out HTW.out HBE.out (HTK.out ▸ HAL1.out) HTW1.out HB1.out
        rw [HSLF.out] at h1
        exact h1
      case measure => simp [intOf]; omega
    · obtain rfl : j = ks.length := by omega
      go_wp2_with fail
      refine (mExpr _ (HT.out.at HBE.out)).mono ?_
      rintro r w1 ⟨rfl, hb1⟩
      have hbk1 := (hb1.block w.heap.size hszr).trans HBK.out
      have HB1 := Lib.hid hb1; clear hb1
      have q0 : w1.cell? ⟨w.heap.size, ks.length * 6, none⟩ = some (cs[ks.length * 6]'(by omega)) := by rw [Lib.cell_of_heap hbk1]; simp [show ks.length * 6 < cs.size by omega]
      have q1 : w1.cell? ⟨w.heap.size, ks.length * 6 + 1, none⟩ = some (cs[ks.length * 6 + 1]'(by omega)) := by rw [Lib.cell_of_heap hbk1]; simp [show ks.length * 6 + 1 < cs.size by omega]
      have q2 : w1.cell? ⟨w.heap.size, ks.length * 6 + 2, none⟩ = some (cs[ks.length * 6 + 2]'(by omega)) := by rw [Lib.cell_of_heap hbk1]; simp [show ks.length * 6 + 2 < cs.size by omega]
      have q3 : w1.cell? ⟨w.heap.size, ks.length * 6 + 3, none⟩ = some (cs[ks.length * 6 + 3]'(by omega)) := by rw [Lib.cell_of_heap hbk1]; simp [show ks.length * 6 + 3 < cs.size by omega]
      have q4 : w1.cell? ⟨w.heap.size, ks.length * 6 + 4, none⟩ = some (cs[ks.length * 6 + 4]'(by omega)) := by rw [Lib.cell_of_heap hbk1]; simp [show ks.length * 6 + 4 < cs.size by omega]
      have q5 : w1.cell? ⟨w.heap.size, ks.length * 6 + 5, none⟩ = some (cs[ks.length * 6 + 5]'(by omega)) := by rw [Lib.cell_of_heap hbk1]; simp [show ks.length * 6 + 5 < cs.size by omega]
      have f0 : w1.frozen? ⟨w.heap.size, ks.length * 6, none⟩ = false := Lib.frozen_of_heap hbk1 _
      have f1 : w1.frozen? ⟨w.heap.size, ks.length * 6 + 1, none⟩ = false := Lib.frozen_of_heap hbk1 _
      have f2 : w1.frozen? ⟨w.heap.size, ks.length * 6 + 2, none⟩ = false := Lib.frozen_of_heap hbk1 _
      have f3 : w1.frozen? ⟨w.heap.size, ks.length * 6 + 3, none⟩ = false := Lib.frozen_of_heap hbk1 _
      have f4 : w1.frozen? ⟨w.heap.size, ks.length * 6 + 4, none⟩ = false := Lib.frozen_of_heap hbk1 _
      have f5 : w1.frozen? ⟨w.heap.size, ks.length * 6 + 5, none⟩ = false := Lib.frozen_of_heap hbk1 _
      have HBK1 := Lib.hid hbk1; clear hbk1
      go_wp2_with fail
      go_ret
      refine ⟨w.heap.size, ts, rfl, HL.out, HAL.out, Nat.le_refl _, ?_, ?_, ?_, ?_, ?_⟩
      · show w.heap.size < (put6 w1 w.heap.size (ks.length * 6) _ _ _ _ _ _).heap.size
        rw [put6_size]
        have := HB1.out.size
        omega
      · intro m h
        exact put6_keeps HBK1.out ((HCELL.out m h).of_block (HB1.out.block _ hszr)) (by have := HL.out; omega) _ _ _ _ _ _
      · exact put6_new HBK1.out (by omega) 99 markTm _
      · intro t ht
        have h1 : TwAt w1 (w.heap.size + 1) d t := (HTW.out t ht).up (Nat.le_refl _) HB1.out.size (fun k hk hk' => HB1.out.block k hk')
        exact h1.up (by omega) (by show _ ≤ (put6 w1 w.heap.size (ks.length * 6) _ _ _ _ _ _).heap.size; rw [put6_size]; omega) (fun k hk _ => put6_block w1 (by omega) _ _ _ _ _ _ _)
      · exact put6_below (HBE.out.trans (HB1.out.mono (by omega))) (Nat.le_refl _) _ _ _ _ _ _ _
end Go.Proofs.YtlghiakckkhekaaDoor
