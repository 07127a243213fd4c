/- The contracts of the writer's atom and of print.Atom. Conditions: what is held and what is written together take at most 2^47 bytes. -/
import Derived.Test.YtlghiakckkhekaaDoorW16
namespace Go.Proofs.YtlghiakckkhekaaDoor
open Go.RowKit

/-- What was there before the writer was made is there still. -/
structure Env (w0 : World) (b : Nat) (w : World) : Prop where
  le : w0.heap.size ≤ b
  bel : Below w0.heap.size w0 w
theorem Env.kp {w0 : World} {b : Nat} {w w' : World} (h : Env w0 b w) (k : Kp b w w') : Env w0 b w' := ⟨h.le, h.bel.trans (k.below.mono h.le)⟩
theorem makeFn (fn : Fn) (first cap : Array Value) (w : World) : (Instr.makeFunc fn first cap).run Tryd.prog w = .ok (.func fn first cap) w := rfl
theorem enterAtom (args : Array Value) (w : World) : (callFunc 106 args).run Tryd.prog w = .ok (.enter 106 args) w := by kernel_rfl
theorem len_ts (ts : List Tm) : (ts.length : Int) = ((termTs ts).length : Int) := by simp [termTs]
set_option maxHeartbeats 1000000 in
set_option maxRecDepth 100000 in
theorem pAtom (w0 : World) (b : Nat) (pre : List UInt8) (p : ByteArray) (sv : Value) (ts : List Tm) (w : World) (hE : Env w0 b w) (hT : Tabs w0) (hts : TmSl w0 sv ts) (hr : TmsR ts) (h24 : ts.length ≤ 24)
    (hw : Wr 94 b pre w) (hl : pre.length + (atomL p ts).length ≤ 140737488355328) :
    Calls Tryd.prog 68 #[.pointer (some ⟨b, 0, none⟩), .agg #[.string p, sv]] w (Wrote b pre (atomL p ts) w) := by
  have HE := Lib.hid hE; clear hE
  have HT := Lib.hid hT; clear hT
  have HTS := Lib.hid hts
  have HR := Lib.hid hr; clear hr
  have HW := Lib.hid hw
  have hlt := hw.lt; clear hw
  obtain ⟨q, cap, rfl, hm, _⟩ := hts
  have hmf := makeFn
  go_enter Tryd.func68, Tryd.ntmps68
  go_wp2_with fail
  clear hmf
  rw [len_ts]
  refine (pColumns 106 enterAtom w.heap.size (w.heap.size + 1) b pre p (termTs ts) _ ((HW.out.alloc _).alloc _) hl (by simpa [termTs] using h24) ?_).mono ?_
  · intro k hk p' wr hkp hwr hlen
    have hk' : k < ts.length := by simpa [termTs] using hk
    have e1 : (termTs ts)[k] = termL ts[k] := by simp [termTs]
    rw [e1] at hlen ⊢
    have hkw := ((Kp.alloc HW.out _).trans (Kp.alloc (HW.out.alloc _) _)).trans hkp
    have henv := HE.out.kp hkw
    refine pAtomCol w.heap.size (w.heap.size + 1) b k p' p _ ts wr hk' hwr (HT.out.at henv.bel) ?_ ?_ (HTS.out.up henv.bel) HR.out hlen
    · have h1 := hkp.cell (k := w.heap.size) (c := #[.pointer (some ⟨b, 0, none⟩)]) (t := 74) (fz := (0, 0)) (by rw [Lib.alloc_old _ _ _ (by simp)]; exact heap_alloc_new w _) (by omega) (by decide)
      rw [Lib.cell_of_heap h1]; rfl
    · have h1 := hkp.cell (k := w.heap.size + 1) (c := #[.string p, .slice q ts.length cap]) (t := 55) (fz := (0, 0)) (by simpa using heap_alloc_new (w.alloc _) _) (by omega) (by decide)
      rw [Lib.cell_of_heap h1]; rfl
  · rintro e w1 ⟨rfl, hw1, hk1⟩
    have H1 := Lib.hid hw1; clear hw1
    have HK1 := Lib.hid hk1; clear hk1
    go_wp2_with fail
    go_end0
    exact ⟨rfl, H1.out, ((Kp.alloc HW.out _).trans (Kp.alloc (HW.out.alloc _) _)).trans HK1.out⟩
end Go.Proofs.YtlghiakckkhekaaDoor
