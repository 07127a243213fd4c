/- The contracts of RuleParts and BeyondLiterals. Conditions: the literals lie in memory as they are told, no list is too long. -/
import Derived.Test.YtdgbenadoaecoaaDoorE1
namespace Go.Proofs.YtdgbenadoaecoaaDoor
open Go.RowKit

/-- A literal's sixteen cells. -/
structure LtCell (w : World) (a o : Nat) {d : Nat} (x : Lt d) : Prop where
  c0 : w.cell? ⟨a, o, none⟩ = some (.int .i8 x.k)
  c1 : w.cell? ⟨a, o + 1, none⟩ = some (.string x.p)
  c2 : w.cell? ⟨a, o + 2, none⟩ = some (x.sv)
  c3 : w.cell? ⟨a, o + 3, none⟩ = some (.int .i8 x.r)
  c4 : w.cell? ⟨a, o + 4, none⟩ = some (.int .i8 (exOp d x.l))
  c5 : w.cell? ⟨a, o + 5, none⟩ = some (.string (exTm d x.l).v)
  c6 : w.cell? ⟨a, o + 6, none⟩ = some (.int .i8 (exTm d x.l).x.k)
  c7 : w.cell? ⟨a, o + 7, none⟩ = some (.int .i64 (exTm d x.l).x.n)
  c8 : w.cell? ⟨a, o + 8, none⟩ = some (.string (exTm d x.l).x.t)
  c9 : w.cell? ⟨a, o + 9, none⟩ = some (exSl d x.l)
  c10 : w.cell? ⟨a, o + 10, none⟩ = some (.int .i8 (exOp d x.g))
  c11 : w.cell? ⟨a, o + 11, none⟩ = some (.string (exTm d x.g).v)
  c12 : w.cell? ⟨a, o + 12, none⟩ = some (.int .i8 (exTm d x.g).x.k)
  c13 : w.cell? ⟨a, o + 13, none⟩ = some (.int .i64 (exTm d x.g).x.n)
  c14 : w.cell? ⟨a, o + 14, none⟩ = some (.string (exTm d x.g).x.t)
  c15 : w.cell? ⟨a, o + 15, none⟩ = some (exSl d x.g)
theorem LtCell.up {w w' : World} {B a o d : Nat} {x : Lt d} (h : LtCell w a o x) (hb : Below B w w') (ha : a < B) : LtCell w' a o x :=
  ⟨(hb.cell (p := ⟨a, o, none⟩) ha).trans h.c0, (hb.cell (p := ⟨a, o + 1, none⟩) ha).trans h.c1, (hb.cell (p := ⟨a, o + 2, none⟩) ha).trans h.c2, (hb.cell (p := ⟨a, o + 3, none⟩) ha).trans h.c3, (hb.cell (p := ⟨a, o + 4, none⟩) ha).trans h.c4, (hb.cell (p := ⟨a, o + 5, none⟩) ha).trans h.c5, (hb.cell (p := ⟨a, o + 6, none⟩) ha).trans h.c6, (hb.cell (p := ⟨a, o + 7, none⟩) ha).trans h.c7, (hb.cell (p := ⟨a, o + 8, none⟩) ha).trans h.c8, (hb.cell (p := ⟨a, o + 9, none⟩) ha).trans h.c9, (hb.cell (p := ⟨a, o + 10, none⟩) ha).trans h.c10, (hb.cell (p := ⟨a, o + 11, none⟩) ha).trans h.c11, (hb.cell (p := ⟨a, o + 12, none⟩) ha).trans h.c12, (hb.cell (p := ⟨a, o + 13, none⟩) ha).trans h.c13, (hb.cell (p := ⟨a, o + 14, none⟩) ha).trans h.c14, (hb.cell (p := ⟨a, o + 15, none⟩) ha).trans h.c15⟩
/-- Literals in a row of memory. -/
def LtsAt (w : World) (d : Nat) (p : Option Addr) (xs : List (Lt d)) : Prop :=
  (xs.length = 0 ∨ ∃ a o, p = some ⟨a, o, none⟩ ∧ a < w.heap.size ∧ ∀ i, (h : i < xs.length) → LtCell w a (o + i * 16) xs[i]) ∧ ∀ x ∈ xs, LtAt w x
theorem LtsAt.up {w w' : World} {d : Nat} {p : Option Addr} {xs : List (Lt d)} (h : LtsAt w d p xs) (hb : Below w.heap.size w w') : LtsAt w' d p xs :=
  ⟨h.1.imp id fun ⟨a, o, hp, ha, hc⟩ => ⟨a, o, hp, Nat.lt_of_lt_of_le ha hb.size, fun i hi => (hc i hi).up hb ha⟩, fun x hx => (h.2 x hx).up hb⟩
/-- What a count leaves. -/
def NumPost (w : World) (r : Ending) (w' : World) : Prop := ∃ n : Int, r = .returned (.int .i64 n) ∧ 1 ≤ n ∧ n ≤ 4398046511104 ∧ Below w.heap.size w w'
def RpRel (len : Nat) (W : World) (v i : Value) (wr : World) : Prop := ∃ (j : Nat) (n : Int), i = .int .i64 j ∧ v = .int .i64 n ∧ j ≤ len ∧ 1 ≤ n ∧ n ≤ 4398046511104 ∧ Below W.heap.size W wr
set_option maxHeartbeats 4000000 in
set_option maxRecDepth 100000 in
theorem ruleParts (d : Nat) (pr : ByteArray) (hp : Option Addr) (hn hc : Nat) (xs : List (Lt d)) (p : Option Addr) (cap : Nat) (left : Int) (w : World) (hh : hn ≤ 2932031007317) (hlen : xs.length ≤ 2932031007317) (hx : LtsAt w d p xs) (hb : ∀ x ∈ xs, LtB x) (hl0 : 0 ≤ left) (hl1 : left ≤ 1048576) :
    Calls Tryd.prog 29 #[.agg #[.string pr, .slice hp hn hc, .slice p xs.length cap], .int .i64 left] w (NumPost w) := by
  have HX := Lib.hid hx; clear hx
  have HB := Lib.hid hb; clear hb
  obtain ⟨W, hW⟩ : ∃ W, W = w.alloc (.cells #[.string pr, .slice hp hn hc, .slice p xs.length cap] 25) := ⟨_, rfl⟩
  have HBW := Lib.hid (show Below w.heap.size w W by rw [hW]; exact below_alloc _ _)
  have hsW : W.heap.size = w.heap.size + 1 := by rw [hW]; simp
  have HBX := Lib.hid (show W.heap[w.heap.size]? = some (.cells #[.string pr, .slice hp hn hc, .slice p xs.length cap] 25 (0, 0)) by rw [hW]; exact heap_alloc_new w _)
  go_enter Tryd.func29, Tryd.ntmps29
  go_wp2_with fail
  rw [← hW]
  clear hW
  go_loopw [5, 6] (fun v i wr => RpRel xs.length W v i wr) (fun _ i _ => xs.length - (intOf i).toNat)
  case atStart => exact ⟨0, 1 + (hn : Int), rfl, rfl, by omega, by omega, by omega, Below.refl _ _⟩
  case round =>
    obtain ⟨j, n, rfl, rfl, hj, hn0, hn1, hb⟩ := hrel
    have Hb := Lib.hid hb; clear hb
    have hbx := (Hb.out.block w.heap.size (by omega)).trans HBX.out
    have x0 : wr.cell? ⟨w.heap.size, 0, none⟩ = some (.string pr) := by rw [Lib.cell_of_heap hbx]; rfl
    have x1 : wr.cell? ⟨w.heap.size, 1, none⟩ = some (.slice hp hn hc) := by rw [Lib.cell_of_heap hbx]; rfl
    have x2 : wr.cell? ⟨w.heap.size, 2, none⟩ = some (.slice p xs.length cap) := by rw [Lib.cell_of_heap hbx]; rfl
    clear hbx
    by_cases hlt : j < xs.length
    · have q1 : decide (j < xs.length) = true := decide_eq_true hlt
      by_cases hle : n ≤ left
      · have q2 : decide (n ≤ left) = true := decide_eq_true hle
        rcases HX.out.1 with h0 | ⟨a, o, hp2, ha, hcs⟩
        · omega
        subst hp2
        have hck := (hcs j hlt).up (HBW.out.trans (Hb.out.mono (by omega))) ha
        clear hcs
        have HXj := Lib.hid ((HX.out.2 xs[j] (List.getElem_mem hlt)).up (HBW.out.trans (Hb.out.mono (by omega))))
        have HBj := Lib.hid (HB.out xs[j] (List.getElem_mem hlt))
        obtain ⟨x, hx⟩ : ∃ x, x = xs[j] := ⟨_, rfl⟩
        rw [← hx] at hck HXj HBj
        clear hx
        obtain ⟨q, qc, hsv, _, _⟩ := HXj.out.at_
        obtain ⟨pl, cl, hsl⟩ := ex_sl2 HXj.out.l_
        obtain ⟨pg, cg, hsg⟩ := ex_sl2 HXj.out.g_
        have hcall := fun left w' h h2 h3 => litParts d x left w' h HBj.out h2 h3
        obtain ⟨c0, c1, c2, c3, c4, c5, c6, c7, c8, c9, c10, c11, c12, c13, c14, c15⟩ := hck
        rw [hsv] at c2 hcall
        rw [hsl] at c9 hcall
        rw [hsg] at c15 hcall
        have HCALL := Lib.hid hcall
        clear hcall hsv hsl hsg
        go_wp2_with fail
        refine (HCALL.out _ _ HXj.out (by omega) (by omega)).mono ?_
        rintro r w1 ⟨m, rfl, hm0, hm1, hb1⟩
        have Hb1 := Lib.hid (Hb.out.trans (hb1.mono Hb.out.size)); clear hb1
        clear x0 x1 x2 c0 c1 c2 c3 c4 c5 c6 c7 c8 c9 c10 c11 c12 c13 c14 c15
        go_wp2_with fail
        exact ⟨⟨j + 1, n + m, by go_num, rfl, by omega, by omega, by omega, Hb1.out⟩, by simp [intOf]; omega⟩
      · have q2 : decide (n ≤ left) = false := decide_eq_false hle
        go_wp2_with fail
        go_ret
        exact ⟨n, rfl, hn0, hn1, HBW.out.trans (Hb.out.mono (by omega))⟩
    · have q1 : decide (j < xs.length) = false := decide_eq_false hlt
      go_wp2_with fail
      go_ret
      exact ⟨n, rfl, hn0, hn1, HBW.out.trans (Hb.out.mono (by omega))⟩
/-- What a call leaves that answers yes or no. -/
def BoolPost (w : World) (r : Ending) (w' : World) : Prop := ∃ b : Bool, r = .returned (.bool b) ∧ Below w.heap.size w w'
end Go.Proofs.YtdgbenadoaecoaaDoor
