/- Literals: the plain data; the contracts of the two tests for the empty expression and of the reference's check of literals. The contract of literalParts. The contracts of RuleParts and BeyondLiterals. Conditions: the literal lies in memory as it is told. the literal lies in memory as it is told, its lists are not too long; the number that it counts up to is at most 2^20. the literals lie in memory as they are told, no list is too long. -/
import Derived.Test.YtafjjececdhmjaaGreatNA2
import Derived.Test.YtafjjececdhmjaaGreatNMF
import Derived.Test.YtafjjececdhmjaaGreatNMG
import Derived.Deep.RegionHeld3
namespace Go.Proofs.YtafjjececdhmjaaGreat
open Go.RowKit

/-- How many kids an expression has. -/
def exLen : (d : Nat) → Ex d → Nat
  | 0, e => nomatch e
  | _ + 1, e => e.2.2.2.length
theorem ex_sl2 {w : World} : {d : Nat} → {e : Ex d} → ExAt w d e → ∃ p c, exSl d e = .slice p (exLen d e) c
  | 0, e, _ => nomatch e
  | _ + 1, _, ⟨p, cap, h1, _⟩ => ⟨p, cap, h1⟩
/-- Is it the empty expression? -/
def noB (op : Int) (t : Tm) (l : Nat) : Bool := op == 0 && tmZero t && decide (l = 0)
/-- A literal: its kind, its atom, its relation, its two sides. -/
structure Lt (d : Nat) where
  k : Int
  p : ByteArray
  ts : List Tm
  sv : Value
  r : Int
  l : Ex d
  g : Ex d
def ltOk {d : Nat} (x : Lt d) : Bool :=
  if x.k = 1 ∨ x.k = 2 then atOk x.p x.ts && (x.r == 0) && noB (exOp d x.l) (exTm d x.l) (exLen d x.l) && noB (exOp d x.g) (exTm d x.g) (exLen d x.g)
  else if x.k = 3 then (bl x.p).isEmpty && decide (x.ts.length = 0) && decide (1 ≤ x.r) && decide (x.r ≤ 6) && exOk 8 d x.l && exOk 8 d x.g
  else false
/-- How a literal lies in memory. -/
structure LtAt (w : World) {d : Nat} (x : Lt d) : Prop where
  at_ : TmSl w x.sv x.ts
  l_ : ExAt w d x.l
  g_ : ExAt w d x.g
structure LtR {d : Nat} (x : Lt d) : Prop where
  p_ : x.p.size ≤ maxLen
  ts_ : TmsR x.ts
  l_ : ExR d x.l
  g_ : ExR d x.g
theorem LtAt.up {w w' : World} {d : Nat} {x : Lt d} (h : LtAt w x) (hb : Below w.heap.size w w') : LtAt w' x := ⟨h.at_.up hb, ExAt.up hb d _ h.l_, ExAt.up hb d _ h.g_⟩
theorem sixteen {w : World} {b : Nat} {x0 x1 x2 x3 x4 x5 x6 x7 x8 x9 x10 x11 x12 x13 x14 x15 : Value} {t : TypeId} {fz : Nat × Nat} (h : w.heap[b]? = some (.cells #[x0, x1, x2, x3, x4, x5, x6, x7, x8, x9, x10, x11, x12, x13, x14, x15] t fz)) :
    w.cell? ⟨b, 0, none⟩ = some x0 ∧ w.cell? ⟨b, 1, none⟩ = some x1 ∧ w.cell? ⟨b, 2, none⟩ = some x2 ∧ w.cell? ⟨b, 3, none⟩ = some x3 ∧ w.cell? ⟨b, 4, none⟩ = some x4 ∧ w.cell? ⟨b, 5, none⟩ = some x5 ∧ w.cell? ⟨b, 6, none⟩ = some x6 ∧ w.cell? ⟨b, 7, none⟩ = some x7 ∧ w.cell? ⟨b, 8, none⟩ = some x8 ∧ w.cell? ⟨b, 9, none⟩ = some x9 ∧ w.cell? ⟨b, 10, none⟩ = some x10 ∧ w.cell? ⟨b, 11, none⟩ = some x11 ∧ w.cell? ⟨b, 12, none⟩ = some x12 ∧ w.cell? ⟨b, 13, none⟩ = some x13 ∧ w.cell? ⟨b, 14, none⟩ = some x14 ∧ w.cell? ⟨b, 15, none⟩ = some x15 :=
  ⟨by rw [Lib.cell_of_heap h]; rfl, by rw [Lib.cell_of_heap h]; rfl, by rw [Lib.cell_of_heap h]; rfl, by rw [Lib.cell_of_heap h]; rfl, by rw [Lib.cell_of_heap h]; rfl, by rw [Lib.cell_of_heap h]; rfl, by rw [Lib.cell_of_heap h]; rfl, by rw [Lib.cell_of_heap h]; rfl, by rw [Lib.cell_of_heap h]; rfl, by rw [Lib.cell_of_heap h]; rfl, by rw [Lib.cell_of_heap h]; rfl, by rw [Lib.cell_of_heap h]; rfl, by rw [Lib.cell_of_heap h]; rfl, by rw [Lib.cell_of_heap h]; rfl, by rw [Lib.cell_of_heap h]; rfl, by rw [Lib.cell_of_heap h]; rfl⟩
set_option maxHeartbeats 2000000 in
theorem rNothing (op : Int) (v : ByteArray) (k n : Int) (t : ByteArray) (p : Option Addr) (l c : Nat) (w : World) :
    Calls Tryz.prog 93 #[.agg #[.int .i8 op, .string v, .int .i8 k, .int .i64 n, .string t, .slice p l c]] w fun e w' => e = .returned (.bool (noB op ⟨v, ⟨k, n, t⟩⟩ l)) ∧ Below w.heap.size w w' := by
  have hq : ∀ w, _ := fun w => tm_eq0 v k n t w
  rcases h0 : (op == 0) with _ | _
  · have HE := Lib.hid (show noB op ⟨v, ⟨k, n, t⟩⟩ l = false by simp [noB, h0])
    go_enter Tryz.func93, Tryz.ntmps93
    go_wp2_with fail
    go_ret
    exact ⟨ret_bool HE.out.symm, (below_alloc _ _).trans ((below_alloc _ _).mono (by simp))⟩
  · rcases hz : tmZero ⟨v, ⟨k, n, t⟩⟩ with _ | _
    · have HE := Lib.hid (show noB op ⟨v, ⟨k, n, t⟩⟩ l = false by simp [noB, hz])
      rw [hz] at hq
      clear hz
      go_enter Tryz.func93, Tryz.ntmps93
      go_wp2_with fail
      go_ret
      exact ⟨ret_bool HE.out.symm, (below_alloc _ _).trans ((below_alloc _ _).mono (by simp))⟩
    · have HE := Lib.hid (show noB op ⟨v, ⟨k, n, t⟩⟩ l = ((l : Int) == 0) by
        unfold noB
        rw [h0, hz, Bool.eq_iff_iff]
        simp)
      rw [hz] at hq
      clear hz
      go_enter Tryz.func93, Tryz.ntmps93
      go_wp2_with fail
      go_ret
      exact ⟨ret_bool HE.out.symm, (below_alloc _ _).trans ((below_alloc _ _).mono (by simp))⟩
set_option maxHeartbeats 2000000 in
theorem tEmpty (op : Int) (v : ByteArray) (k n : Int) (t : ByteArray) (p : Option Addr) (l c : Nat) (w : World) :
    Calls Tryz.prog 104 #[.agg #[.int .i8 op, .string v, .int .i8 k, .int .i64 n, .string t, .slice p l c]] w fun e w' => e = .returned (.bool (noB op ⟨v, ⟨k, n, t⟩⟩ l)) ∧ Below w.heap.size w w' := by
  obtain ⟨W, hW⟩ : ∃ W, W = w.alloc (.cells #[.int .i8 op, .string v, .int .i8 k, .int .i64 n, .string t, .slice p l c] 112) := ⟨_, rfl⟩
  have HBW := Lib.hid (show Below w.heap.size w W by rw [hW]; exact below_alloc _ _)
  have hsW : W.heap.size = w.heap.size + 1 := by rw [hW]; simp
  have HBX := Lib.hid (show W.heap[w.heap.size]? = some (.cells #[.int .i8 op, .string v, .int .i8 k, .int .i64 n, .string t, .slice p l c] 112 (0, 0)) by rw [hW]; exact heap_alloc_new w _)
  rcases h0 : (op == 0) with _ | _
  · have HE := Lib.hid (show noB op ⟨v, ⟨k, n, t⟩⟩ l = false by simp [noB, h0])
    clear hW
    go_enter Tryz.func104, Tryz.ntmps104
    go_wp2_with fail
    go_ret
    exact ⟨ret_bool HE.out.symm, below_alloc _ _⟩
  · rcases hz : tmZero ⟨v, ⟨k, n, t⟩⟩ with _ | _
    all_goals have HZ := Lib.hid hz
    all_goals clear hz
    · have HE := Lib.hid (show noB op ⟨v, ⟨k, n, t⟩⟩ l = false by simp [noB, HZ.out])
      go_enter Tryz.func104, Tryz.ntmps104
      go_wp2_with fail
      rw [← hW]
      clear hW
      refine (tNone v k n t _).mono ?_
      rintro e w1 ⟨rfl, hb⟩
      have Hb := Lib.hid hb; clear hb
      rw [HZ.out]
      go_wp2_with fail
      go_ret
      exact ⟨ret_bool HE.out.symm, HBW.out.trans (Hb.out.mono (by omega))⟩
    · have HE := Lib.hid (show noB op ⟨v, ⟨k, n, t⟩⟩ l = ((l : Int) == 0) by
        unfold noB
        rw [h0, HZ.out, Bool.eq_iff_iff]
        simp)
      go_enter Tryz.func104, Tryz.ntmps104
      go_wp2_with fail
      rw [← hW]
      clear hW
      refine (tNone v k n t _).mono ?_
      rintro e w1 ⟨rfl, hb⟩
      obtain ⟨x0, x1, x2, x3, x4, x5⟩ := six ((hb.block w.heap.size (by omega)).trans HBX.out)
      have Hb := Lib.hid hb; clear hb
      rw [HZ.out]
      go_wp2_with fail
      go_ret
      exact ⟨ret_bool HE.out.symm, HBW.out.trans (Hb.out.mono (by omega))⟩
end Go.Proofs.YtafjjececdhmjaaGreat

namespace Go.Proofs.YtafjjececdhmjaaGreat
open Go.RowKit

/-- A literal whose lists are not too long. -/
structure LtB {d : Nat} (x : Lt d) : Prop where
  ts_ : x.ts.length ≤ 2932031007317
  l_ : ExB d x.l
  g_ : ExB d x.g
set_option maxHeartbeats 4000000 in
set_option maxRecDepth 100000 in
theorem litParts (d : Nat) (x : Lt d) (left : Int) (w : World) (hx : LtAt w x) (hb : LtB x) (hl0 : 0 ≤ left) (hl1 : left ≤ 1048576) :
    Calls Tryz.prog 65 #[.agg #[.int .i8 x.k, .string x.p, x.sv, .int .i8 x.r, .int .i8 (exOp d x.l), .string (exTm d x.l).v, .int .i8 (exTm d x.l).x.k, .int .i64 (exTm d x.l).x.n, .string (exTm d x.l).x.t, exSl d x.l, .int .i8 (exOp d x.g), .string (exTm d x.g).v, .int .i8 (exTm d x.g).x.k, .int .i64 (exTm d x.g).x.n, .string (exTm d x.g).x.t, exSl d x.g], .int .i64 left] w (PartsPost left w) := by
  have HX := Lib.hid hx
  have hts := hb.ts_
  have HB := Lib.hid hb; clear hb
  obtain ⟨q, cap, hsv, _, _⟩ := hx.at_
  obtain ⟨pl, cl, hsl⟩ := ex_sl2 hx.l_
  obtain ⟨pg, cg, hsg⟩ := ex_sl2 hx.g_
  rw [hsv, hsl, hsg]
  have HSL := Lib.hid hsl
  have HSG := Lib.hid hsg
  clear hx hsv hsl hsg
  obtain ⟨W, hW⟩ : ∃ W, W = w.alloc (.cells #[.int .i8 x.k, .string x.p, .slice q x.ts.length cap, .int .i8 x.r, .int .i8 (exOp d x.l), .string (exTm d x.l).v, .int .i8 (exTm d x.l).x.k, .int .i64 (exTm d x.l).x.n, .string (exTm d x.l).x.t, .slice pl (exLen d x.l) cl, .int .i8 (exOp d x.g), .string (exTm d x.g).v, .int .i8 (exTm d x.g).x.k, .int .i64 (exTm d x.g).x.n, .string (exTm d x.g).x.t, .slice pg (exLen d x.g) cg] 114) := ⟨_, rfl⟩
  have HBW := Lib.hid (show Below w.heap.size w W by rw [hW]; exact below_alloc _ _)
  have hsW : W.heap.size = w.heap.size + 1 := by rw [hW]; simp
  have HBX := Lib.hid (show W.heap[w.heap.size]? = some (.cells #[.int .i8 x.k, .string x.p, .slice q x.ts.length cap, .int .i8 x.r, .int .i8 (exOp d x.l), .string (exTm d x.l).v, .int .i8 (exTm d x.l).x.k, .int .i64 (exTm d x.l).x.n, .string (exTm d x.l).x.t, .slice pl (exLen d x.l) cl, .int .i8 (exOp d x.g), .string (exTm d x.g).v, .int .i8 (exTm d x.g).x.k, .int .i64 (exTm d x.g).x.n, .string (exTm d x.g).x.t, .slice pg (exLen d x.g) cg] 114 (0, 0)) by rw [hW]; exact heap_alloc_new w _)
  obtain ⟨x0, x1, x2, x3, x4, x5, x6, x7, x8, x9, x10, x11, x12, x13, x14, x15⟩ := sixteen HBX.out
  have hbk : w.heap.size < W.heap.size := by omega
  have hw1 : IntKind.i64.wrap (1 + (x.ts.length : Int)) = 1 + (x.ts.length : Int) := by rw [IntKind.wrap_i64]; omega
  have Hb := Lib.hid ((Below.refl W.heap.size W).drew)
  go_enter Tryz.func65, Tryz.ntmps65
  go_wp2_with fail
  rw [← hW]
  clear hW
  go_region_held3 (fun w' => w'.cell? ⟨w.heap.size, 2, none⟩ = W.cell? ⟨w.heap.size, 2, none⟩ ∧ w'.cell? ⟨w.heap.size, 4, none⟩ = W.cell? ⟨w.heap.size, 4, none⟩ ∧ w'.cell? ⟨w.heap.size, 5, none⟩ = W.cell? ⟨w.heap.size, 5, none⟩ ∧ w'.cell? ⟨w.heap.size, 6, none⟩ = W.cell? ⟨w.heap.size, 6, none⟩ ∧ w'.cell? ⟨w.heap.size, 7, none⟩ = W.cell? ⟨w.heap.size, 7, none⟩ ∧ w'.cell? ⟨w.heap.size, 8, none⟩ = W.cell? ⟨w.heap.size, 8, none⟩ ∧ w'.cell? ⟨w.heap.size, 9, none⟩ = W.cell? ⟨w.heap.size, 9, none⟩)
    (exact ⟨Hb.out.cell hbk, Hb.out.cell hbk, Hb.out.cell hbk, Hb.out.cell hbk, Hb.out.cell hbk, Hb.out.cell hbk, Hb.out.cell hbk⟩)
    (first
      | (go_at_call 100
         rw [← HSL.out]
         refine (parts d x.l left _ ?_ HB.out.l_ hl0 hl1).mono ?_
         · exact ExAt.up (HBW.out.trans (Hb.out.mono (by omega))) d _ HX.out.l_
         rintro r w1 ⟨n, rfl, hn0, hn1, hb1⟩
         have Hb := Lib.hid (Hb.out.trans (hb1.mono Hb.out.size))
         clear hb1
         have hw2 : IntKind.i64.wrap (1 + (x.ts.length : Int) + n) = 1 + (x.ts.length : Int) + n := by rw [IntKind.wrap_i64]; omega))
  all_goals
    clear x0 x1 x2 x3 x4 x5 x6 x7 x8 x9 x10 x11 x12 x13 x14 x15 hw1 hw2
    by_cases hgt : left < 1 + (x.ts.length : Int) + n
    · have q1 : decide (left < 1 + (x.ts.length : Int) + n) = true := decide_eq_true hgt
      go_wp2_with fail
      go_ret
      exact ⟨left + 1, rfl, by omega, by omega, HBW.out.trans (Hb.out.mono (by omega))⟩
    · have q1 : decide (left < 1 + (x.ts.length : Int) + n) = false := decide_eq_false hgt
      obtain ⟨x0, x1, x2, x3, x4, x5, x6, x7, x8, x9, x10, x11, x12, x13, x14, x15⟩ := sixteen ((Hb.out.block w.heap.size hbk).trans HBX.out)
      go_wp2_with fail
      rw [← HSG.out]
      refine (parts d x.g (left - (1 + (x.ts.length : Int) + n)) _ (ExAt.up (HBW.out.trans (Hb.out.mono (by omega))) d _ HX.out.g_) HB.out.g_ (by omega) (by omega)).mono ?_
      rintro r w2 ⟨m, rfl, hm0, hm1, hb2⟩
      have Hb2 := Lib.hid (Hb.out.trans (hb2.mono Hb.out.size)); clear hb2
      clear x0 x1 x2 x3 x4 x5 x6 x7 x8 x9 x10 x11 x12 x13 x14 x15
      go_wp2_with fail
      go_ret
      exact ⟨1 + (x.ts.length : Int) + n + m, rfl, by omega, by omega, HBW.out.trans (Hb2.out.mono (by omega))⟩
end Go.Proofs.YtafjjececdhmjaaGreat

namespace Go.Proofs.YtafjjececdhmjaaGreat
open Go.RowKit

/-- A literal's sixteen cells. -/
structure LtCell (w : World) (a o : Nat) {d : Nat} (x : Lt d) : Prop where
  c0 : w.cell? ⟨a, o, none⟩ = some (.int .i8 x.k)
  c1 : w.cell? ⟨a, o + 1, none⟩ = some (.string x.p)
  c2 : w.cell? ⟨a, o + 2, none⟩ = some (x.sv)
  c3 : w.cell? ⟨a, o + 3, none⟩ = some (.int .i8 x.r)
  c4 : w.cell? ⟨a, o + 4, none⟩ = some (.int .i8 (exOp d x.l))
  c5 : w.cell? ⟨a, o + 5, none⟩ = some (.string (exTm d x.l).v)
  c6 : w.cell? ⟨a, o + 6, none⟩ = some (.int .i8 (exTm d x.l).x.k)
  c7 : w.cell? ⟨a, o + 7, none⟩ = some (.int .i64 (exTm d x.l).x.n)
  c8 : w.cell? ⟨a, o + 8, none⟩ = some (.string (exTm d x.l).x.t)
  c9 : w.cell? ⟨a, o + 9, none⟩ = some (exSl d x.l)
  c10 : w.cell? ⟨a, o + 10, none⟩ = some (.int .i8 (exOp d x.g))
  c11 : w.cell? ⟨a, o + 11, none⟩ = some (.string (exTm d x.g).v)
  c12 : w.cell? ⟨a, o + 12, none⟩ = some (.int .i8 (exTm d x.g).x.k)
  c13 : w.cell? ⟨a, o + 13, none⟩ = some (.int .i64 (exTm d x.g).x.n)
  c14 : w.cell? ⟨a, o + 14, none⟩ = some (.string (exTm d x.g).x.t)
  c15 : w.cell? ⟨a, o + 15, none⟩ = some (exSl d x.g)
theorem LtCell.up {w w' : World} {B a o d : Nat} {x : Lt d} (h : LtCell w a o x) (hb : Below B w w') (ha : a < B) : LtCell w' a o x :=
  ⟨(hb.cell (p := ⟨a, o, none⟩) ha).trans h.c0, (hb.cell (p := ⟨a, o + 1, none⟩) ha).trans h.c1, (hb.cell (p := ⟨a, o + 2, none⟩) ha).trans h.c2, (hb.cell (p := ⟨a, o + 3, none⟩) ha).trans h.c3, (hb.cell (p := ⟨a, o + 4, none⟩) ha).trans h.c4, (hb.cell (p := ⟨a, o + 5, none⟩) ha).trans h.c5, (hb.cell (p := ⟨a, o + 6, none⟩) ha).trans h.c6, (hb.cell (p := ⟨a, o + 7, none⟩) ha).trans h.c7, (hb.cell (p := ⟨a, o + 8, none⟩) ha).trans h.c8, (hb.cell (p := ⟨a, o + 9, none⟩) ha).trans h.c9, (hb.cell (p := ⟨a, o + 10, none⟩) ha).trans h.c10, (hb.cell (p := ⟨a, o + 11, none⟩) ha).trans h.c11, (hb.cell (p := ⟨a, o + 12, none⟩) ha).trans h.c12, (hb.cell (p := ⟨a, o + 13, none⟩) ha).trans h.c13, (hb.cell (p := ⟨a, o + 14, none⟩) ha).trans h.c14, (hb.cell (p := ⟨a, o + 15, none⟩) ha).trans h.c15⟩
/-- Literals in a row of memory. -/
def LtsAt (w : World) (d : Nat) (p : Option Addr) (xs : List (Lt d)) : Prop :=
  (xs.length = 0 ∨ ∃ a o, p = some ⟨a, o, none⟩ ∧ a < w.heap.size ∧ ∀ i, (h : i < xs.length) → LtCell w a (o + i * 16) xs[i]) ∧ ∀ x ∈ xs, LtAt w x
theorem LtsAt.up {w w' : World} {d : Nat} {p : Option Addr} {xs : List (Lt d)} (h : LtsAt w d p xs) (hb : Below w.heap.size w w') : LtsAt w' d p xs :=
  ⟨h.1.imp id fun ⟨a, o, hp, ha, hc⟩ => ⟨a, o, hp, Nat.lt_of_lt_of_le ha hb.size, fun i hi => (hc i hi).up hb ha⟩, fun x hx => (h.2 x hx).up hb⟩
/-- What a count leaves. -/
def NumPost (w : World) (r : Ending) (w' : World) : Prop := ∃ n : Int, r = .returned (.int .i64 n) ∧ 1 ≤ n ∧ n ≤ 4398046511104 ∧ Below w.heap.size w w'
def RpRel (len : Nat) (W : World) (v i : Value) (wr : World) : Prop := ∃ (j : Nat) (n : Int), i = .int .i64 j ∧ v = .int .i64 n ∧ j ≤ len ∧ 1 ≤ n ∧ n ≤ 4398046511104 ∧ Below W.heap.size W wr
set_option maxHeartbeats 4000000 in
set_option maxRecDepth 100000 in
theorem ruleParts (d : Nat) (pr : ByteArray) (hp : Option Addr) (hn hc : Nat) (xs : List (Lt d)) (p : Option Addr) (cap : Nat) (left : Int) (w : World) (hh : hn ≤ 2932031007317) (hlen : xs.length ≤ 2932031007317) (hx : LtsAt w d p xs) (hb : ∀ x ∈ xs, LtB x) (hl0 : 0 ≤ left) (hl1 : left ≤ 1048576) :
    Calls Tryz.prog 36 #[.agg #[.string pr, .slice hp hn hc, .slice p xs.length cap], .int .i64 left] w (NumPost w) := by
  have HX := Lib.hid hx; clear hx
  have HB := Lib.hid hb; clear hb
  obtain ⟨W, hW⟩ : ∃ W, W = w.alloc (.cells #[.string pr, .slice hp hn hc, .slice p xs.length cap] 41) := ⟨_, rfl⟩
  have HBW := Lib.hid (show Below w.heap.size w W by rw [hW]; exact below_alloc _ _)
  have hsW : W.heap.size = w.heap.size + 1 := by rw [hW]; simp
  have HBX := Lib.hid (show W.heap[w.heap.size]? = some (.cells #[.string pr, .slice hp hn hc, .slice p xs.length cap] 41 (0, 0)) by rw [hW]; exact heap_alloc_new w _)
  go_enter Tryz.func36, Tryz.ntmps36
  go_wp2_with fail
  rw [← hW]
  clear hW
  go_loopw [5, 6] (fun v i wr => RpRel xs.length W v i wr) (fun _ i _ => xs.length - (intOf i).toNat)
  case atStart => exact ⟨0, 1 + (hn : Int), rfl, rfl, by omega, by omega, by omega, Below.refl _ _⟩
  case round =>
    obtain ⟨j, n, rfl, rfl, hj, hn0, hn1, hb⟩ := hrel
    have Hb := Lib.hid hb; clear hb
    have hbx := (Hb.out.block w.heap.size (by omega)).trans HBX.out
    have x0 : wr.cell? ⟨w.heap.size, 0, none⟩ = some (.string pr) := by rw [Lib.cell_of_heap hbx]; rfl
    have x1 : wr.cell? ⟨w.heap.size, 1, none⟩ = some (.slice hp hn hc) := by rw [Lib.cell_of_heap hbx]; rfl
    have x2 : wr.cell? ⟨w.heap.size, 2, none⟩ = some (.slice p xs.length cap) := by rw [Lib.cell_of_heap hbx]; rfl
    clear hbx
    by_cases hlt : j < xs.length
    · have q1 : decide (j < xs.length) = true := decide_eq_true hlt
      by_cases hle : n ≤ left
      · have q2 : decide (n ≤ left) = true := decide_eq_true hle
        rcases HX.out.1 with h0 | ⟨a, o, hp2, ha, hcs⟩
        · omega
        subst hp2
        have hck := (hcs j hlt).up (HBW.out.trans (Hb.out.mono (by omega))) ha
        clear hcs
        have HXj := Lib.hid ((HX.out.2 xs[j] (List.getElem_mem hlt)).up (HBW.out.trans (Hb.out.mono (by omega))))
        have HBj := Lib.hid (HB.out xs[j] (List.getElem_mem hlt))
        obtain ⟨x, hx⟩ : ∃ x, x = xs[j] := ⟨_, rfl⟩
        rw [← hx] at hck HXj HBj
        clear hx
        obtain ⟨q, qc, hsv, _, _⟩ := HXj.out.at_
        obtain ⟨pl, cl, hsl⟩ := ex_sl2 HXj.out.l_
        obtain ⟨pg, cg, hsg⟩ := ex_sl2 HXj.out.g_
        have hcall := fun left w' h h2 h3 => litParts d x left w' h HBj.out h2 h3
        obtain ⟨c0, c1, c2, c3, c4, c5, c6, c7, c8, c9, c10, c11, c12, c13, c14, c15⟩ := hck
        rw [hsv] at c2 hcall
        rw [hsl] at c9 hcall
        rw [hsg] at c15 hcall
        have HCALL := Lib.hid hcall
        clear hcall hsv hsl hsg
        go_wp2_with fail
        refine (HCALL.out _ _ HXj.out (by omega) (by omega)).mono ?_
        rintro r w1 ⟨m, rfl, hm0, hm1, hb1⟩
        have Hb1 := Lib.hid (Hb.out.trans (hb1.mono Hb.out.size)); clear hb1
        clear x0 x1 x2 c0 c1 c2 c3 c4 c5 c6 c7 c8 c9 c10 c11 c12 c13 c14 c15
        go_wp2_with fail
        exact ⟨⟨j + 1, n + m, by go_num, rfl, by omega, by omega, by omega, Hb1.out⟩, by simp [intOf]; omega⟩
      · have q2 : decide (n ≤ left) = false := decide_eq_false hle
        go_wp2_with fail
        go_ret
        exact ⟨n, rfl, hn0, hn1, HBW.out.trans (Hb.out.mono (by omega))⟩
    · have q1 : decide (j < xs.length) = false := decide_eq_false hlt
      go_wp2_with fail
      go_ret
      exact ⟨n, rfl, hn0, hn1, HBW.out.trans (Hb.out.mono (by omega))⟩
/-- What a call leaves that answers yes or no. -/
def BoolPost (w : World) (r : Ending) (w' : World) : Prop := ∃ b : Bool, r = .returned (.bool b) ∧ Below w.heap.size w w'
end Go.Proofs.YtafjjececdhmjaaGreat
