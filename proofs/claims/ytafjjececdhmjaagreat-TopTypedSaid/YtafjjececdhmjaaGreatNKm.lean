/- The reference's Put: a term whose variable is replaced by what the first pair says. The reference's Canonical and Apply: V and a number; an atom with its variables replaced. Conditions: the pairs lie in memory as they are told; beside a variable the term bears no value. the pairs and the terms lie in memory as they are told; beside a variable a term bears no value; no more than 24 terms. -/
import Derived.Test.YtafjjececdhmjaaGreatNKl
import Derived.Test.YtafjjececdhmjaaGreatNR16
import Derived.BigQuiet
import Derived.Test.YtafjjececdhmjaaGreatNKq
import Derived.Deep.RegionHeld3
import Derived.Deep.AppendLies
import Derived.Deep.RegionLaw
namespace Go.Proofs.YtafjjececdhmjaaGreat
open Go.RowKit

/-- A pair of a name and a variable in a row. -/
structure PrC (w : World) (a o : Nat) (x : ByteArray × ByteArray) : Prop where
  c0 : w.cell? ⟨a, o, none⟩ = some (.string x.1)
  c1 : w.cell? ⟨a, o + 1, none⟩ = some (.string x.2)
  c2 : w.cell? ⟨a, o + 2, none⟩ = some (.int .i8 0)
  c3 : w.cell? ⟨a, o + 3, none⟩ = some (.int .i64 0)
  c4 : w.cell? ⟨a, o + 4, none⟩ = some (.string ⟨#[]⟩)
theorem PrC.up {w w' : World} {B a o : Nat} {x : ByteArray × ByteArray} (h : PrC w a o x) (hb : Below B w w') (ha : a < B) : PrC w' a o x :=
  ⟨(hb.cell (p := ⟨a, o, none⟩) ha).trans h.c0, (hb.cell (p := ⟨a, o + 1, none⟩) ha).trans h.c1, (hb.cell (p := ⟨a, o + 2, none⟩) ha).trans h.c2, (hb.cell (p := ⟨a, o + 3, none⟩) ha).trans h.c3, (hb.cell (p := ⟨a, o + 4, none⟩) ha).trans h.c4⟩
def PrsAt (w : World) (p : Option Addr) (l : List (ByteArray × ByteArray)) : Prop := l.length = 0 ∨ ∃ a o, p = some ⟨a, o, none⟩ ∧ a < w.heap.size ∧ ∀ i, (h : i < l.length) → PrC w a (o + i * 5) l[i]
theorem PrsAt.up {w w' : World} {p : Option Addr} {l : List (ByteArray × ByteArray)} (h : PrsAt w p l) (hb : Below w.heap.size w w') : PrsAt w' p l :=
  h.imp id fun ⟨a, o, hp, ha, hc⟩ => ⟨a, o, hp, Nat.lt_of_lt_of_le ha hb.size, fun i hi => (hc i hi).up hb ha⟩
theorem rhoP_first : ∀ (l : List (ByteArray × ByteArray)) (k : Nat) (h : k < l.length) (v : ByteArray), (∀ i, (hi : i < k) → (l[i]'(by omega)).1 ≠ v) → l[k].1 = v → rhoP l v = l[k].2
  | x :: r, 0, _, v, _, e => by
    have e' : x.1 = v := e
    show (if x.1 = v then x.2 else rhoP r v) = x.2
    rw [if_pos e']
  | x :: r, k + 1, h, v, hn, e => by
    have h' : k < r.length := by simpa using h
    have e' : ¬ x.1 = v := hn 0 (by omega)
    show (if x.1 = v then x.2 else rhoP r v) = r[k].2
    rw [if_neg e']
    exact rhoP_first r k h' v (fun i hi => hn (i + 1) (by omega)) e
theorem rhoP_none : ∀ (l : List (ByteArray × ByteArray)) (v : ByteArray), (∀ i, (hi : i < l.length) → l[i].1 ≠ v) → rhoP l v = v
  | [], _, _ => rfl
  | x :: r, v, h => by
    have e' : ¬ x.1 = v := h 0 (by simp)
    show (if x.1 = v then x.2 else rhoP r v) = v
    rw [if_neg e', rhoP_none r v fun i hi => h (i + 1) (by simpa using hi)]
theorem toList_ne {a b : ByteArray} (h : a ≠ b) : (a.toList == b.toList) = false := by
  refine beq_eq_false_iff_ne.2 fun h9 => h ?_
  rw [ByteArray.toList_eq, ByteArray.toList_eq] at h9
  exact bl_inj h9
set_option maxHeartbeats 4000000 in
theorem rPut (l : List (ByteArray × ByteArray)) (p : Option Addr) (c : Nat) (m : Tm) (w : World) (hl : PrsAt w p l) (hz : PutT m) (hn : l.length ≤ 10000) :
    Calls Tryz.prog 57 #[.slice p l.length c, m.agg] w fun e w' => e = .returned (rnTm (rhoP l) m).agg ∧ Below w.heap.size w w' := by
  obtain ⟨v, k, n, s⟩ := m
  have hr0 : ¬ Real ⟨v, ⟨k, n, s⟩⟩ → rnTm (rhoP l) ⟨v, ⟨k, n, s⟩⟩ = ⟨v, ⟨k, n, s⟩⟩ := rn_same
  have hr1 : Real ⟨v, ⟨k, n, s⟩⟩ → rnTm (rhoP l) ⟨v, ⟨k, n, s⟩⟩ = ⟨rhoP l v, ⟨k, n, s⟩⟩ := fun h => by
    show (⟨rnB (rhoP l) v, ⟨k, n, s⟩⟩ : Tm) = _
    rw [rnB_real h.1 h.2]
  unfold PutT at hz
  have HZ := Lib.hid hz; clear hz
  show Calls _ _ #[.slice p l.length c, .agg #[.string v, .int .i8 k, .int .i64 n, .string s]] w _
  obtain ⟨W, hW⟩ : ∃ W, W = (w.alloc (.cells #[.string v, .int .i8 k, .int .i64 n, .string s] 93)).alloc (.cells #[.string ⟨#[]⟩, .int .i8 0, .int .i64 0, .string ⟨#[]⟩] 93) := ⟨_, rfl⟩
  have HBW := Lib.hid (show Below w.heap.size w W by rw [hW]; exact (below_alloc _ _).trans ((below_alloc _ _).mono (by simp)))
  have hsW : W.heap.size = w.heap.size + 1 + 1 := by rw [hW]; simp
  have HB1 := Lib.hid (show W.heap[w.heap.size]? = some (.cells #[.string v, .int .i8 k, .int .i64 n, .string s] 93 (0, 0)) by
    have h1 := heap_alloc_new w (.cells #[.string v, .int .i8 k, .int .i64 n, .string s] 93)
    rw [hW]
    exact ((below_alloc (w.alloc _) _).block _ (by simp)).trans h1)
  have HB2 := Lib.hid (show W.heap[w.heap.size + 1]? = some (.cells #[.string ⟨#[]⟩, .int .i8 0, .int .i64 0, .string ⟨#[]⟩] 93 (0, 0)) by rw [hW]; simpa using heap_alloc_new (w.alloc _) _)
  have HL := Lib.hid (hl.up HBW.out); clear hl
  obtain ⟨x0, x1, x2, x3⟩ := four HB1.out
  have f0 : W.frozen? ⟨w.heap.size + 1, 0, none⟩ = false := Lib.frozen_of_heap HB2.out 0
  have f1 : W.frozen? ⟨w.heap.size + 1, 1, none⟩ = false := Lib.frozen_of_heap HB2.out 1
  have f2 : W.frozen? ⟨w.heap.size + 1, 2, none⟩ = false := Lib.frozen_of_heap HB2.out 2
  have f3 : W.frozen? ⟨w.heap.size + 1, 3, none⟩ = false := Lib.frozen_of_heap HB2.out 3
  by_cases h0 : v.toList.isEmpty = true
  · have HR := Lib.hid (hr0 fun h => h.1 (by rw [ByteArray.toList_eq] at h0; exact h0))
    clear hr0 hr1 hW HBW HB1 HB2 HL x0 x1 x2 x3 f0 f1 f2 f3 hsW
    go_enter Tryz.func57, Tryz.ntmps57
    go_wp2_with fail
    refine bodyPost_ret (v := .agg #[.string v, .int .i8 k, .int .i64 n, .string s]) (by simp [results, Tryz.results57, go_sem]) rfl ?_
    exact ⟨by rw [HR.out]; rfl, (below_alloc _ _).trans ((below_alloc _ _).mono (by simp))⟩
  have h0' : v.toList.isEmpty = false := by simpa using h0
  by_cases h95 : v.toList = [95]
  · have HR := Lib.hid (hr0 fun h => h.2 (by rw [ByteArray.toList_eq] at h95; exact h95))
    have q95 : (v.toList == [95]) = true := by simp [h95]
    clear hr0 hr1 h95 h0 hW HBW HB1 HB2 HL x0 x1 x2 x3 f0 f1 f2 f3 hsW
    go_enter Tryz.func57, Tryz.ntmps57
    go_wp2_with fail
    refine bodyPost_ret (v := .agg #[.string v, .int .i8 k, .int .i64 n, .string s]) (by simp [results, Tryz.results57, go_sem]) rfl ?_
    exact ⟨by rw [HR.out]; rfl, (below_alloc _ _).trans ((below_alloc _ _).mono (by simp))⟩
  have q95 : (v.toList == [95]) = false := by simpa using h95
  have hreal : Real ⟨v, ⟨k, n, s⟩⟩ := ⟨fun h => h0 (by rw [ByteArray.toList_eq]; exact h), fun h => h95 (by rw [ByteArray.toList_eq]; exact h)⟩
  have HR1 := Lib.hid (hr1 hreal)
  have hz := HZ.out hreal
  simp only [Vl.mk.injEq] at hz
  obtain ⟨rfl, rfl, rfl⟩ := hz
  clear hr0 hr1 h95 h0 hreal HZ
  go_enter Tryz.func57, Tryz.ntmps57
  go_wp2_with fail
  rw [← hW]
  clear hW
  clear x0 x1 x2 x3 f0 f1 f2 f3
  go_loopw [5] (fun i wr => ∃ j : Nat, j ≤ l.length ∧ i = .int .i64 j ∧ (∀ q, (h : q < l.length) → q < j → l[q].1 ≠ v) ∧ Below W.heap.size W wr) (fun i _ => l.length - (intOf i).toNat)
  case atStart => exact ⟨0, by omega, rfl, fun q _ h => by omega, Below.refl _ _⟩
  case round =>
    obtain ⟨j, hj, rfl, hno, hb⟩ := hrel
    have HNO := Lib.hid hno; clear hno
    have Hb := Lib.hid hb; clear hb
    rename World => wr
    have HC2 := Lib.hid ((Hb.out.block (w.heap.size + 1) (by omega)).trans HB2.out)
    obtain ⟨x0, x1, x2, x3⟩ := four ((Hb.out.block w.heap.size (by omega)).trans HB1.out)
    obtain ⟨y0, y1, y2, y3⟩ := four HC2.out
    have f0 : wr.frozen? ⟨w.heap.size + 1, 0, none⟩ = false := Lib.frozen_of_heap HC2.out 0
    have f1 : wr.frozen? ⟨w.heap.size + 1, 1, none⟩ = false := Lib.frozen_of_heap HC2.out 1
    have f2 : wr.frozen? ⟨w.heap.size + 1, 2, none⟩ = false := Lib.frozen_of_heap HC2.out 2
    have f3 : wr.frozen? ⟨w.heap.size + 1, 3, none⟩ = false := Lib.frozen_of_heap HC2.out 3
    by_cases hlt : j < l.length
    · rcases HL.out with hx | ⟨a, o, rfl, ha, hc⟩
      · omega
      · have hck := (hc j hlt).up Hb.out ha
        clear hc
        obtain ⟨y, hy⟩ : ∃ y, y = l[j] := ⟨_, rfl⟩
        rw [← hy] at hck
        obtain ⟨nm, nv⟩ := y
        obtain ⟨k0, k1, k2, k3, k4⟩ := hck
        simp only at k0 k1
        have hk0 : (0 : Int) ≤ (j : Int) := by omega
        have hki : (j : Int) < (l.length : Int) := by omega
        by_cases he : nm = v
        · have HE := Lib.hid (show rhoP l v = nv by
            have h1 := rhoP_first l j hlt v (fun i hi => HNO.out i (by omega) hi) (by rw [← hy]; exact he)
            rw [h1, ← hy])
          subst he
          clear hy
          have q : (nm.toList == nm.toList) = true := by simp
          go_wp2_with fail
          go_quiet (fail)
          go_wp2_with fail
          change bodyPost _ _ _ _ _ (put4 (wr.drewN nq) (w.heap.size + 1) 0 (.string nv) (.int .i8 0) (.int .i64 0) (.string ⟨#[]⟩))
          clear x0 x1 x2 x3 y0 y1 y2 y3 f0 f1 f2 f3
          have hb2 := put4_heap (w := (wr.drewN nq)) (show (wr.drewN nq).heap[w.heap.size + 1]? = _ from HC2.out)  0 (.string nv) (.int .i8 0) (.int .i64 0) (.string ⟨#[]⟩)
          have HBp := Lib.hid (put4_below (below_drewN (HBW.out.trans (Hb.out.mono (by omega))) nq) (Nat.le_succ _) 0 (.string nv) (.int .i8 0) (.int .i64 0) (.string ⟨#[]⟩))
          obtain ⟨W2, hW2⟩ : ∃ W2, W2 = put4 (wr.drewN nq) (w.heap.size + 1) 0 (.string nv) (.int .i8 0) (.int .i64 0) (.string ⟨#[]⟩) := ⟨_, rfl⟩
          rw [← hW2] at hb2 HBp ⊢
          clear hW2
          obtain ⟨z0, z1, z2, z3⟩ := four (show W2.heap[w.heap.size + 1]? = some (.cells #[(.string nv), (.int .i8 0), (.int .i64 0), (.string ⟨#[]⟩)] 93 (0, 0)) from hb2)
          refine bodyPost_ret (v := .agg #[(.string nv), (.int .i8 0), (.int .i64 0), (.string ⟨#[]⟩)]) (by simp [results, Tryz.results57, go_sem, z0, z1, z2, z3]) rfl ?_
          exact ⟨by rw [HR1.out, HE.out]; rfl, HBp.out⟩
        · have HE := Lib.hid (show ∀ q, (h : q < l.length) → q < j + 1 → l[q].1 ≠ v by
            intro q h hq
            by_cases e : q = j
            · subst e
              rw [← hy]
              exact he
            · exact HNO.out q h (by omega))
          have q := toList_ne he
          clear he hy
          go_wp2_with fail
          go_quiet (fail)
          go_wp2_with fail
          go_roundw
          case rel => exact ⟨j + 1, by omega, by go_num, HE.out, below_drewN Hb.out _⟩
          case measure => simp [intOf]; omega
    · obtain rfl : j = l.length := by omega
      have HE := Lib.hid (rhoP_none l v fun i hi => HNO.out i hi hi)
      go_wp2_with fail
      change bodyPost _ _ _ _ _ (put4 wr (w.heap.size + 1) 0 (.string v) (.int .i8 0) (.int .i64 0) (.string ⟨#[]⟩))
      clear x0 x1 x2 x3 y0 y1 y2 y3 f0 f1 f2 f3
      have hb2 := put4_heap (w := wr) HC2.out  0 (.string v) (.int .i8 0) (.int .i64 0) (.string ⟨#[]⟩)
      have HBp := Lib.hid (put4_below (HBW.out.trans (Hb.out.mono (by omega))) (Nat.le_succ _) 0 (.string v) (.int .i8 0) (.int .i64 0) (.string ⟨#[]⟩))
      obtain ⟨W2, hW2⟩ : ∃ W2, W2 = put4 wr (w.heap.size + 1) 0 (.string v) (.int .i8 0) (.int .i64 0) (.string ⟨#[]⟩) := ⟨_, rfl⟩
      rw [← hW2] at hb2 HBp ⊢
      clear hW2
      obtain ⟨z0, z1, z2, z3⟩ := four (show W2.heap[w.heap.size + 1]? = some (.cells #[(.string v), (.int .i8 0), (.int .i64 0), (.string ⟨#[]⟩)] 93 (0, 0)) from hb2)
      refine bodyPost_ret (v := .agg #[(.string v), (.int .i8 0), (.int .i64 0), (.string ⟨#[]⟩)]) (by simp [results, Tryz.results57, go_sem, z0, z1, z2, z3]) rfl ?_
      exact ⟨by rw [HR1.out, HE.out]; rfl, HBp.out⟩
end Go.Proofs.YtafjjececdhmjaaGreat

namespace Go.Proofs.YtafjjececdhmjaaGreat
open Go.RowKit

theorem rCanonical (n : Nat) (hn : n < 100) (w : World) :
    Calls Tryz.prog 28 #[.int .i64 n] w fun e w' => e = .returned (.string (cano n)) ∧ Below w.heap.size w w' := by
  have HE := Lib.hid (show (⟨#[86]⟩ ++ ⟨(Lib.itoa (n : Int)).toArray⟩ : ByteArray) = cano n by
    refine bl_inj ?_
    rw [one_string]
    rfl)
  go_enter Tryz.func28, Tryz.ntmps28
  go_wp2_with fail
  refine (rDigits (n : Int) (by omega) (by omega) _).mono ?_
  rintro e w1 ⟨rfl, hb⟩
  have Hb := Lib.hid hb; clear hb
  obtain ⟨s, hs⟩ : ∃ s : ByteArray, s = ⟨(Lib.itoa (n : Int)).toArray⟩ := ⟨_, rfl⟩
  have hss : s.size ≤ 2 := by
    rw [hs]
    unfold Lib.itoa
    rw [if_neg (by omega), Int.toNat_natCast, dec_small hn]
    split <;> simp [ByteArray.size]
  rw [← hs] at HE ⊢
  clear hs
  go_wp2_with fail
  go_ret
  exact ⟨congrArg (fun x => Ending.returned (.string x)) HE.out, Hb.out⟩
theorem grown_none {w w' : World} (h : Below w.heap.size w w') : w.grownBy w' none := ⟨h.os, h.tape, h.output, h.size, fun k hk _ => h.block k hk⟩
theorem ownR_up {w w' : World} {B n k : Nat} {e : TypeId} {v : Value} {xs : List Value} (h : w.ownsRow B e k v n xs) (hb : Below w.heap.size w w') : w'.ownsRow B e k v n xs := by
  refine ⟨h.1, ?_⟩
  rcases h.2 with h2 | ⟨g, cap, cur, hv, hB, hg2, h3⟩
  · exact .inl h2
  · exact .inr ⟨g, cap, cur, hv, hB, (hb.block g (Array.getElem?_eq_some_iff.1 hg2).1).trans hg2, h3⟩
theorem ownR_nil (w : World) (B k : Nat) (e : TypeId) : w.ownsRow B e k (.slice none 0 0) 0 [] := ⟨by simp, .inl ⟨rfl, rfl⟩⟩
theorem ap_below {B n k : Nat} {e : TypeId} {v : Value} {xs : List Value} {o : Obj} {wr w1 w2 : World} (hb : Below wr.heap.size wr w1) (hB : B ≤ wr.heap.size) (hown : w1.ownsRow B e k v n xs) (hg : (w1.alloc o).grownBy w2 v.ownBlock) : Below B wr w2 :=
  have h1 := hb.size
  ((hb.mono hB).alloc (by omega) o).grown hg (by simp; omega) fun _ hg => (ownR_lt hown hg).1
theorem ownR_set {w : World} {B n k b o : Nat} {e : TypeId} {v x : Value} {xs : List Value} (h : w.ownsRow B e k v n xs) (hb : b < B) : (w.setCell ⟨b, o, none⟩ x).ownsRow B e k v n xs := by
  refine ⟨h.1, ?_⟩
  rcases h.2 with h2 | ⟨g, cap, cur, hv, hB, hg2, h3⟩
  · exact .inl h2
  · exact .inr ⟨g, cap, cur, hv, hB, (Below.heap_setCell _ _ _ _ (show g ≠ (⟨b, o, none⟩ : Addr).block from fun e => by have e' : g = b := e; omega)).trans hg2, h3⟩
/-- Where the row of an answer grows whose header lies in block b. -/
structure ApR (ρ : ByteArray → ByteArray) (pr : ByteArray) (ts : List Tm) (w : World) (b j : Nat) (v : Value) (wr : World) : Prop where
  b_ : wr.heap[b]? = some (.cells #[.string pr, v] 26 (0, 0))
  r_ : wr.ownsRow (b + 1) 93 4 v j (tmsC ((ts.take j).map (rnTm ρ)))
  u_ : Below b w wr
theorem tmsC_snoc (l : List Tm) (m : Tm) : tmsC (l ++ [m]) = tmsC l ++ m.cells := by simp [tmsC]
theorem rowR_sl {w : World} {B n : Nat} {v : Value} {l : List Tm} (h : w.ownsRow B 93 4 v n (tmsC l)) (hl : l.length = n) (hn : n ≤ 10000) : TmSl w v l := by
  subst hl
  exact row_sl (World.ownsRowF_of h) hn
theorem two {w : World} {b : Nat} {x0 x1 : Value} {t : TypeId} {fz : Nat × Nat} (h : w.heap[b]? = some (.cells #[x0, x1] t fz)) : w.cell? ⟨b, 0, none⟩ = some x0 ∧ w.cell? ⟨b, 1, none⟩ = some x1 :=
  ⟨by rw [Lib.cell_of_heap h]; rfl, by rw [Lib.cell_of_heap h]; rfl⟩
theorem ApR.next {ρ : ByteArray → ByteArray} {pr : ByteArray} {ts : List Tm} {w : World} {b j : Nat} {v v' : Value} {wr w2 : World} {m : Tm} (h : ApR ρ pr ts w b j v wr) (hst : tmsC ((ts.take (j + 1)).map (rnTm ρ)) = tmsC ((ts.take j).map (rnTm ρ)) ++ m.cells)
    (hb : Below (b + 1) wr w2) (hown : w2.ownsRow (b + 1) 93 4 v' (j + 1) (tmsC ((ts.take j).map (rnTm ρ)) ++ m.cells)) : ApR ρ pr ts w b (j + 1) v' (w2.setCell ⟨b, 1, none⟩ v') := by
  have h1 := (hb.block b (Nat.lt_succ_self b)).trans h.b_
  refine ⟨?_, ?_, ?_⟩
  · simp [World.setCell, Array.getElem?_modify, h1]
  · rw [hst]
    exact ownR_set hown (Nat.lt_succ_self b)
  · exact (h.u_.trans (hb.mono (by omega))).setCell (p := ⟨b, 1, none⟩) (Nat.le_refl b) v'
set_option maxRecDepth 100000 in
set_option maxHeartbeats 4000000 in
theorem rApply (l : List (ByteArray × ByteArray)) (p : Option Addr) (c : Nat) (pr : ByteArray) (ts : List Tm) (q : Option Addr) (tc : Nat) (w : World) (hl : PrsAt w p l) (hn : l.length ≤ 10000)
    (hts : ts.length = 0 ∨ ∃ a o, q = some ⟨a, o, none⟩ ∧ TmsAt w a o ts) (hz : ∀ t ∈ ts, PutT t) (ht : ts.length ≤ 24) :
    Calls Tryz.prog 33 #[.slice p l.length c, .agg #[.string pr, .slice q ts.length tc]] w fun e w' => ∃ sv, e = .returned (.agg #[.string pr, sv]) ∧ TmSl w' sv (ts.map (rnTm (rhoP l))) ∧ (∀ g, sv.ownBlock = some g → w.heap.size ≤ g ∧ g < w'.heap.size) ∧ Below w.heap.size w w' := by
  obtain ⟨i0, hi, hzz⟩ := Option.map_eq_some_iff.1 infoTm
  simp only [Prod.mk.injEq] at hzz
  obtain ⟨hz0, hz1, hz2⟩ := hzz
  have HI := Lib.hid hi; clear hi
  have HZ0 := Lib.hid hz0; clear hz0
  have HZ1 := Lib.hid hz1; clear hz1
  have HZ2 := Lib.hid hz2; clear hz2
  have HT := Lib.hid hts; clear hts
  have HZ := Lib.hid hz; clear hz
  obtain ⟨V, hV⟩ : ∃ V, V = (w.alloc (.cells #[.string pr, .slice q ts.length tc] 26)).alloc (.cells #[.string ⟨#[]⟩, .slice none 0 0] 26) := ⟨_, rfl⟩
  have HBV := Lib.hid (show Below w.heap.size w V by rw [hV]; exact (below_alloc _ _).trans ((below_alloc _ _).mono (by simp)))
  have hsV : V.heap.size = w.heap.size + 1 + 1 := by rw [hV]; simp
  have HB1 := Lib.hid (show V.heap[w.heap.size]? = some (.cells #[.string pr, .slice q ts.length tc] 26 (0, 0)) by
    have h1 := heap_alloc_new w (.cells #[.string pr, .slice q ts.length tc] 26)
    rw [hV]
    exact ((below_alloc (w.alloc _) _).block _ (by simp)).trans h1)
  have HB2 := Lib.hid (show V.heap[w.heap.size + 1]? = some (.cells #[.string ⟨#[]⟩, .slice none 0 0] 26 (0, 0)) by rw [hV]; simpa using heap_alloc_new (w.alloc _) _)
  obtain ⟨W, hW⟩ : ∃ W, W = V.alloc (.cells #[.string pr, .slice none 0 0] 26) := ⟨_, rfl⟩
  have HRW := Lib.hid (show ApR (rhoP l) pr ts V (w.heap.size + 1 + 1) 0 (.slice none 0 0) W by
    rw [hW, ← hsV]
    exact ⟨heap_alloc_new V _, ownR_nil _ _ _ _, below_alloc _ _⟩)
  go_enter Tryz.func33, Tryz.ntmps33
  go_wp2_with fail
  rw [← hV]
  rw [← hW]
  clear hV hW
  go_loopw [6] (fun i wr => ∃ (j : Nat) (v : Value), j ≤ ts.length ∧ i = .int .i64 j ∧ ApR (rhoP l) pr ts V (w.heap.size + 1 + 1) j v wr) (fun i _ => ts.length - (intOf i).toNat)
  case atStart => exact ⟨0, _, by omega, rfl, HRW.out⟩
  case round =>
    obtain ⟨j, v, hj, rfl, hr⟩ := hrel
    have HR := Lib.hid hr; clear hr
    rename World => wr
    have hsz := HR.out.u_.size
    obtain ⟨x0, x1⟩ := two ((HR.out.u_.block w.heap.size (by omega)).trans HB1.out)
    obtain ⟨y0, y1⟩ := two HR.out.b_
    obtain ⟨pv, cv, rfl⟩ := ownR_slice HR.out.r_
    have f1 : wr.frozen? ⟨w.heap.size + 1 + 1, 1, none⟩ = false := Lib.frozen_of_heap HR.out.b_ 1
    by_cases hlt : j < ts.length
    · rcases HT.out with hx | ⟨a, o, rfl, hta⟩
      · omega
      · have hck := (hta.at_ j hlt).up (HBV.out.trans (HR.out.u_.mono (by omega))) hta.lt
        have hal := hta.lt
        clear hta
        have HPUT := Lib.hid fun V' (hV' : Below wr.heap.size wr V') => rPut l p c ts[j] V' (hl.up (HBV.out.trans ((HR.out.u_.mono (by omega)).trans (hV'.mono (by omega))))) (HZ.out _ (List.getElem_mem hlt)) hn
        have HST := Lib.hid (show tmsC ((ts.take (j + 1)).map (rnTm (rhoP l))) = tmsC ((ts.take j).map (rnTm (rhoP l))) ++ (rnTm (rhoP l) ts[j]).cells by
          rw [List.take_succ_eq_append_getElem hlt, List.map_append, List.map_cons, List.map_nil, tmsC_snoc])
        obtain ⟨y, hy⟩ : ∃ y, y = ts[j] := ⟨_, rfl⟩
        rw [← hy] at hck HPUT HST
        obtain ⟨u, hu⟩ : ∃ u, u = rnTm (rhoP l) y := ⟨_, rfl⟩
        rw [← hu] at HPUT HST
        clear hy hu
        obtain ⟨yv, ⟨yk, yn, ys⟩⟩ := y
        obtain ⟨uv, ⟨uk, un, us⟩⟩ := u
        obtain ⟨k0, k1, k2, k3⟩ := hck
        simp only at k0 k1 k2 k3
        have HPUT := Lib.hid (show ∀ V' : World, Below wr.heap.size wr V' → Calls Tryz.prog 57 #[.slice p l.length c, .agg #[.string yv, .int .i8 yk, .int .i64 yn, .string ys]] V' fun e w' => e = .returned (.agg #[.string uv, .int .i8 uk, .int .i64 un, .string us]) ∧ Below V'.heap.size V' w' from HPUT.out)
        have hk0 : (0 : Int) ≤ (j : Int) := by omega
        have hki : (j : Int) < (ts.length : Int) := by omega
        have hb5 : w.heap.size + 1 + 1 < wr.heap.size := (Array.getElem?_eq_some_iff.1 HR.out.b_).1
        have hb3 : w.heap.size < wr.heap.size := by omega
        have hba : a < wr.heap.size := by omega
        have haw : a < w.heap.size := hal
        go_wp2_with fail
        have y1a := y1
        have f1a := f1
        go_region_law
          (first
            | (go_simp
               go_at_call 57
               refine (HPUT.out _ ?_).mono ?_
               · exact ⟨rfl, rfl, rfl, Nat.le_refl _, fun _ _ => rfl⟩
               rintro r w1 ⟨rfl, hb1⟩
               have Hb := Lib.hid (show Below wr.heap.size wr w1 from ⟨hb1.os, hb1.tape, hb1.output, hb1.size, hb1.block⟩)
               clear hb1
               have HO := Lib.hid (ownR_up HR.out.r_ Hb.out)
               have HS1 := Lib.hid Hb.out.size
               have x1 := (Hb.out.cell (p := ⟨w.heap.size, 1, none⟩) hb3).trans x1
               have y1 := (Hb.out.cell (p := ⟨w.heap.size + 1 + 1, 1, none⟩) hb5).trans y1
               have f1 := (Hb.out.frozen (p := ⟨w.heap.size + 1 + 1, 1, none⟩) hb5).trans f1
               have nn : ∀ (cs : Array Value) (t : TypeId) (f : Nat × Nat), (w1.alloc (.cells cs t f)).cell? ⟨w.heap.size + 1 + 1, 1, none⟩ = some (.slice pv j cv) := fun cs t f => ((below_alloc w1 (.cells cs t f)).cell (p := ⟨w.heap.size + 1 + 1, 1, none⟩) (Nat.lt_of_lt_of_le hb5 HS1.out)).trans y1
               dsimp only)
            | (refine step_append_lies _ (by rfl) _ _ _ (by rfl) (w.heap.size + 1 + 1 + 1) 93 i0 _ 4 48 Tryz.underlying24 HI.out HZ0.out HZ1.out HZ2.out rfl (by decide) (.slice pv j cv) j _ (by rfl) (ownR_alloc HO.out _) ⟨w1.heap.size, 0, none⟩ 1 1 [.string uv, .int .i8 uk, .int .i64 un, .string us] (by rfl) (by rfl) (World.news_of_block (cs := #[.string uv, .int .i8 uk, .int .i64 un, .string us]) (t := 93) (fr := (0, 0)) (heap_alloc_new w1 _)) (by simp [Value.oneCell']) (by omega) (by unfold maxLen; omega) (by omega) (by have := HS1.out; simp; omega) (w1.heap.size + 1) (by simp) ?_
               intro g cap w2 hown2 hgrow hat hlt2
               have Hb2 := Lib.hid (show Below (w.heap.size + 1 + 1 + 1) wr w2 from ap_below Hb.out (Nat.succ_le_of_lt hb5) HO.out hgrow)
               have HG := Lib.hid hat
               have y1 := (Hb2.out.cell (p := ⟨w.heap.size + 1 + 1, 1, none⟩) (Nat.lt_succ_self _)).trans y1a
               have f1 := (Hb2.out.frozen (p := ⟨w.heap.size + 1 + 1, 1, none⟩) (Nat.lt_succ_self _)).trans f1a
               clear hat hgrow))
        all_goals
          have HF := Lib.hid (HR.out.next HST.out Hb2.out hown2)
          clear x0 x1 y0 y1 f1 y1a f1a k0 k1 k2 k3 nn hown2
          go_wp2_with fail
          go_roundw
          case rel => exact ⟨j + 1, _, by omega, by go_num, HF.out⟩
          case measure => simp [intOf]; omega
    · obtain rfl : j = ts.length := by omega
      have HC4 := Lib.hid ((HR.out.u_.block (w.heap.size + 1) (by omega)).trans HB2.out)
      obtain ⟨z0, z1⟩ := two HC4.out
      have g0 : wr.frozen? ⟨w.heap.size + 1, 0, none⟩ = false := Lib.frozen_of_heap HC4.out 0
      have g1 : wr.frozen? ⟨w.heap.size + 1, 1, none⟩ = false := Lib.frozen_of_heap HC4.out 1
      have HW := Lib.hid (show Below w.heap.size w ((wr.setCell ⟨w.heap.size + 1, 0, none⟩ (.string pr)).setCell ⟨w.heap.size + 1, 1, none⟩ (.slice pv ts.length cv)) from
        ((HBV.out.trans (HR.out.u_.mono (by omega))).setCell (p := ⟨w.heap.size + 1, 0, none⟩) (Nat.le_succ _) _).setCell (p := ⟨w.heap.size + 1, 1, none⟩) (Nat.le_succ _) _)
      have HS := Lib.hid (show TmSl ((wr.setCell ⟨w.heap.size + 1, 0, none⟩ (.string pr)).setCell ⟨w.heap.size + 1, 1, none⟩ (.slice pv ts.length cv)) (.slice pv ts.length cv) (ts.map (rnTm (rhoP l))) by
        have h1 := ownR_set (b := w.heap.size + 1) (o := 1) (x := .slice pv ts.length cv) (ownR_set (b := w.heap.size + 1) (o := 0) (x := .string pr) HR.out.r_ (by omega)) (by omega)
        rw [List.take_of_length_le (Nat.le_refl _)] at h1
        exact rowR_sl h1 (by rw [List.length_map]) (by omega))
      have HOB := Lib.hid (show ∀ g, (Value.slice pv ts.length cv).ownBlock = some g → w.heap.size ≤ g ∧ g < ((wr.setCell ⟨w.heap.size + 1, 0, none⟩ (.string pr)).setCell ⟨w.heap.size + 1, 1, none⟩ (.slice pv ts.length cv)).heap.size from fun g hg => by have := ownR_lt HR.out.r_ hg; simp [World.setCell]; omega)
      go_wp2_with fail
      refine bodyPost_ret (v := .agg #[.string pr, .slice pv ts.length cv]) (by simp [results, Tryz.results33, go_sem, z0, z1]) rfl ?_
      exact ⟨_, rfl, HS.out, HOB.out, HW.out⟩
end Go.Proofs.YtafjjececdhmjaaGreat
