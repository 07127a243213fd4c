/- Assignments of values to variables, put into terms: the reference's Put and Apply at pairs of a name and a value. The reference's Bound, and its Eval at a lone term: the value that a name is bound to. The contracts of power and many: where many answers no, the facts' number to the power of the positive literals is below a million. Conditions: the pairs and the terms lie in memory as they are told; no more than 24 terms. the assignment and the term lie in memory as they are told. the body lies in memory as it is told, at most 16 literals; at most 2^20 facts. -/
import Derived.Test.YtafjjececdhmjaaGreatNKm
import Derived.Test.YtafjjececdhmjaaGreatNMF
import Derived.Test.YtafjjececdhmjaaGreatNKo
import Derived.BigQuiet
import Derived.Test.YtafjjececdhmjaaGreatNKu
namespace Go.Proofs.YtafjjececdhmjaaGreat
open Go.RowKit

/-- What a name is bound to: the first that is so named. -/
def bnd : List Tm → ByteArray → Option Vl
  | [], _ => none
  | b :: r, v => if b.v = v then some b.x else bnd r v
/-- A term with its variable replaced by what it is bound to. -/
def sgm (l : List Tm) (t : Tm) : Tm := if (bl t.v).isEmpty ∨ bl t.v = [95] then t else match bnd l t.v with
  | some x => ⟨⟨#[]⟩, x⟩
  | none => t
/-- A pair of a name and a value in a row. -/
structure PrB (w : World) (a o : Nat) (x : Tm) : Prop where
  c0 : w.cell? ⟨a, o, none⟩ = some (.string x.v)
  c1 : w.cell? ⟨a, o + 1, none⟩ = some (.string ⟨#[]⟩)
  c2 : w.cell? ⟨a, o + 2, none⟩ = some (.int .i8 x.x.k)
  c3 : w.cell? ⟨a, o + 3, none⟩ = some (.int .i64 x.x.n)
  c4 : w.cell? ⟨a, o + 4, none⟩ = some (.string x.x.t)
theorem PrB.up {w w' : World} {B a o : Nat} {x : Tm} (h : PrB w a o x) (hb : Below B w w') (ha : a < B) : PrB w' a o x :=
  ⟨(hb.cell (p := ⟨a, o, none⟩) ha).trans h.c0, (hb.cell (p := ⟨a, o + 1, none⟩) ha).trans h.c1, (hb.cell (p := ⟨a, o + 2, none⟩) ha).trans h.c2, (hb.cell (p := ⟨a, o + 3, none⟩) ha).trans h.c3, (hb.cell (p := ⟨a, o + 4, none⟩) ha).trans h.c4⟩
def BdsAt (w : World) (p : Option Addr) (l : List Tm) : Prop := l.length = 0 ∨ ∃ a o, p = some ⟨a, o, none⟩ ∧ a < w.heap.size ∧ ∀ i, (h : i < l.length) → PrB w a (o + i * 5) l[i]
theorem BdsAt.up {w w' : World} {p : Option Addr} {l : List Tm} (h : BdsAt w p l) (hb : Below w.heap.size w w') : BdsAt w' p l :=
  h.imp id fun ⟨a, o, hp, ha, hc⟩ => ⟨a, o, hp, Nat.lt_of_lt_of_le ha hb.size, fun i hi => (hc i hi).up hb ha⟩
theorem bnd_first : ∀ (l : List Tm) (k : Nat) (h : k < l.length) (v : ByteArray), (∀ i, (hi : i < k) → (l[i]'(by omega)).v ≠ v) → l[k].v = v → bnd l v = some l[k].x
  | x :: r, 0, _, v, _, e => by
    have e' : x.v = v := e
    show (if x.v = v then some x.x else bnd r v) = some x.x
    rw [if_pos e']
  | x :: r, k + 1, h, v, hn, e => by
    have h' : k < r.length := by simpa using h
    have e' : ¬ x.v = v := hn 0 (by omega)
    show (if x.v = v then some x.x else bnd r v) = some r[k].x
    rw [if_neg e']
    exact bnd_first r k h' v (fun i hi => hn (i + 1) (by omega)) e
theorem bnd_none : ∀ (l : List Tm) (v : ByteArray), (∀ i, (hi : i < l.length) → l[i].v ≠ v) → bnd l v = none
  | [], _, _ => rfl
  | x :: r, v, h => by
    have e' : ¬ x.v = v := h 0 (by simp)
    show (if x.v = v then some x.x else bnd r v) = none
    rw [if_neg e', bnd_none r v fun i hi => h (i + 1) (by simpa using hi)]
set_option maxHeartbeats 4000000 in
theorem rPut2 (l : List Tm) (p : Option Addr) (c : Nat) (m : Tm) (w : World) (hl : BdsAt w p l) (hn : l.length ≤ 10000) :
    Calls Tryz.prog 57 #[.slice p l.length c, m.agg] w fun e w' => e = .returned (sgm l m).agg ∧ Below w.heap.size w w' := by
  obtain ⟨v, k, n, s⟩ := m
  have hr0 : ¬ Real ⟨v, ⟨k, n, s⟩⟩ → sgm l ⟨v, ⟨k, n, s⟩⟩ = ⟨v, ⟨k, n, s⟩⟩ := fun h => by
    unfold sgm
    rw [if_pos]
    by_cases h1 : (bl v).isEmpty = true
    · exact .inl h1
    · by_cases h2 : bl v = [95]
      · exact .inr h2
      · exact absurd ⟨h1, h2⟩ h
  have hr1 : Real ⟨v, ⟨k, n, s⟩⟩ → sgm l ⟨v, ⟨k, n, s⟩⟩ = match bnd l v with
      | some x => ⟨⟨#[]⟩, x⟩
      | none => ⟨v, ⟨k, n, s⟩⟩ := fun h => by
    unfold sgm
    rw [if_neg]
    rintro (h1 | h1)
    · exact h.1 h1
    · exact h.2 h1
  show Calls _ _ #[.slice p l.length c, .agg #[.string v, .int .i8 k, .int .i64 n, .string s]] w _
  obtain ⟨W, hW⟩ : ∃ W, W = (w.alloc (.cells #[.string v, .int .i8 k, .int .i64 n, .string s] 93)).alloc (.cells #[.string ⟨#[]⟩, .int .i8 0, .int .i64 0, .string ⟨#[]⟩] 93) := ⟨_, rfl⟩
  have HBW := Lib.hid (show Below w.heap.size w W by rw [hW]; exact (below_alloc _ _).trans ((below_alloc _ _).mono (by simp)))
  have hsW : W.heap.size = w.heap.size + 1 + 1 := by rw [hW]; simp
  have HB1 := Lib.hid (show W.heap[w.heap.size]? = some (.cells #[.string v, .int .i8 k, .int .i64 n, .string s] 93 (0, 0)) by
    have h1 := heap_alloc_new w (.cells #[.string v, .int .i8 k, .int .i64 n, .string s] 93)
    rw [hW]
    exact ((below_alloc (w.alloc _) _).block _ (by simp)).trans h1)
  have HB2 := Lib.hid (show W.heap[w.heap.size + 1]? = some (.cells #[.string ⟨#[]⟩, .int .i8 0, .int .i64 0, .string ⟨#[]⟩] 93 (0, 0)) by rw [hW]; simpa using heap_alloc_new (w.alloc _) _)
  have HL := Lib.hid (hl.up HBW.out); clear hl
  obtain ⟨x0, x1, x2, x3⟩ := four HB1.out
  have f0 : W.frozen? ⟨w.heap.size + 1, 0, none⟩ = false := Lib.frozen_of_heap HB2.out 0
  have f1 : W.frozen? ⟨w.heap.size + 1, 1, none⟩ = false := Lib.frozen_of_heap HB2.out 1
  have f2 : W.frozen? ⟨w.heap.size + 1, 2, none⟩ = false := Lib.frozen_of_heap HB2.out 2
  have f3 : W.frozen? ⟨w.heap.size + 1, 3, none⟩ = false := Lib.frozen_of_heap HB2.out 3
  by_cases h0 : v.toList.isEmpty = true
  · have HR := Lib.hid (hr0 fun h => h.1 (by rw [ByteArray.toList_eq] at h0; exact h0))
    clear hr0 hr1 hW HBW HB1 HB2 HL x0 x1 x2 x3 f0 f1 f2 f3 hsW
    go_enter Tryz.func57, Tryz.ntmps57
    go_wp2_with fail
    refine bodyPost_ret (v := .agg #[.string v, .int .i8 k, .int .i64 n, .string s]) (by simp [results, Tryz.results57, go_sem]) rfl ?_
    exact ⟨by rw [HR.out]; rfl, (below_alloc _ _).trans ((below_alloc _ _).mono (by simp))⟩
  have h0' : v.toList.isEmpty = false := by simpa using h0
  by_cases h95 : v.toList = [95]
  · have HR := Lib.hid (hr0 fun h => h.2 (by rw [ByteArray.toList_eq] at h95; exact h95))
    have q95 : (v.toList == [95]) = true := by simp [h95]
    clear hr0 hr1 h95 h0 hW HBW HB1 HB2 HL x0 x1 x2 x3 f0 f1 f2 f3 hsW
    go_enter Tryz.func57, Tryz.ntmps57
    go_wp2_with fail
    refine bodyPost_ret (v := .agg #[.string v, .int .i8 k, .int .i64 n, .string s]) (by simp [results, Tryz.results57, go_sem]) rfl ?_
    exact ⟨by rw [HR.out]; rfl, (below_alloc _ _).trans ((below_alloc _ _).mono (by simp))⟩
  have q95 : (v.toList == [95]) = false := by simpa using h95
  have hreal : Real ⟨v, ⟨k, n, s⟩⟩ := ⟨fun h => h0 (by rw [ByteArray.toList_eq]; exact h), fun h => h95 (by rw [ByteArray.toList_eq]; exact h)⟩
  have HR1 := Lib.hid (hr1 hreal)
  clear hr0 hr1 h95 h0 hreal
  go_enter Tryz.func57, Tryz.ntmps57
  go_wp2_with fail
  rw [← hW]
  clear hW
  clear x0 x1 x2 x3 f0 f1 f2 f3
  go_loopw [5] (fun i wr => ∃ j : Nat, j ≤ l.length ∧ i = .int .i64 j ∧ (∀ q, (h : q < l.length) → q < j → l[q].v ≠ v) ∧ Below W.heap.size W wr) (fun i _ => l.length - (intOf i).toNat)
  case atStart => exact ⟨0, by omega, rfl, fun q _ h => by omega, Below.refl _ _⟩
  case round =>
    obtain ⟨j, hj, rfl, hno, hb⟩ := hrel
    have HNO := Lib.hid hno; clear hno
    have Hb := Lib.hid hb; clear hb
    rename World => wr
    have HC2 := Lib.hid ((Hb.out.block (w.heap.size + 1) (by omega)).trans HB2.out)
    obtain ⟨x0, x1, x2, x3⟩ := four ((Hb.out.block w.heap.size (by omega)).trans HB1.out)
    obtain ⟨y0, y1, y2, y3⟩ := four HC2.out
    have f0 : wr.frozen? ⟨w.heap.size + 1, 0, none⟩ = false := Lib.frozen_of_heap HC2.out 0
    have f1 : wr.frozen? ⟨w.heap.size + 1, 1, none⟩ = false := Lib.frozen_of_heap HC2.out 1
    have f2 : wr.frozen? ⟨w.heap.size + 1, 2, none⟩ = false := Lib.frozen_of_heap HC2.out 2
    have f3 : wr.frozen? ⟨w.heap.size + 1, 3, none⟩ = false := Lib.frozen_of_heap HC2.out 3
    by_cases hlt : j < l.length
    · rcases HL.out with hx | ⟨a, o, rfl, ha, hc⟩
      · omega
      · have hck := (hc j hlt).up Hb.out ha
        clear hc
        obtain ⟨y, hy⟩ : ∃ y, y = l[j] := ⟨_, rfl⟩
        rw [← hy] at hck
        obtain ⟨nm, ⟨nk, nn, nt⟩⟩ := y
        obtain ⟨k0, k1, k2, k3, k4⟩ := hck
        simp only at k0 k1 k2 k3 k4
        have hk0 : (0 : Int) ≤ (j : Int) := by omega
        have hki : (j : Int) < (l.length : Int) := by omega
        by_cases he : nm = v
        · have HE := Lib.hid (show bnd l v = some ⟨nk, nn, nt⟩ by
            have h1 := bnd_first l j hlt v (fun i hi => HNO.out i (by omega) hi) (by rw [← hy]; exact he)
            rw [h1, ← hy])
          subst he
          clear hy
          have q : (nm.toList == nm.toList) = true := by simp
          go_wp2_with fail
          go_quiet (fail)
          go_wp2_with fail
          change bodyPost _ _ _ _ _ (put4 (wr.drewN nq) (w.heap.size + 1) 0 (.string ⟨#[]⟩) (.int .i8 nk) (.int .i64 nn) (.string nt))
          clear x0 x1 x2 x3 y0 y1 y2 y3 f0 f1 f2 f3
          have hb2 := put4_heap (w := (wr.drewN nq)) (show (wr.drewN nq).heap[w.heap.size + 1]? = _ from HC2.out)  0 (.string ⟨#[]⟩) (.int .i8 nk) (.int .i64 nn) (.string nt)
          have HBp := Lib.hid (put4_below (below_drewN (HBW.out.trans (Hb.out.mono (by omega))) nq) (Nat.le_succ _) 0 (.string ⟨#[]⟩) (.int .i8 nk) (.int .i64 nn) (.string nt))
          obtain ⟨W2, hW2⟩ : ∃ W2, W2 = put4 (wr.drewN nq) (w.heap.size + 1) 0 (.string ⟨#[]⟩) (.int .i8 nk) (.int .i64 nn) (.string nt) := ⟨_, rfl⟩
          rw [← hW2] at hb2 HBp ⊢
          clear hW2
          obtain ⟨z0, z1, z2, z3⟩ := four (show W2.heap[w.heap.size + 1]? = some (.cells #[(.string ⟨#[]⟩), (.int .i8 nk), (.int .i64 nn), (.string nt)] 93 (0, 0)) from hb2)
          refine bodyPost_ret (v := .agg #[(.string ⟨#[]⟩), (.int .i8 nk), (.int .i64 nn), (.string nt)]) (by simp [results, Tryz.results57, go_sem, z0, z1, z2, z3]) rfl ?_
          exact ⟨by rw [HR1.out, HE.out]; rfl, HBp.out⟩
        · have HE := Lib.hid (show ∀ q, (h : q < l.length) → q < j + 1 → l[q].v ≠ v by
            intro q h hq
            by_cases e : q = j
            · subst e
              rw [← hy]
              exact he
            · exact HNO.out q h (by omega))
          have q := toList_ne he
          clear he hy
          go_wp2_with fail
          go_quiet (fail)
          go_wp2_with fail
          go_roundw
          case rel => exact ⟨j + 1, by omega, by go_num, HE.out, below_drewN Hb.out _⟩
          case measure => simp [intOf]; omega
    · obtain rfl : j = l.length := by omega
      have HE := Lib.hid (bnd_none l v fun i hi => HNO.out i hi hi)
      go_wp2_with fail
      change bodyPost _ _ _ _ _ (put4 wr (w.heap.size + 1) 0 (.string v) (.int .i8 k) (.int .i64 n) (.string s))
      clear x0 x1 x2 x3 y0 y1 y2 y3 f0 f1 f2 f3
      have hb2 := put4_heap (w := wr) HC2.out  0 (.string v) (.int .i8 k) (.int .i64 n) (.string s)
      have HBp := Lib.hid (put4_below (HBW.out.trans (Hb.out.mono (by omega))) (Nat.le_succ _) 0 (.string v) (.int .i8 k) (.int .i64 n) (.string s))
      obtain ⟨W2, hW2⟩ : ∃ W2, W2 = put4 wr (w.heap.size + 1) 0 (.string v) (.int .i8 k) (.int .i64 n) (.string s) := ⟨_, rfl⟩
      rw [← hW2] at hb2 HBp ⊢
      clear hW2
      obtain ⟨z0, z1, z2, z3⟩ := four (show W2.heap[w.heap.size + 1]? = some (.cells #[(.string v), (.int .i8 k), (.int .i64 n), (.string s)] 93 (0, 0)) from hb2)
      refine bodyPost_ret (v := .agg #[(.string v), (.int .i8 k), (.int .i64 n), (.string s)]) (by simp [results, Tryz.results57, go_sem, z0, z1, z2, z3]) rfl ?_
      exact ⟨by rw [HR1.out, HE.out]; rfl, HBp.out⟩
/-- Where the row of an answer grows whose header lies in block b. -/
structure ApR2 (l : List Tm) (pr : ByteArray) (ts : List Tm) (w : World) (b j : Nat) (v : Value) (wr : World) : Prop where
  b_ : wr.heap[b]? = some (.cells #[.string pr, v] 26 (0, 0))
  r_ : wr.ownsRow (b + 1) 93 4 v j (tmsC ((ts.take j).map (sgm l)))
  u_ : Below b w wr
theorem ApR2.next {l : List Tm} {pr : ByteArray} {ts : List Tm} {w : World} {b j : Nat} {v v' : Value} {wr w2 : World} {m : Tm} (h : ApR2 l pr ts w b j v wr) (hst : tmsC ((ts.take (j + 1)).map (sgm l)) = tmsC ((ts.take j).map (sgm l)) ++ m.cells)
    (hb : Below (b + 1) wr w2) (hown : w2.ownsRow (b + 1) 93 4 v' (j + 1) (tmsC ((ts.take j).map (sgm l)) ++ m.cells)) : ApR2 l pr ts w b (j + 1) v' (w2.setCell ⟨b, 1, none⟩ v') := by
  have h1 := (hb.block b (Nat.lt_succ_self b)).trans h.b_
  refine ⟨?_, ?_, ?_⟩
  · simp [World.setCell, Array.getElem?_modify, h1]
  · rw [hst]
    exact ownR_set hown (Nat.lt_succ_self b)
  · exact (h.u_.trans (hb.mono (by omega))).setCell (p := ⟨b, 1, none⟩) (Nat.le_refl b) v'
set_option maxRecDepth 100000 in
set_option maxHeartbeats 4000000 in
theorem rApply2 (l : List Tm) (p : Option Addr) (c : Nat) (pr : ByteArray) (ts : List Tm) (q : Option Addr) (tc : Nat) (w : World) (hl : BdsAt w p l) (hn : l.length ≤ 10000)
    (hts : ts.length = 0 ∨ ∃ a o, q = some ⟨a, o, none⟩ ∧ TmsAt w a o ts) (ht : ts.length ≤ 24) :
    Calls Tryz.prog 33 #[.slice p l.length c, .agg #[.string pr, .slice q ts.length tc]] w fun e w' => ∃ sv, e = .returned (.agg #[.string pr, sv]) ∧ TmSl w' sv (ts.map (sgm l)) ∧ (∀ g, sv.ownBlock = some g → w.heap.size ≤ g ∧ g < w'.heap.size) ∧ Below w.heap.size w w' := by
  obtain ⟨i0, hi, hzz⟩ := Option.map_eq_some_iff.1 infoTm
  simp only [Prod.mk.injEq] at hzz
  obtain ⟨hz0, hz1, hz2⟩ := hzz
  have HI := Lib.hid hi; clear hi
  have HZ0 := Lib.hid hz0; clear hz0
  have HZ1 := Lib.hid hz1; clear hz1
  have HZ2 := Lib.hid hz2; clear hz2
  have HT := Lib.hid hts; clear hts
  obtain ⟨V, hV⟩ : ∃ V, V = (w.alloc (.cells #[.string pr, .slice q ts.length tc] 26)).alloc (.cells #[.string ⟨#[]⟩, .slice none 0 0] 26) := ⟨_, rfl⟩
  have HBV := Lib.hid (show Below w.heap.size w V by rw [hV]; exact (below_alloc _ _).trans ((below_alloc _ _).mono (by simp)))
  have hsV : V.heap.size = w.heap.size + 1 + 1 := by rw [hV]; simp
  have HB1 := Lib.hid (show V.heap[w.heap.size]? = some (.cells #[.string pr, .slice q ts.length tc] 26 (0, 0)) by
    have h1 := heap_alloc_new w (.cells #[.string pr, .slice q ts.length tc] 26)
    rw [hV]
    exact ((below_alloc (w.alloc _) _).block _ (by simp)).trans h1)
  have HB2 := Lib.hid (show V.heap[w.heap.size + 1]? = some (.cells #[.string ⟨#[]⟩, .slice none 0 0] 26 (0, 0)) by rw [hV]; simpa using heap_alloc_new (w.alloc _) _)
  obtain ⟨W, hW⟩ : ∃ W, W = V.alloc (.cells #[.string pr, .slice none 0 0] 26) := ⟨_, rfl⟩
  have HRW := Lib.hid (show ApR2 l pr ts V (w.heap.size + 1 + 1) 0 (.slice none 0 0) W by
    rw [hW, ← hsV]
    exact ⟨heap_alloc_new V _, ownR_nil _ _ _ _, below_alloc _ _⟩)
  go_enter Tryz.func33, Tryz.ntmps33
  go_wp2_with fail
  rw [← hV]
  rw [← hW]
  clear hV hW
  go_loopw [6] (fun i wr => ∃ (j : Nat) (v : Value), j ≤ ts.length ∧ i = .int .i64 j ∧ ApR2 l pr ts V (w.heap.size + 1 + 1) j v wr) (fun i _ => ts.length - (intOf i).toNat)
  case atStart => exact ⟨0, _, by omega, rfl, HRW.out⟩
  case round =>
    obtain ⟨j, v, hj, rfl, hr⟩ := hrel
    have HR := Lib.hid hr; clear hr
    rename World => wr
    have hsz := HR.out.u_.size
    obtain ⟨x0, x1⟩ := two ((HR.out.u_.block w.heap.size (by omega)).trans HB1.out)
    obtain ⟨y0, y1⟩ := two HR.out.b_
    obtain ⟨pv, cv, rfl⟩ := ownR_slice HR.out.r_
    have f1 : wr.frozen? ⟨w.heap.size + 1 + 1, 1, none⟩ = false := Lib.frozen_of_heap HR.out.b_ 1
    by_cases hlt : j < ts.length
    · rcases HT.out with hx | ⟨a, o, rfl, hta⟩
      · omega
      · have hck := (hta.at_ j hlt).up (HBV.out.trans (HR.out.u_.mono (by omega))) hta.lt
        have hal := hta.lt
        clear hta
        have HPUT := Lib.hid fun V' (hV' : Below wr.heap.size wr V') => rPut2 l p c ts[j] V' (hl.up (HBV.out.trans ((HR.out.u_.mono (by omega)).trans (hV'.mono (by omega))))) hn
        have HST := Lib.hid (show tmsC ((ts.take (j + 1)).map (sgm l)) = tmsC ((ts.take j).map (sgm l)) ++ (sgm l ts[j]).cells by
          rw [List.take_succ_eq_append_getElem hlt, List.map_append, List.map_cons, List.map_nil, tmsC_snoc])
        obtain ⟨y, hy⟩ : ∃ y, y = ts[j] := ⟨_, rfl⟩
        rw [← hy] at hck HPUT HST
        obtain ⟨u, hu⟩ : ∃ u, u = sgm l y := ⟨_, rfl⟩
        rw [← hu] at HPUT HST
        clear hy hu
        obtain ⟨yv, ⟨yk, yn, ys⟩⟩ := y
        obtain ⟨uv, ⟨uk, un, us⟩⟩ := u
        obtain ⟨k0, k1, k2, k3⟩ := hck
        simp only at k0 k1 k2 k3
        have HPUT := Lib.hid (show ∀ V' : World, Below wr.heap.size wr V' → Calls Tryz.prog 57 #[.slice p l.length c, .agg #[.string yv, .int .i8 yk, .int .i64 yn, .string ys]] V' fun e w' => e = .returned (.agg #[.string uv, .int .i8 uk, .int .i64 un, .string us]) ∧ Below V'.heap.size V' w' from HPUT.out)
        have hk0 : (0 : Int) ≤ (j : Int) := by omega
        have hki : (j : Int) < (ts.length : Int) := by omega
        have hb5 : w.heap.size + 1 + 1 < wr.heap.size := (Array.getElem?_eq_some_iff.1 HR.out.b_).1
        have hb3 : w.heap.size < wr.heap.size := by omega
        have hba : a < wr.heap.size := by omega
        have haw : a < w.heap.size := hal
        go_wp2_with fail
        have y1a := y1
        have f1a := f1
        go_region_law
          (first
            | (go_simp
               go_at_call 57
               refine (HPUT.out _ ?_).mono ?_
               · exact ⟨rfl, rfl, rfl, Nat.le_refl _, fun _ _ => rfl⟩
               rintro r w1 ⟨rfl, hb1⟩
               have Hb := Lib.hid (show Below wr.heap.size wr w1 from ⟨hb1.os, hb1.tape, hb1.output, hb1.size, hb1.block⟩)
               clear hb1
               have HO := Lib.hid (ownR_up HR.out.r_ Hb.out)
               have HS1 := Lib.hid Hb.out.size
               have x1 := (Hb.out.cell (p := ⟨w.heap.size, 1, none⟩) hb3).trans x1
               have y1 := (Hb.out.cell (p := ⟨w.heap.size + 1 + 1, 1, none⟩) hb5).trans y1
               have f1 := (Hb.out.frozen (p := ⟨w.heap.size + 1 + 1, 1, none⟩) hb5).trans f1
               have nn : ∀ (cs : Array Value) (t : TypeId) (f : Nat × Nat), (w1.alloc (.cells cs t f)).cell? ⟨w.heap.size + 1 + 1, 1, none⟩ = some (.slice pv j cv) := fun cs t f => ((below_alloc w1 (.cells cs t f)).cell (p := ⟨w.heap.size + 1 + 1, 1, none⟩) (Nat.lt_of_lt_of_le hb5 HS1.out)).trans y1
               dsimp only)
            | (refine step_append_lies _ (by rfl) _ _ _ (by rfl) (w.heap.size + 1 + 1 + 1) 93 i0 _ 4 48 Tryz.underlying24 HI.out HZ0.out HZ1.out HZ2.out rfl (by decide) (.slice pv j cv) j _ (by rfl) (ownR_alloc HO.out _) ⟨w1.heap.size, 0, none⟩ 1 1 [.string uv, .int .i8 uk, .int .i64 un, .string us] (by rfl) (by rfl) (World.news_of_block (cs := #[.string uv, .int .i8 uk, .int .i64 un, .string us]) (t := 93) (fr := (0, 0)) (heap_alloc_new w1 _)) (by simp [Value.oneCell']) (by omega) (by unfold maxLen; omega) (by omega) (by have := HS1.out; simp; omega) (w1.heap.size + 1) (by simp) ?_
               intro g cap w2 hown2 hgrow hat hlt2
               have Hb2 := Lib.hid (show Below (w.heap.size + 1 + 1 + 1) wr w2 from ap_below Hb.out (Nat.succ_le_of_lt hb5) HO.out hgrow)
               have HG := Lib.hid hat
               have y1 := (Hb2.out.cell (p := ⟨w.heap.size + 1 + 1, 1, none⟩) (Nat.lt_succ_self _)).trans y1a
               have f1 := (Hb2.out.frozen (p := ⟨w.heap.size + 1 + 1, 1, none⟩) (Nat.lt_succ_self _)).trans f1a
               clear hat hgrow))
        all_goals
          have HF := Lib.hid (HR.out.next HST.out Hb2.out hown2)
          clear x0 x1 y0 y1 f1 y1a f1a k0 k1 k2 k3 nn hown2
          go_wp2_with fail
          go_roundw
          case rel => exact ⟨j + 1, _, by omega, by go_num, HF.out⟩
          case measure => simp [intOf]; omega
    · obtain rfl : j = ts.length := by omega
      have HC4 := Lib.hid ((HR.out.u_.block (w.heap.size + 1) (by omega)).trans HB2.out)
      obtain ⟨z0, z1⟩ := two HC4.out
      have g0 : wr.frozen? ⟨w.heap.size + 1, 0, none⟩ = false := Lib.frozen_of_heap HC4.out 0
      have g1 : wr.frozen? ⟨w.heap.size + 1, 1, none⟩ = false := Lib.frozen_of_heap HC4.out 1
      have HW := Lib.hid (show Below w.heap.size w ((wr.setCell ⟨w.heap.size + 1, 0, none⟩ (.string pr)).setCell ⟨w.heap.size + 1, 1, none⟩ (.slice pv ts.length cv)) from
        ((HBV.out.trans (HR.out.u_.mono (by omega))).setCell (p := ⟨w.heap.size + 1, 0, none⟩) (Nat.le_succ _) _).setCell (p := ⟨w.heap.size + 1, 1, none⟩) (Nat.le_succ _) _)
      have HS := Lib.hid (show TmSl ((wr.setCell ⟨w.heap.size + 1, 0, none⟩ (.string pr)).setCell ⟨w.heap.size + 1, 1, none⟩ (.slice pv ts.length cv)) (.slice pv ts.length cv) (ts.map (sgm l)) by
        have h1 := ownR_set (b := w.heap.size + 1) (o := 1) (x := .slice pv ts.length cv) (ownR_set (b := w.heap.size + 1) (o := 0) (x := .string pr) HR.out.r_ (by omega)) (by omega)
        rw [List.take_of_length_le (Nat.le_refl _)] at h1
        exact rowR_sl h1 (by rw [List.length_map]) (by omega))
      have HOB := Lib.hid (show ∀ g, (Value.slice pv ts.length cv).ownBlock = some g → w.heap.size ≤ g ∧ g < ((wr.setCell ⟨w.heap.size + 1, 0, none⟩ (.string pr)).setCell ⟨w.heap.size + 1, 1, none⟩ (.slice pv ts.length cv)).heap.size from fun g hg => by have := ownR_lt HR.out.r_ hg; simp [World.setCell]; omega)
      go_wp2_with fail
      refine bodyPost_ret (v := .agg #[.string pr, .slice pv ts.length cv]) (by simp [results, Tryz.results33, go_sem, z0, z1]) rfl ?_
      exact ⟨_, rfl, HS.out, HOB.out, HW.out⟩
end Go.Proofs.YtafjjececdhmjaaGreat

namespace Go.Proofs.YtafjjececdhmjaaGreat
open Go.RowKit

/-- An assignment in a row of memory. -/
def LsAt (w : World) (p : Option Addr) (l : List Tm) : Prop := l.length = 0 ∨ ∃ a o, p = some ⟨a, o, none⟩ ∧ TmsAt w a o l
theorem LsAt.up {w w' : World} {p : Option Addr} {l : List Tm} (h : LsAt w p l) (hb : Below w.heap.size w w') : LsAt w' p l :=
  h.imp id fun ⟨a, o, hp, hc⟩ => ⟨a, o, hp, hc.up hb hc.lt⟩
/-- The value of a term, and is there one that may be? -/
def bdV (l : List Tm) (t : Tm) : Vl × Bool := if (bl t.v).isEmpty then (t.x, true) else match bnd l t.v with
  | some x => (x, vlOk x)
  | none => (⟨0, 0, ⟨#[]⟩⟩, false)
def vlAgg (x : Vl) : Value := .agg #[.int .i8 x.k, .int .i64 x.n, .string x.t]
theorem threeV {w : World} {b : Nat} {x0 x1 x2 : Value} {t : TypeId} {fz : Nat × Nat} (h : w.heap[b]? = some (.cells #[x0, x1, x2] t fz)) : w.cell? ⟨b, 0, none⟩ = some x0 ∧ w.cell? ⟨b, 1, none⟩ = some x1 ∧ w.cell? ⟨b, 2, none⟩ = some x2 :=
  ⟨by rw [Lib.cell_of_heap h]; rfl, by rw [Lib.cell_of_heap h]; rfl, by rw [Lib.cell_of_heap h]; rfl⟩
set_option maxHeartbeats 4000000 in
set_option maxRecDepth 100000 in
theorem rBound (l : List Tm) (p : Option Addr) (c : Nat) (v : ByteArray) (k n : Int) (s : ByteArray) (w : World) (hl : LsAt w p l) (hn : l.length ≤ 10000) :
    Calls Tryz.prog 62 #[.slice p l.length c, .agg #[.string v, .int .i8 k, .int .i64 n, .string s]] w fun e w' => e = .returned (.tuple #[vlAgg (bdV l ⟨v, ⟨k, n, s⟩⟩).1, .bool (bdV l ⟨v, ⟨k, n, s⟩⟩).2]) ∧ Below w.heap.size w w' := by
  obtain ⟨V, hV⟩ : ∃ V, V = (w.alloc (.cells #[.string v, .int .i8 k, .int .i64 n, .string s] 93)).alloc (.cells #[.int .i8 0, .int .i64 0, .string ⟨#[]⟩] 91) := ⟨_, rfl⟩
  have HBV := Lib.hid (show Below w.heap.size w V by rw [hV]; exact (below_alloc _ _).trans ((below_alloc _ _).mono (by simp)))
  have HSV := Lib.hid (show V.heap.size = w.heap.size + 1 + 1 by rw [hV]; simp)
  have HB1 := Lib.hid (show V.heap[w.heap.size]? = some (.cells #[.string v, .int .i8 k, .int .i64 n, .string s] 93 (0, 0)) by
    have h1 := heap_alloc_new w (.cells #[.string v, .int .i8 k, .int .i64 n, .string s] 93)
    rw [hV]
    exact ((below_alloc (w.alloc _) _).block _ (by simp)).trans h1)
  have HB2 := Lib.hid (show V.heap[w.heap.size + 1]? = some (.cells #[.int .i8 0, .int .i64 0, .string ⟨#[]⟩] 91 (0, 0)) by rw [hV]; simpa using heap_alloc_new (w.alloc _) _)
  have hbk : w.heap.size < V.heap.size := by rw [HSV.out]; omega
  have hbs : w.heap.size + 1 < V.heap.size := by rw [HSV.out]; omega
  have HL := Lib.hid hl; clear hl
  by_cases h0 : v.toList.isEmpty = true
  · have HE := Lib.hid (show bdV l ⟨v, ⟨k, n, s⟩⟩ = (⟨k, n, s⟩, true) by unfold bdV; rw [if_pos (by rw [ByteArray.toList_eq] at h0; exact h0)])
    clear hV HBV HSV HB1 HB2 HL hbk hbs
    go_enter Tryz.func62, Tryz.ntmps62
    go_wp2_with fail
    refine bodyPost_ret (v := .tuple #[.agg #[.int .i8 k, .int .i64 n, .string s], .bool true]) (by simp [results, Tryz.results62, go_sem]) rfl ?_
    exact ⟨by rw [HE.out]; rfl, (below_alloc _ _).trans ((below_alloc _ _).mono (by simp))⟩
  · have h0' : v.toList.isEmpty = false := by simpa using h0
    have HNE := Lib.hid (show ¬ (bl v).isEmpty = true by rw [ByteArray.toList_eq] at h0; exact h0)
    clear h0
    go_enter Tryz.func62, Tryz.ntmps62
    go_wp2_with fail
    rw [← hV]
    clear hV
    go_loopw [6] (fun i wr => ∃ j : Nat, j ≤ l.length ∧ i = .int .i64 j ∧ (∀ q, (h : q < l.length) → q < j → l[q].v ≠ v) ∧ Below V.heap.size V wr) (fun i _ => l.length - (intOf i).toNat)
    case atStart => exact ⟨0, by omega, rfl, fun q _ h => by omega, Below.refl _ _⟩
    case round =>
      obtain ⟨j, hj, rfl, hno, hb⟩ := hrel
      have HNO := Lib.hid hno; clear hno
      have Hb := Lib.hid hb; clear hb
      rename World => wr
      have HC2 := Lib.hid ((Hb.out.block (w.heap.size + 1) hbs).trans HB2.out)
      obtain ⟨x0, x1, x2, x3⟩ := four ((Hb.out.block w.heap.size hbk).trans HB1.out)
      obtain ⟨y0, y1, y2⟩ := threeV HC2.out
      have f0 : wr.frozen? ⟨w.heap.size + 1, 0, none⟩ = false := Lib.frozen_of_heap HC2.out 0
      have f1 : wr.frozen? ⟨w.heap.size + 1, 1, none⟩ = false := Lib.frozen_of_heap HC2.out 1
      have f2 : wr.frozen? ⟨w.heap.size + 1, 2, none⟩ = false := Lib.frozen_of_heap HC2.out 2
      by_cases hlt : j < l.length
      · rcases HL.out with hx | ⟨a, o, rfl, hta⟩
        · omega
        · have hck := (hta.at_ j hlt).up (HBV.out.trans (Hb.out.mono HBV.out.size)) hta.lt
          have hal := hta.lt
          clear hta
          obtain ⟨y, hy⟩ : ∃ y, y = l[j] := ⟨_, rfl⟩
          rw [← hy] at hck
          obtain ⟨nm, ⟨nk, nn, nt⟩⟩ := y
          obtain ⟨k0, k1, k2, k3⟩ := hck
          simp only at k0 k1 k2 k3
          have hk0 : (0 : Int) ≤ (j : Int) := by omega
          have hki : (j : Int) < (l.length : Int) := by omega
          by_cases he : nm = v
          · have HE := Lib.hid (show bdV l ⟨v, ⟨k, n, s⟩⟩ = (⟨nk, nn, nt⟩, vlOk ⟨nk, nn, nt⟩) by
              have h1 := bnd_first l j hlt v (fun i hi => HNO.out i (by omega) hi) (by rw [← hy]; exact he)
              unfold bdV
              rw [if_neg HNE.out]
              show (match bnd l v with | some x => (x, vlOk x) | none => _) = _
              rw [h1, ← hy])
            subst he
            clear hy
            have q : (nm.toList == nm.toList) = true := by simp
            go_wp2_with fail
            go_quiet (fail)
            go_wp2_with fail
            have HBU := Lib.hid (below_drewN (HBV.out.trans (Hb.out.mono HBV.out.size)) nq)
            have HCU := Lib.hid (show (wr.drewN nq).heap[w.heap.size + 1]? = some (.cells #[.int .i8 0, .int .i64 0, .string ⟨#[]⟩] 91 (0, 0)) from HC2.out)
            have hbu0 : w.heap.size + 1 < (wr.drewN nq).heap.size := (Array.getElem?_eq_some_iff.1 HCU.out).1
            have HK := Lib.hid (show ∀ w', Below (w.heap.size + 1) (wr.drewN nq) w' → w'.cell? ⟨a, o + j * 4 + 1, none⟩ = some (.int .i8 nk) ∧ w'.cell? ⟨a, o + j * 4 + 2, none⟩ = some (.int .i64 nn) ∧ w'.cell? ⟨a, o + j * 4 + 3, none⟩ = some (.string nt) from fun w' h =>
              have hx : a < w.heap.size + 1 := by omega
              ⟨(h.cell (p := ⟨a, o + j * 4 + 1, none⟩) hx).trans k1, (h.cell (p := ⟨a, o + j * 4 + 2, none⟩) hx).trans k2, (h.cell (p := ⟨a, o + j * 4 + 3, none⟩) hx).trans k3⟩)
            obtain ⟨U, hU⟩ : ∃ U, U = wr.drewN nq := ⟨_, rfl⟩
            rw [← hU] at HBU HCU HK hbu0 ⊢
            clear hU
            have hbu := hbu0
            have Hc := Lib.hid ((Below.refl U.heap.size U).drew)
            rcases hv : vlOk ⟨nk, nn, nt⟩ with _ | _ <;> rw [hv] at HE
            · have HCH := Lib.hid (show ∀ V' : World, Calls Tryz.prog 63 #[.agg #[.int .i8 nk, .int .i64 nn, .string nt]] V' fun e w' => e = .returned (.int .i64 10) ∧ Below V'.heap.size V' w' from fun V' => by
                have h9 := rCheck nk nn nt V'
                rw [hv] at h9
                exact h9)
              clear hv
              go_region_held3 (fun w' => w'.cell? ⟨a, o + j * 4 + 1, none⟩ = some (.int .i8 nk) ∧ w'.cell? ⟨a, o + j * 4 + 2, none⟩ = some (.int .i64 nn) ∧ w'.cell? ⟨a, o + j * 4 + 3, none⟩ = some (.string nt))
                (first
                  | (refine HK.out _ ?_
                     repeat (with_reducible first | exact Hc.out.mono (Nat.le_of_lt hbu) | refine Below.drew ?_ | refine Below.setCell ?_ ?_ _)
                     all_goals (with_reducible exact Nat.le_refl _)))
                (first
                  | (go_at_call 63
                     refine (HCH.out _).mono ?_
                     rintro r w3 ⟨rfl, hb1⟩
                     have Hc := Lib.hid (show Below U.heap.size U w3 from ⟨hb1.os, hb1.tape, hb1.output, hb1.size, hb1.block⟩)
                     clear hb1
                     have HC3 := Lib.hid ((Hc.out.block (w.heap.size + 1) hbu).trans HCU.out)
                     obtain ⟨z0, z1, z2⟩ := threeV HC3.out
                     have g0 : w3.frozen? ⟨w.heap.size + 1, 0, none⟩ = false := Lib.frozen_of_heap HC3.out 0
                     have g1 : w3.frozen? ⟨w.heap.size + 1, 1, none⟩ = false := Lib.frozen_of_heap HC3.out 1
                     have g2 : w3.frozen? ⟨w.heap.size + 1, 2, none⟩ = false := Lib.frozen_of_heap HC3.out 2))
              all_goals
                clear x0 x1 x2 x3 y0 y1 y2 f0 f1 f2 k0 k1 k2 k3
                have HBp := Lib.hid (show Below w.heap.size w (putL w3 (w.heap.size + 1) 0 [.int .i8 nk, .int .i64 nn, .string nt]) from putL_below (Nat.le_succ _) _ _ _ (HBU.out.trans (Hc.out.mono (by have := HBU.out.size; omega))))
                have hb2 : (putL w3 (w.heap.size + 1) 0 [.int .i8 nk, .int .i64 nn, .string nt]).heap[w.heap.size + 1]? = some (.cells #[.int .i8 nk, .int .i64 nn, .string nt] 91 (0, 0)) := putL_heap _ HC3.out rfl
                go_wp2_with fail
                change bodyPost _ _ _ _ _ (putL w3 (w.heap.size + 1) 0 [.int .i8 nk, .int .i64 nn, .string nt])
                clear z0 z1 z2 g0 g1 g2
                obtain ⟨W2, hW2⟩ : ∃ W2, W2 = putL w3 (w.heap.size + 1) 0 [.int .i8 nk, .int .i64 nn, .string nt] := ⟨_, rfl⟩
                rw [← hW2] at hb2 HBp ⊢
                clear hW2
                obtain ⟨z0, z1, z2⟩ := threeV hb2
                refine bodyPost_ret (v := .tuple #[.agg #[.int .i8 nk, .int .i64 nn, .string nt], .bool false]) (by simp [results, Tryz.results62, go_sem, z0, z1, z2]) rfl ?_
                exact ⟨by rw [HE.out]; rfl, HBp.out⟩
            · have HCH := Lib.hid (show ∀ V' : World, Calls Tryz.prog 63 #[.agg #[.int .i8 nk, .int .i64 nn, .string nt]] V' fun e w' => e = .returned (.int .i64 0) ∧ Below V'.heap.size V' w' from fun V' => by
                have h9 := rCheck nk nn nt V'
                rw [hv] at h9
                exact h9)
              clear hv
              go_region_held3 (fun w' => w'.cell? ⟨a, o + j * 4 + 1, none⟩ = some (.int .i8 nk) ∧ w'.cell? ⟨a, o + j * 4 + 2, none⟩ = some (.int .i64 nn) ∧ w'.cell? ⟨a, o + j * 4 + 3, none⟩ = some (.string nt))
                (first
                  | (refine HK.out _ ?_
                     repeat (with_reducible first | exact Hc.out.mono (Nat.le_of_lt hbu) | refine Below.drew ?_ | refine Below.setCell ?_ ?_ _)
                     all_goals (with_reducible exact Nat.le_refl _)))
                (first
                  | (go_at_call 63
                     refine (HCH.out _).mono ?_
                     rintro r w3 ⟨rfl, hb1⟩
                     have Hc := Lib.hid (show Below U.heap.size U w3 from ⟨hb1.os, hb1.tape, hb1.output, hb1.size, hb1.block⟩)
                     clear hb1
                     have HC3 := Lib.hid ((Hc.out.block (w.heap.size + 1) hbu).trans HCU.out)
                     obtain ⟨z0, z1, z2⟩ := threeV HC3.out
                     have g0 : w3.frozen? ⟨w.heap.size + 1, 0, none⟩ = false := Lib.frozen_of_heap HC3.out 0
                     have g1 : w3.frozen? ⟨w.heap.size + 1, 1, none⟩ = false := Lib.frozen_of_heap HC3.out 1
                     have g2 : w3.frozen? ⟨w.heap.size + 1, 2, none⟩ = false := Lib.frozen_of_heap HC3.out 2))
              all_goals
                clear x0 x1 x2 x3 y0 y1 y2 f0 f1 f2 k0 k1 k2 k3
                have HBp := Lib.hid (show Below w.heap.size w (putL w3 (w.heap.size + 1) 0 [.int .i8 nk, .int .i64 nn, .string nt]) from putL_below (Nat.le_succ _) _ _ _ (HBU.out.trans (Hc.out.mono (by have := HBU.out.size; omega))))
                have hb2 : (putL w3 (w.heap.size + 1) 0 [.int .i8 nk, .int .i64 nn, .string nt]).heap[w.heap.size + 1]? = some (.cells #[.int .i8 nk, .int .i64 nn, .string nt] 91 (0, 0)) := putL_heap _ HC3.out rfl
                go_wp2_with fail
                change bodyPost _ _ _ _ _ (putL w3 (w.heap.size + 1) 0 [.int .i8 nk, .int .i64 nn, .string nt])
                clear z0 z1 z2 g0 g1 g2
                obtain ⟨W2, hW2⟩ : ∃ W2, W2 = putL w3 (w.heap.size + 1) 0 [.int .i8 nk, .int .i64 nn, .string nt] := ⟨_, rfl⟩
                rw [← hW2] at hb2 HBp ⊢
                clear hW2
                obtain ⟨z0, z1, z2⟩ := threeV hb2
                refine bodyPost_ret (v := .tuple #[.agg #[.int .i8 nk, .int .i64 nn, .string nt], .bool true]) (by simp [results, Tryz.results62, go_sem, z0, z1, z2]) rfl ?_
                exact ⟨by rw [HE.out]; rfl, HBp.out⟩
          · have HE := Lib.hid (show ∀ q, (h : q < l.length) → q < j + 1 → l[q].v ≠ v by
              intro q h hq
              by_cases e : q = j
              · subst e
                rw [← hy]
                exact he
              · exact HNO.out q h (by omega))
            have q := toList_ne he
            clear he hy
            go_wp2_with fail
            go_quiet (fail)
            go_wp2_with fail
            go_roundw
            case rel => exact ⟨j + 1, by omega, by go_num, HE.out, below_drewN Hb.out _⟩
            case measure => simp [intOf]; omega
      · obtain rfl : j = l.length := by omega
        have HE := Lib.hid (show bdV l ⟨v, ⟨k, n, s⟩⟩ = (⟨0, 0, ⟨#[]⟩⟩, false) by
          have h1 := bnd_none l v fun i hi => HNO.out i hi hi
          unfold bdV
          rw [if_neg HNE.out]
          show (match bnd l v with | some x => (x, vlOk x) | none => _) = _
          rw [h1])
        have HBp := Lib.hid (show Below w.heap.size w (putL wr (w.heap.size + 1) 0 [.int .i8 0, .int .i64 0, .string ⟨#[]⟩]) from putL_below (Nat.le_succ _) _ _ _ (HBV.out.trans (Hb.out.mono HBV.out.size)))
        have hb2 : (putL wr (w.heap.size + 1) 0 [.int .i8 0, .int .i64 0, .string ⟨#[]⟩]).heap[w.heap.size + 1]? = some (.cells #[.int .i8 0, .int .i64 0, .string ⟨#[]⟩] 91 (0, 0)) := putL_heap _ HC2.out rfl
        go_wp2_with fail
        change bodyPost _ _ _ _ _ (putL wr (w.heap.size + 1) 0 [.int .i8 0, .int .i64 0, .string ⟨#[]⟩])
        clear x0 x1 x2 x3 y0 y1 y2 f0 f1 f2
        obtain ⟨W2, hW2⟩ : ∃ W2, W2 = putL wr (w.heap.size + 1) 0 [.int .i8 0, .int .i64 0, .string ⟨#[]⟩] := ⟨_, rfl⟩
        rw [← hW2] at hb2 HBp ⊢
        clear hW2
        obtain ⟨z0, z1, z2⟩ := threeV hb2
        refine bodyPost_ret (v := .tuple #[.agg #[.int .i8 0, .int .i64 0, .string ⟨#[]⟩], .bool false]) (by simp [results, Tryz.results62, go_sem, z0, z1, z2]) rfl ?_
        exact ⟨by rw [HE.out]; rfl, HBp.out⟩
end Go.Proofs.YtafjjececdhmjaaGreat

namespace Go.Proofs.YtafjjececdhmjaaGreat
open Go.RowKit

set_option maxRecDepth 100000 in
set_option maxHeartbeats 2000000 in
theorem tPower (c n : Nat) (hc : c ≤ 1048576) (hn : n ≤ 1000) (w : World) :
    Calls Tryz.prog 32 #[.int .i64 c, .int .i64 n] w fun e w' => ∃ r : Nat, e = .returned (.int .i64 r) ∧ r ≤ 1000000 ∧ (r < 1000000 → c ^ n = r) ∧ w' = w := by
  go_enter Tryz.func32, Tryz.ntmps32
  go_wp2_with fail
  go_loop [5, 6] (fun x i => ∃ a k : Nat, x = .int .i64 a ∧ i = .int .i64 k ∧ k ≤ n ∧ a = c ^ k ∧ a ≤ 1048576000000) (fun _ i => n - (intOf i).toNat)
  case atStart => exact ⟨1, 0, rfl, rfl, by omega, rfl, by omega⟩
  case round =>
    obtain ⟨a, k, rfl, rfl, hk, ha, hb⟩ := hrel
    have HA := Lib.hid ha; clear ha
    by_cases h1 : k < n
    · by_cases h2 : a < 1000000
      · have h3 : (k : Int) < (n : Int) := by omega
        have h4 : (a : Int) < 1000000 := by omega
        have hm : a * c ≤ 1048576000000 := by
          have := Nat.mul_le_mul (show a ≤ 1000000 by omega) hc
          omega
        have hw : IntKind.i64.wrap ((a : Int) * (c : Int)) = ((a * c : Nat) : Int) := by rw [IntKind.wrap_i64]; push_cast; omega
        go_wp2_with fail
        exact ⟨⟨a * c, k + 1, by simp, by go_num, by omega, by rw [HA.out, Nat.pow_succ], hm⟩, by simp [intOf]; omega⟩
      · have h3 : (k : Int) < (n : Int) := by omega
        have h4 : ¬ (a : Int) < 1000000 := by omega
        go_wp2_with fail
        go_ret
        exact ⟨1000000, by simp; omega, by omega, by omega, rfl⟩
    · have h3 : ¬ (k : Int) < (n : Int) := by omega
      obtain rfl : k = n := by omega
      by_cases h2 : a < 1000000
      · have h4 : (a : Int) < 1000000 := by omega
        go_wp2_with fail
        go_ret
        exact ⟨a, by simp; omega, by omega, fun _ => HA.out.symm, rfl⟩
      · have h4 : ¬ (a : Int) < 1000000 := by omega
        go_wp2_with fail
        go_ret
        exact ⟨1000000, by simp; omega, by omega, by omega, rfl⟩
/-- How many literals are positive. -/
def posN {d : Nat} (bs : List (Lt d)) : Nat := (bs.filter fun x => x.k == 1).length
theorem posN_take {d : Nat} {bs : List (Lt d)} {j : Nat} (h : j < bs.length) : posN (bs.take (j + 1)) = posN (bs.take j) + (if bs[j].k = 1 then 1 else 0) := by
  unfold posN
  rw [List.take_succ_eq_append_getElem h, List.filter_append, List.length_append]
  congr 1
  simp only [List.filter_cons, List.filter_nil]
  split <;> split <;> simp_all
theorem posN_le {d : Nat} (bs : List (Lt d)) : posN bs ≤ bs.length := List.length_filter_le _ _
set_option maxHeartbeats 2000000 in
theorem tMany (d : Nat) (bs : List (Lt d)) (p : Option Addr) (cap c : Nat) (w : World) (hb : LtsAt w d p bs) (hn : bs.length ≤ 16) (hc : c ≤ 1048576) :
    Calls Tryz.prog 11 #[.slice p bs.length cap, .int .i64 c] w fun e w' => ∃ b : Bool, e = .returned (.bool b) ∧ (b = false → c ^ posN bs < 1000000) ∧ w' = w := by
  have HB := Lib.hid hb; clear hb
  go_enter Tryz.func11, Tryz.ntmps11
  go_wp2_with fail
  go_loop [5, 6] (fun x i => ∃ k : Nat, i = .int .i64 k ∧ k ≤ bs.length ∧ x = .int .i64 (posN (bs.take k))) (fun _ i => bs.length - (intOf i).toNat)
  case atStart => exact ⟨0, rfl, by omega, rfl⟩
  case round =>
    obtain ⟨k, rfl, hk, rfl⟩ := hrel
    have hle : posN (bs.take k) ≤ 16 := by have := posN_le (bs.take k); rw [List.length_take] at this; omega
    by_cases hlt : k < bs.length
    · rcases HB.out.1 with h0 | ⟨a, o, rfl, ha, hcc⟩
      · omega
      · have k0 := (hcc k hlt).c0
        have HP := Lib.hid (posN_take hlt)
        clear hcc
        obtain ⟨y, hy⟩ : ∃ y, y = bs[k].k := ⟨_, rfl⟩
        rw [← hy] at k0 HP
        clear hy
        obtain ⟨m, hm⟩ : ∃ m, m = posN (bs.take k) := ⟨_, rfl⟩
        rw [← hm] at HP hle ⊢
        clear hm
        by_cases h1 : y = 1
        · subst h1
          have HP2 := Lib.hid (show posN (bs.take (k + 1)) = m + 1 by rw [HP.out]; rfl)
          go_wp2_with fail
          exact ⟨⟨k + 1, by go_num, by omega, by rw [HP2.out]; go_num⟩, by simp [intOf]; omega⟩
        · have HP2 := Lib.hid (show posN (bs.take (k + 1)) = m by rw [HP.out, if_neg h1]; rfl)
          go_wp2_with fail
          exact ⟨⟨k + 1, by go_num, by omega, by rw [HP2.out]⟩, by simp [intOf]; omega⟩
    · obtain rfl : k = bs.length := by omega
      have e : posN (bs.take bs.length) = posN bs := by rw [List.take_of_length_le (Nat.le_refl _)]
      rw [e] at hle ⊢
      clear e
      go_wp2_with fail
      refine (tPower c (posN bs) hc (by omega) _).mono ?_
      rintro e w' ⟨r, rfl, hr, hr2, rfl⟩
      have HE := Lib.hid (show decide ((1000000 : Int) ≤ (r : Int)) = false → c ^ posN bs < 1000000 from fun h => by
        have h1 : ¬ (1000000 : Int) ≤ (r : Int) := of_decide_eq_false h
        rw [hr2 (by omega)]
        omega)
      clear hr2
      go_wp2_with fail
      go_ret
      exact ⟨_, rfl, HE.out, rfl⟩
end Go.Proofs.YtafjjececdhmjaaGreat
