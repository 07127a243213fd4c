/- A region that makes two copies by two calls and puts each into a variable of its own, in whatever order: what it leaves. No function of the program in sight. Conditions: as told. -/
import Derived.Test.YtlghiakckkhekaaGreatDoorQ1
namespace Go.Proofs.YtlghiakckkhekaaGreatDoor
open Go.RowKit

theorem cells_T {b : Bool} (h : b = false) (T Z : Array Value) : (if b then T else Z) = Z := by rw [h]; rfl
/-- At all eight Booleans. -/
def all8 (f : Bool → Bool → Bool → Bool → Bool → Bool → Bool → Bool → Bool) : Bool :=
  [true, false].all fun b0 => [true, false].all fun b1 => [true, false].all fun b2 => [true, false].all fun b3 => [true, false].all fun b4 => [true, false].all fun b5 => [true, false].all fun b6 => [true, false].all fun b7 => f b0 b1 b2 b3 b4 b5 b6 b7
theorem all2 {g : Bool → Bool} (h : ([true, false].all g) = true) (b : Bool) : g b = true := List.all_eq_true.1 h b (by cases b <;> simp)
theorem all8_spec {f : Bool → Bool → Bool → Bool → Bool → Bool → Bool → Bool → Bool} (h : all8 f = true) (b0 b1 b2 b3 b4 b5 b6 b7 : Bool) : f b0 b1 b2 b3 b4 b5 b6 b7 = true :=
  all2 (all2 (all2 (all2 (all2 (all2 (all2 (all2 h b0) b1) b2) b3) b4) b5) b6) b7
set_option maxHeartbeats 4000000 in
theorem pair_region {P : Program} {ops : Array Oper} {Q : Exit → Act → World → Prop} {o0 o1 o2 o3 o4 o5 o6 o7 : Oper} (hops : ops = #[o0, o1, o2, o3, o4, o5, o6, o7]) {t1 t2 : TypeId} {f1 f2 : FuncId} {at1 at2 : Array TypeId}
    (g0 : o0.guard = none ∧ o0.dst = some 16 ∧ o0.op = .load t1 (.tmp 2)) (g1 : o1.guard = none ∧ o1.dst = some 17 ∧ o1.op = .call { callee := .value (.func f1), args := #[.tmp 16], argTypes := at1 })
    (g2 : o2.guard = none ∧ o2.dst = some 18 ∧ o2.op = .load t2 (.tmp 3)) (g3 : o3.guard = none ∧ o3.dst = some 19 ∧ o3.op = .call { callee := .value (.func f2), args := #[.tmp 18], argTypes := at2 })
    (g4 : o4.guard = none ∧ o4.dst = some 5 ∧ o4.op = .alloc t1) (g5 : o5.guard = none ∧ o5.dst = some 6 ∧ o5.op = .alloc t2)
    (g6 : o6.guard = none ∧ o6.dst = none ∧ o6.op = .store t1 (.tmp 5) (.tmp 17)) (g7 : o7.guard = none ∧ o7.dst = none ∧ o7.op = .store t2 (.tmp 6) (.tmp 19))
    (hchk : all8 (fun b0 b1 b2 b3 b4 b5 b6 b7 => ((Region.ready .any ops #[b0, b1, b2, b3, b4, b5, b6, b7]).all fun i => (i == 0) || (i == 1 && b0) || (i == 2) || (i == 3 && b2) || (i == 4) || (i == 5) || (i == 6 && b1 && b3 && b4 && b5) || (i == 7 && b6)) &&
      (!(Region.ready .any ops #[b0, b1, b2, b3, b4, b5, b6, b7]).isEmpty || (b0 && b1 && b2 && b3 && b4 && b5 && b6 && b7))) = true)
    (hF1 : ∀ (args : Array Value) (w : World), (callFunc f1 args).run P w = .ok (.enter f1 args) w) (hF2 : ∀ (args : Array Value) (w : World), (callFunc f2 args).run P w = .ok (.enter f2 args) w)
    (A0 : Act) (V W0 : World) (hW0 : Below V.heap.size V W0) (hsz : 20 ≤ A0.tmps.size) (ba bl : Nat) (h2 : A0.eval (.tmp 2) = .pointer (some ⟨ba, 0, none⟩)) (h3 : A0.eval (.tmp 3) = .pointer (some ⟨bl, 0, none⟩))
    (C1 C2 Z1 Z2 : Array Value) (hba : V.heap[ba]? = some (.cells C1 t1 (0, 0))) (hbl : V.heap[bl]? = some (.cells C2 t2 (0, 0)))
    (d1 d2 : TypeDesc) (hu1 : P.underlying t1 = some d1) (hr1 : d1.isRow = true) (hu2 : P.underlying t2 = some d2) (hr2 : d2.isRow = true) (hi1 : (P.info? t1).map (·.size) = some C1.size) (hi2 : (P.info? t2).map (·.size) = some C2.size)
    (hz1 : Z1.size = C1.size) (hz2 : Z2.size = C2.size)
    (ha1 : ∀ w, (Instr.alloc t1 true (.tuple #[])).run P w = .ok (.pointer (some ⟨w.heap.size, 0, none⟩)) (w.alloc (.cells Z1 t1))) (ha2 : ∀ w, (Instr.alloc t2 true (.tuple #[])).run P w = .ok (.pointer (some ⟨w.heap.size, 0, none⟩)) (w.alloc (.cells Z2 t2)))
    (X1 X2 : Array Value → Nat → World → Prop) (F1 : ∀ T, Firm (X1 T)) (F2 : ∀ T, Firm (X2 T))
    (k1 : ∀ w, Below V.heap.size V w → Calls P f1 #[.agg C1] w fun r w' => ∃ T : Array Value, r = .returned (.agg T) ∧ T.size = C1.size ∧ T.all (·.oneCell') = true ∧ X1 T w.heap.size w' ∧ Below w.heap.size w w')
    (k2 : ∀ w, Below V.heap.size V w → Calls P f2 #[.agg C2] w fun r w' => ∃ T : Array Value, r = .returned (.agg T) ∧ T.size = C2.size ∧ T.all (·.oneCell') = true ∧ X2 T w.heap.size w' ∧ Below w.heap.size w w')
    (hQ : ∀ A w T1 T2 bt bm, Slots [5, 6, 16, 17, 18, 19] A0 A → Below V.heap.size V w → A.eval (.tmp 5) = .pointer (some ⟨bt, 0, none⟩) → A.eval (.tmp 6) = .pointer (some ⟨bm, 0, none⟩) → V.heap.size ≤ bt → V.heap.size ≤ bm →
      w.heap[bt]? = some (.cells T1 t1 (0, 0)) → w.heap[bm]? = some (.cells T2 t2 (0, 0)) → X1 T1 V.heap.size w → X2 T2 V.heap.size w → Q .normal A w) :
    wpAny P .any ops Q 8 #[false, false, false, false, false, false, false, false] A0 W0 := by
  refine wpAny_inv (fun l A w => ∃ b0 b1 b2 b3 b4 b5 b6 b7 : Bool, l = #[b0, b1, b2, b3, b4, b5, b6, b7] ∧ PInv A0 V t1 t2 C1 C2 Z1 Z2 X1 X2 b0 b1 b2 b3 b4 b5 b6 b7 A w) ?_ ?_ 8 _ _ _ (by decide)
    ⟨false, false, false, false, false, false, false, false, rfl, Slots.refl _ _, hW0, (fun h => nomatch h), (fun h => nomatch h), (fun h => nomatch h), (fun h => nomatch h), (fun h => nomatch h), (fun h => nomatch h), #[], #[], 0, 0, (fun h => nomatch h), (fun h => nomatch h), (fun h => nomatch h), (fun h => nomatch h), (fun h => nomatch h)⟩
  · rintro l A w ⟨b0, b1, b2, b3, b4, b5, b6, b7, rfl, hS, hB, e0, e2, i6, i7, i1, i3, T1, T2, bt, bm, c1, c3, c4, c5, hne⟩ h0
    have hend := all8_spec hchk b0 b1 b2 b3 b4 b5 b6 b7
    rw [h0] at hend
    simp only [List.isEmpty_nil, Bool.not_true, Bool.false_or, Bool.and_eq_true] at hend
    obtain ⟨_, ⟨⟨⟨⟨⟨⟨rfl, rfl⟩, rfl⟩, rfl⟩, rfl⟩, rfl⟩, rfl⟩, rfl⟩ := hend
    obtain ⟨_, _, _, x1⟩ := c1 rfl
    obtain ⟨_, _, _, x3⟩ := c3 rfl
    obtain ⟨y4, z4, v4⟩ := c4 rfl
    obtain ⟨y5, z5, v5⟩ := c5 rfl
    exact hQ A w T1 T2 bt bm hS hB y4 y5 z4 z5 v4 v5 x1.now x3.now
  · rintro l A w i ⟨b0, b1, b2, b3, b4, b5, b6, b7, rfl, hS, hB, e0, e2, i6, i7, i1, i3, T1, T2, bt, bm, c1, c3, c4, c5, hne⟩ hi
    have hall := List.all_eq_true.1 (Bool.and_eq_true_iff.1 (all8_spec hchk b0 b1 b2 b3 b4 b5 b6 b7)).1 i hi
    obtain ⟨hlt, hfl⟩ := ready_lt hi
    clear hchk hi
    have hsA : 20 ≤ A.tmps.size := by rw [hS.size]; exact hsz
    simp only [Bool.or_eq_true, Bool.and_eq_true, beq_iff_eq] at hall
    rcases hall with ((((((rfl | ⟨rfl, q0⟩) | rfl) | ⟨rfl, q2⟩) | rfl) | rfl) | ⟨⟨⟨⟨rfl, q1⟩, q3⟩, q4⟩, q5⟩) | ⟨rfl, q6⟩
    · refine wpOp_step (o := o0) (by rw [hops]; rfl) (fun K hK => ?_)
      rw [if_pos (by simp [Region.wanted, g0.1])]
      have hx : A.eval (.tmp 2) = .pointer (some ⟨ba, 0, none⟩) := (hS.eval (by decide)).trans h2
      refine wp_load_mid t1 (.tmp 2) g0.2.2 ba 0 hx C1.toList d1 (rangeAt_heap (t := t1) (fz := (0, 0)) (by simpa using (hB.block ba (Array.getElem?_eq_some_iff.1 hba).1).trans hba)) hu1 hr1 (by simpa using hi1) ?_
      rw [g0.2.1]
      exact hK _ _ ⟨true, b1, b2, b3, b4, b5, b6, b7, rfl, hS.put (by decide) _, hB, fun _ => put_same (by omega) _, fun h => (put_other (by decide) _).trans (e2 h), i6, i7, fun _ => rfl, i3, T1, T2, bt, bm, fun h => ⟨(put_other (by decide) _).trans (c1 h).1, (c1 h).2⟩, fun h => ⟨(put_other (by decide) _).trans (c3 h).1, (c3 h).2⟩, fun h => ⟨(put_other (by decide) _).trans (c4 h).1, (c4 h).2⟩, fun h => ⟨(put_other (by decide) _).trans (c5 h).1, (c5 h).2⟩, hne⟩
    · have hb1 : b1 = false := hfl
      have hb6 : b6 = false := by
        cases b6
        · rfl
        · have := (i6 rfl).1; rw [hb1] at this; exact this.symm
      refine wpOp_step (o := o1) (by rw [hops]; rfl) (fun K hK => ?_)
      rw [if_pos (by simp [Region.wanted, g1.1])]
      refine wp_callF f1 16 at1 g1.2.2 hF1 (by rw [e0 q0]; exact k1 w hB) ?_
      rintro r w' ⟨T, rfl, hTs, hT1, hX, hb⟩
      refine ⟨_, rfl, ?_⟩
      rw [g1.2.1]
      have l4 : b4 = true → bt < w.heap.size := fun h => (Array.getElem?_eq_some_iff.1 (c4 h).2.2).1
      have l5 : b5 = true → bm < w.heap.size := fun h => (Array.getElem?_eq_some_iff.1 (c5 h).2.2).1
      refine hK _ _ ⟨b0, true, b2, b3, b4, b5, b6, b7, rfl, hS.put (by decide) _, hB.trans (hb.mono hB.size), fun h => (put_other (by decide) _).trans (e0 h), fun h => (put_other (by decide) _).trans (e2 h), fun h => ⟨rfl, (i6 h).2⟩, i7, fun _ => q0, i3, T, T2, bt, bm, fun _ => ⟨put_same (by omega) _, hTs, hT1, ?_⟩, fun h => ⟨(put_other (by decide) _).trans (c3 h).1, (c3 h).2.1, (c3 h).2.2.1, (c3 h).2.2.2.go hb.size (fun k hk _ => hb.block k hk) (fun _ _ h => h)⟩, fun h => ⟨(put_other (by decide) _).trans (c4 h).1, (c4 h).2.1, ?_⟩, fun h => ⟨(put_other (by decide) _).trans (c5 h).1, (c5 h).2.1, (hb.block bm (l5 h)).trans (c5 h).2.2⟩, hne⟩
      · intro w'' g1 g2
        refine (F1 T).go _ _ _ _ hX hB.size g1 (fun k hk hk' => g2 k hk' ?_)
        rintro (⟨hh, rfl⟩ | ⟨hh, rfl⟩)
        · have := l4 hh; omega
        · have := l5 hh; omega
      · have h9 := (c4 h).2.2
        rw [cells_T hb6] at h9 ⊢
        exact (hb.block bt (l4 h)).trans h9
    · refine wpOp_step (o := o2) (by rw [hops]; rfl) (fun K hK => ?_)
      rw [if_pos (by simp [Region.wanted, g2.1])]
      have hx : A.eval (.tmp 3) = .pointer (some ⟨bl, 0, none⟩) := (hS.eval (by decide)).trans h3
      refine wp_load_mid t2 (.tmp 3) g2.2.2 bl 0 hx C2.toList d2 (rangeAt_heap (t := t2) (fz := (0, 0)) (by simpa using (hB.block bl (Array.getElem?_eq_some_iff.1 hbl).1).trans hbl)) hu2 hr2 (by simpa using hi2) ?_
      rw [g2.2.1]
      exact hK _ _ ⟨b0, b1, true, b3, b4, b5, b6, b7, rfl, hS.put (by decide) _, hB, fun h => (put_other (by decide) _).trans (e0 h), fun _ => put_same (by omega) _, i6, i7, i1, fun _ => rfl, T1, T2, bt, bm, fun h => ⟨(put_other (by decide) _).trans (c1 h).1, (c1 h).2⟩, fun h => ⟨(put_other (by decide) _).trans (c3 h).1, (c3 h).2⟩, fun h => ⟨(put_other (by decide) _).trans (c4 h).1, (c4 h).2⟩, fun h => ⟨(put_other (by decide) _).trans (c5 h).1, (c5 h).2⟩, hne⟩
    · have hb3 : b3 = false := hfl
      have hb6 : b6 = false := by
        cases b6
        · rfl
        · have := (i6 rfl).2.1; rw [hb3] at this; exact this.symm
      have hb7 : b7 = false := by
        cases b7
        · rfl
        · have := i7 rfl; rw [hb6] at this; exact this.symm
      refine wpOp_step (o := o3) (by rw [hops]; rfl) (fun K hK => ?_)
      rw [if_pos (by simp [Region.wanted, g3.1])]
      refine wp_callF f2 18 at2 g3.2.2 hF2 (by rw [e2 q2]; exact k2 w hB) ?_
      rintro r w' ⟨T, rfl, hTs, hT1, hX, hb⟩
      refine ⟨_, rfl, ?_⟩
      rw [g3.2.1]
      have l4 : b4 = true → bt < w.heap.size := fun h => (Array.getElem?_eq_some_iff.1 (c4 h).2.2).1
      have l5 : b5 = true → bm < w.heap.size := fun h => (Array.getElem?_eq_some_iff.1 (c5 h).2.2).1
      refine hK _ _ ⟨b0, b1, b2, true, b4, b5, b6, b7, rfl, hS.put (by decide) _, hB.trans (hb.mono hB.size), fun h => (put_other (by decide) _).trans (e0 h), fun h => (put_other (by decide) _).trans (e2 h), fun h => ⟨(i6 h).1, rfl, (i6 h).2.2⟩, i7, i1, fun _ => q2, T1, T, bt, bm, fun h => ⟨(put_other (by decide) _).trans (c1 h).1, (c1 h).2.1, (c1 h).2.2.1, (c1 h).2.2.2.go hb.size (fun k hk _ => hb.block k hk) (fun _ _ h => h)⟩, fun _ => ⟨put_same (by omega) _, hTs, hT1, ?_⟩, fun h => ⟨(put_other (by decide) _).trans (c4 h).1, (c4 h).2.1, (hb.block bt (l4 h)).trans (c4 h).2.2⟩, fun h => ⟨(put_other (by decide) _).trans (c5 h).1, (c5 h).2.1, ?_⟩, hne⟩
      · intro w'' g1 g2
        refine (F2 T).go _ _ _ _ hX hB.size g1 (fun k hk hk' => g2 k hk' ?_)
        rintro (⟨hh, rfl⟩ | ⟨hh, rfl⟩)
        · have := l4 hh; omega
        · have := l5 hh; omega
      · have h9 := (c5 h).2.2
        rw [cells_T hb7] at h9 ⊢
        exact (hb.block bm (l5 h)).trans h9
    · have hb4 : b4 = false := hfl
      have hb6 : b6 = false := by
        cases b6
        · rfl
        · have := (i6 rfl).2.2.1; rw [hb4] at this; exact this.symm
      refine wpOp_step (o := o4) (by rw [hops]; rfl) (fun K hK => ?_)
      rw [if_pos (by simp [Region.wanted, g4.1])]
      refine wp_allocZ t1 Z1 g4.2.2 ha1 ?_
      rw [g4.2.1]
      have l5 : b5 = true → bm < w.heap.size := fun h => (Array.getElem?_eq_some_iff.1 (c5 h).2.2).1
      have hsub : ∀ k, k < w.heap.size → SetB true b5 w.heap.size bm k → SetB b4 b5 bt bm k := by
        rintro k hk (⟨_, rfl⟩ | h)
        · omega
        · exact .inr h
      have hba' := below_alloc w (.cells Z1 t1)
      exact hK _ _ ⟨b0, b1, b2, b3, true, b5, b6, b7, rfl, hS.put (by decide) _, hB.trans (hba'.mono hB.size), fun h => (put_other (by decide) _).trans (e0 h), fun h => (put_other (by decide) _).trans (e2 h), fun h => ⟨(i6 h).1, (i6 h).2.1, rfl, (i6 h).2.2.2⟩, i7, i1, i3, T1, T2, w.heap.size, bm,
        fun h => ⟨(put_other (by decide) _).trans (c1 h).1, (c1 h).2.1, (c1 h).2.2.1, (c1 h).2.2.2.go hba'.size (fun k hk _ => hba'.block k hk) hsub⟩, fun h => ⟨(put_other (by decide) _).trans (c3 h).1, (c3 h).2.1, (c3 h).2.2.1, (c3 h).2.2.2.go hba'.size (fun k hk _ => hba'.block k hk) hsub⟩,
        fun _ => ⟨put_same (by omega) _, hB.size, by rw [cells_T hb6]; exact heap_alloc_new w _⟩, fun h => ⟨(put_other (by decide) _).trans (c5 h).1, (c5 h).2.1, (hba'.block bm (l5 h)).trans (c5 h).2.2⟩, fun _ h => by have := l5 h; omega⟩
    · have hb5 : b5 = false := hfl
      have hb6 : b6 = false := by
        cases b6
        · rfl
        · have := (i6 rfl).2.2.2; rw [hb5] at this; exact this.symm
      have hb7 : b7 = false := by
        cases b7
        · rfl
        · have := i7 rfl; rw [hb6] at this; exact this.symm
      refine wpOp_step (o := o5) (by rw [hops]; rfl) (fun K hK => ?_)
      rw [if_pos (by simp [Region.wanted, g5.1])]
      refine wp_allocZ t2 Z2 g5.2.2 ha2 ?_
      rw [g5.2.1]
      have l4 : b4 = true → bt < w.heap.size := fun h => (Array.getElem?_eq_some_iff.1 (c4 h).2.2).1
      have hsub : ∀ k, k < w.heap.size → SetB b4 true bt w.heap.size k → SetB b4 b5 bt bm k := by
        rintro k hk (h | ⟨_, rfl⟩)
        · exact .inl h
        · omega
      have hba' := below_alloc w (.cells Z2 t2)
      exact hK _ _ ⟨b0, b1, b2, b3, b4, true, b6, b7, rfl, hS.put (by decide) _, hB.trans (hba'.mono hB.size), fun h => (put_other (by decide) _).trans (e0 h), fun h => (put_other (by decide) _).trans (e2 h), fun h => ⟨(i6 h).1, (i6 h).2.1, (i6 h).2.2.1, rfl⟩, i7, i1, i3, T1, T2, bt, w.heap.size,
        fun h => ⟨(put_other (by decide) _).trans (c1 h).1, (c1 h).2.1, (c1 h).2.2.1, (c1 h).2.2.2.go hba'.size (fun k hk _ => hba'.block k hk) hsub⟩, fun h => ⟨(put_other (by decide) _).trans (c3 h).1, (c3 h).2.1, (c3 h).2.2.1, (c3 h).2.2.2.go hba'.size (fun k hk _ => hba'.block k hk) hsub⟩,
        fun h => ⟨(put_other (by decide) _).trans (c4 h).1, (c4 h).2.1, (hba'.block bt (l4 h)).trans (c4 h).2.2⟩, fun _ => ⟨put_same (by omega) _, hB.size, by rw [cells_T hb7]; exact heap_alloc_new w _⟩, fun h _ => by have := l4 h; omega⟩
    · have hb6 : b6 = false := hfl
      obtain ⟨y1, s1, n1, x1⟩ := c1 q1
      obtain ⟨y4, z4, v4⟩ := c4 q4
      rw [cells_T hb6] at v4
      refine wpOp_step (o := o6) (by rw [hops]; rfl) (fun K hK => ?_)
      rw [if_pos (by simp [Region.wanted, g6.1])]
      refine wp_store_mid t1 (.tmp 5) (.tmp 17) g6.2.2 bt 0 T1 y4 y1 (by rw [s1, ← hz1]; exact there_heap v4) (by rw [s1]; exact hi1) n1 ?_
      rw [g6.2.1, setCells_putL]
      have hhp := putL_heap T1.toList v4 (by simp [hz1, s1])
      have hS' : ∀ k, ¬ SetB b4 b5 bt bm k → k ≠ bt := fun k hn e => hn (.inl ⟨q4, e⟩)
      refine hK _ _ ⟨b0, b1, b2, b3, b4, b5, true, b7, rfl, hS, putL_below z4 _ _ _ hB, e0, e2, fun _ => ⟨q1, q3, q4, q5⟩, fun _ => rfl, i1, i3, T1, T2, bt, bm,
        fun h => ⟨y1, s1, n1, x1.go (Nat.le_of_eq (putL_size _ _ _).symm) (fun k _ hn => putL_block (hS' k hn) _ _ _) (fun _ _ h => h)⟩, fun h => ⟨(c3 h).1, (c3 h).2.1, (c3 h).2.2.1, (c3 h).2.2.2.go (Nat.le_of_eq (putL_size _ _ _).symm) (fun k _ hn => putL_block (hS' k hn) _ _ _) (fun _ _ h => h)⟩,
        fun _ => ⟨y4, z4, by simpa using hhp⟩, fun h => ⟨(c5 h).1, (c5 h).2.1, (putL_block (fun e => hne q4 h e.symm) _ _ _).trans (c5 h).2.2⟩, hne⟩
    · have hb7 : b7 = false := hfl
      obtain ⟨q1, q3, q4, q5⟩ := i6 q6
      obtain ⟨y1, s1, n1, x1⟩ := c3 q3
      obtain ⟨y4, z4, v4⟩ := c5 q5
      rw [cells_T hb7] at v4
      refine wpOp_step (o := o7) (by rw [hops]; rfl) (fun K hK => ?_)
      rw [if_pos (by simp [Region.wanted, g7.1])]
      refine wp_store_mid t2 (.tmp 6) (.tmp 19) g7.2.2 bm 0 T2 y4 y1 (by rw [s1, ← hz2]; exact there_heap v4) (by rw [s1]; exact hi2) n1 ?_
      rw [g7.2.1, setCells_putL]
      have hhp := putL_heap T2.toList v4 (by simp [hz2, s1])
      have hS' : ∀ k, ¬ SetB b4 b5 bt bm k → k ≠ bm := fun k hn e => hn (.inr ⟨q5, e⟩)
      refine hK _ _ ⟨b0, b1, b2, b3, b4, b5, b6, true, rfl, hS, putL_below z4 _ _ _ hB, e0, e2, i6, fun _ => q6, i1, i3, T1, T2, bt, bm,
        fun h => ⟨(c1 h).1, (c1 h).2.1, (c1 h).2.2.1, (c1 h).2.2.2.go (Nat.le_of_eq (putL_size _ _ _).symm) (fun k _ hn => putL_block (hS' k hn) _ _ _) (fun _ _ h => h)⟩, fun h => ⟨y1, s1, n1, x1.go (Nat.le_of_eq (putL_size _ _ _).symm) (fun k _ hn => putL_block (hS' k hn) _ _ _) (fun _ _ h => h)⟩,
        fun h => ⟨(c4 h).1, (c4 h).2.1, (putL_block (fun e => hne h q5 e) _ _ _).trans (c4 h).2.2⟩, fun _ => ⟨y4, z4, by simpa using hhp⟩, hne⟩
end Go.Proofs.YtlghiakckkhekaaGreatDoor
