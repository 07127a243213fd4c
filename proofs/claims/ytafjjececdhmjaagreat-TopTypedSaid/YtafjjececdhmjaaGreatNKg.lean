/- Regions that draw their order, by what each operation leaves, in whatever order: an invariant over the operations that have been done. No function of the program in sight. The region of check.limits that makes an equation: the runs of its operations. The region of check.limits that makes an equation, in whatever order: what it leaves. Conditions: as told. the ring and the literal lie in memory as they are told. -/
import Derived.Test.YtafjjececdhmjaaGreatNKf
import Derived.Deep.MidRow
import Derived.RegionTactic
namespace Go.Proofs.YtafjjececdhmjaaGreat
open Go.RowKit

section
variable {P : Program} {ops : Array Oper} {Q : Exit → Act → World → Prop} {md : Region.Mode}
/-- How many are not yet done. -/
def undone (l : Array Bool) : Nat := l.toList.countP (fun b => !b)
theorem undone_set {l : Array Bool} {i : Nat} (hi : i < l.size) (h : l[i] = false) : undone (l.setIfInBounds i true) + 1 = undone l := by
  unfold undone
  obtain ⟨ls⟩ := l
  simp only [List.setIfInBounds_toArray] at *
  simp only [List.getElem_toArray] at *
  induction ls generalizing i with
  | nil => simp at hi
  | cons x r ih =>
    cases i with
    | zero => simp at h; subst h; simp
    | succ i =>
      have := ih (i := i) (by simpa using hi) (by simpa using h)
      simp only [List.set_cons_succ, List.countP_cons]
      omega
theorem ready_lt {l : Array Bool} {i : Nat} (h : i ∈ Region.ready md ops l) : ∃ hi : i < l.size, l[i] = false := by
  obtain ⟨h3, _⟩ := mem_ready.1 h
  by_cases hi : i < l.size
  · exact ⟨hi, by simpa [Array.getD, hi] using h3⟩
  · simp [Array.getD, hi] at h3
theorem ready_none {l : Array Bool} (h : undone l = 0) : Region.ready md ops l = [] := by
  rw [List.eq_nil_iff_forall_not_mem]
  intro i hi
  obtain ⟨h1, h2⟩ := ready_lt hi
  have := undone_set h1 h2
  omega
theorem wpAny_inv (I : Array Bool → Act → World → Prop) (hd : ∀ l a w, I l a w → Region.ready md ops l = [] → Q .normal a w)
    (hs : ∀ l a w i, I l a w → i ∈ Region.ready md ops l → wpOp P ops Q i (I (l.setIfInBounds i true)) a w) :
    ∀ (fuel : Nat) (l : Array Bool) (a : Act) (w : World), undone l ≤ fuel → I l a w → wpAny P md ops Q fuel l a w
  | 0, l, a, w, hu, h => ⟨ready_none (by omega), hd l a w h (ready_none (by omega))⟩
  | fuel + 1, l, a, w, hu, h => by
    refine ⟨fun h0 => hd l a w h h0, fun i hi => ?_⟩
    obtain ⟨h1, h2⟩ := ready_lt hi
    have h3 := undone_set h1 h2
    exact wpOp_mono (fun a' w' h' => wpAny_inv I hd hs fuel _ a' w' (by omega) h') (hs l a w i h hi)
/-- Each operation that has been done waited for those that it hangs on. -/
def Closed (md : Region.Mode) (ops : Array Oper) (D : Nat → Prop) : Prop := ∀ j o, D j → ops[j]? = some o → ∀ e ∈ o.after, Region.binds md e = true → D e.on
/-- **An invariant over what has been done serves for every order.** -/
theorem region_inv (J : (Nat → Prop) → Act → World → Prop) (hback : ∀ (i : Nat) (o : Oper), ops[i]? = some o → ∀ e ∈ o.after, e.on < i)
    (hend : ∀ D a w, J D a w → (∀ i, i < ops.size → D i) → Q .normal a w)
    (hstep : ∀ D a w i o, ops[i]? = some o → ¬ D i → Closed md ops D → (∀ e ∈ o.after, Region.binds md e = true → D e.on) → J D a w → wpOp P ops Q i (J (fun k => D k ∨ k = i)) a w)
    (a : Act) (w : World) (h : J (fun _ => False) a w) : wpAny P md ops Q ops.size (Array.replicate ops.size false) a w := by
  refine wpAny_inv (fun l a w => l.size = ops.size ∧ Closed md ops (fun k => l.getD k false = true) ∧ J (fun k => l.getD k false = true) a w) ?_ ?_ _ _ _ _ ?_ ?_
  · rintro l a w ⟨hs, hc, hj⟩ h0
    refine hend _ a w hj fun i => ?_
    induction i using Nat.strongRecOn with
    | ind i ih =>
      intro hi
      cases hl : l.getD i false with
      | true => rfl
      | false =>
        have ho : ops[i]? = some ops[i] := Array.getElem?_eq_getElem hi
        have hl2 : l.getD i true = false := by
          simp only [Array.getD, hs, hi, dif_pos] at hl ⊢
          exact hl
        have hm : i ∈ Region.ready md ops l := mem_ready.2 ⟨hl2, ops[i], ho, fun e he _ => ih e.on (hback i _ ho e he) (by have := hback i _ ho e he; omega)⟩
        rw [h0] at hm
        cases hm
  · rintro l a w i ⟨hs, hc, hj⟩ hi
    obtain ⟨_, o, ho, hd⟩ := mem_ready.1 hi
    obtain ⟨hlt, hf⟩ := ready_lt hi
    have hset : ∀ k, ((l.setIfInBounds i true).getD k false = true) ↔ (l.getD k false = true ∨ k = i) := fun k => by
      by_cases e : k = i
      · subst e
        simp [Array.getD, hlt]
      · simp [Array.getD_eq_getD_getElem?, Array.getElem?_setIfInBounds_ne (Ne.symm e), e]
    have hD : (fun k => (l.setIfInBounds i true).getD k false = true) = fun k => (l.getD k false = true ∨ k = i) := funext fun k => propext (hset k)
    refine wpOp_mono (fun a' w' h' => ⟨by simpa using hs, ?_, by rw [hD]; exact h'⟩) (hstep _ a w i o ho (by simpa [Array.getD, hlt] using hf) hc hd hj)
    rw [hD]
    intro j oj hj' hoj e he hb
    rcases hj' with h1 | h1
    · exact .inl (hc j oj h1 hoj e he hb)
    · subst h1
      rw [ho] at hoj
      cases hoj
      exact .inl (hd e he hb)
  · unfold undone
    simp
    exact Nat.le_trans List.countP_le_length (by simp)
  · refine ⟨by simp, ?_, ?_⟩
    · intro j o hj
      simp [Array.getD] at hj
    · have : (fun k => (Array.replicate ops.size false).getD k false = true) = fun _ => False := funext fun k => propext (by simp [Array.getD])
      rw [this]
      exact h
/-- An edge of the region, told by its numbers. -/
def edge (md : Region.Mode) (ops : Array Oper) (i j : Nat) : Bool := ((ops[i]?).map fun o => o.after.any fun e => e.on == j && Region.binds md e).getD false
theorem Closed.edge {D : Nat → Prop} (h : Closed md ops D) {i j : Nat} (he : edge md ops i j = true) (hi : D i) : D j := by
  unfold Go.Proofs.YtafjjececdhmjaaGreat.edge at he
  cases ho : ops[i]? with
  | none => simp [ho] at he
  | some o =>
    simp only [ho, Option.map_some, Option.getD_some, Array.any_eq_true', Bool.and_eq_true, beq_iff_eq] at he
    obtain ⟨e, hm, h1, h2⟩ := he
    rw [← h1]
    exact h i o hi ho e hm h2
theorem back_of (h : ((List.range ops.size).all fun i => ((ops[i]?).map fun o => o.after.all fun e => decide (e.on < i)).getD true) = true) : ∀ (i : Nat) (o : Oper), ops[i]? = some o → ∀ e ∈ o.after, e.on < i := by
  intro i o ho e he
  have hi : i < ops.size := (Array.getElem?_eq_some_iff.1 ho).1
  have h1 := List.all_eq_true.1 h i (by simpa using hi)
  simp only [ho, Option.map_some, Option.getD_some, Array.all_eq_true', decide_eq_true_eq] at h1
  exact h1 e he
end
theorem put_same {A : Act} {d : Nat} (h : d < A.tmps.size) (v : Value) : (A.put (some d) v).eval (.tmp d) = v := by
  simp [Act.put, Act.eval, Array.getD, h]
theorem put_other {A : Act} {d e : Nat} (h : d ≠ e) (v : Value) : (A.put (some d) v).eval (.tmp e) = A.eval (.tmp e) := by
  simp only [Act.put, Act.eval, Array.getD_eq_getD_getElem?]
  rw [Array.getElem?_setIfInBounds_ne h]
section
variable {P : Program} {Q : Exit → Act → World → Prop}
theorem wp_run1 {o : Oper} {a : Act} {w w' : World} {K : Act → World → Prop} (v : Value) (hr : (execOp a.eval o).run P w = .ok (.value v) w') (h : K (a.put o.dst v) w') : o.wp P a w K Q := by
  unfold Oper.wp
  rw [hr]
  exact h
theorem wp_call1 {o : Oper} {a : Act} {w : World} {K : Act → World → Prop} (f : FuncId) (x : Nat) (ats : Array TypeId) (ho : o.op = .call { callee := .value (.func f), args := #[.tmp x], argTypes := ats })
    (hF : ∀ (args : Array Value) (w : World), (callFunc f args).run P w = .ok (.enter f args) w) {R : Ending → World → Prop} (hc : Calls P f #[a.eval (.tmp x)] w R) (hR : ∀ r w', R r w' → ∃ v, r = .returned v ∧ K (a.put o.dst v) w') : o.wp P a w K Q := by
  have h1 : (execOp a.eval o).run P w = .ok (.enter f #[a.eval (.tmp x)]) w := by
    unfold execOp
    simp only [ho]
    simp [resolve, Deferred.ofValue, invoke, Act.eval, hF]
  unfold Oper.wp
  rw [h1, Oper.upon_enter]
  refine hc.mono ?_
  intro r w' hr
  obtain ⟨v, rfl, hk⟩ := hR r w' hr
  exact hk
end
end Go.Proofs.YtafjjececdhmjaaGreat

namespace Go.Proofs.YtafjjececdhmjaaGreat
open Go.RowKit Go.Maps

theorem rn_fldR (b : Nat) (w : World) : (Instr.fieldAt 156 (.pointer (some ⟨b, 0, none⟩)) 0).run Tryz.prog w = .ok (.pointer (some ⟨b, 0, none⟩)) w := by
  go_simp
theorem rn_fldL (b : Nat) (w : World) : (Instr.fieldAt 114 (.pointer (some ⟨b, 0, none⟩)) 3).run Tryz.prog w = .ok (.pointer (some ⟨b, 4, none⟩)) w := by
  go_simp
theorem rn_fldG (b : Nat) (w : World) : (Instr.fieldAt 114 (.pointer (some ⟨b, 0, none⟩)) 4).run Tryz.prog w = .ok (.pointer (some ⟨b, 10, none⟩)) w := by
  go_simp
theorem rn_loadR {b : Nat} {p : Option Addr} {n c : Nat} {w : World} (h : w.cell? ⟨b, 0, none⟩ = some (.slice p n c)) : (Instr.loadAt 154 (.pointer (some ⟨b, 0, none⟩))).run Tryz.prog w = .ok (.slice p n c) w := by
  go_simp
theorem rn_loadE {b o : Nat} {x0 x1 x2 x3 x4 x5 : Value} {w : World} (h0 : w.cell? ⟨b, o, none⟩ = some x0) (h1 : w.cell? ⟨b, o + 1, none⟩ = some x1) (h2 : w.cell? ⟨b, o + 2, none⟩ = some x2) (h3 : w.cell? ⟨b, o + 3, none⟩ = some x3) (h4 : w.cell? ⟨b, o + 4, none⟩ = some x4) (h5 : w.cell? ⟨b, o + 5, none⟩ = some x5) :
    (Instr.loadAt 112 (.pointer (some ⟨b, o, none⟩))).run Tryz.prog w = .ok (.agg #[x0, x1, x2, x3, x4, x5]) w := by
  go_simp
theorem rn_build (s0 s1 : ByteArray) (p q : Option Addr) (n c m d : Nat) (w : World) : (Instr.build 161 #[(0, .string s0), (1, .string s1), (2, .slice p n c), (3, .slice q m d)]).run Tryz.prog w = .ok (.agg #[.string s0, .string s1, .slice p n c, .slice q m d]) w := by
  go_simp
theorem rn_lit (s0 s1 : ByteArray) (p q : Option Addr) (n c m d : Nat) (w : World) : (Instr.buildSlice 154 1 #[(0, .agg #[.string s0, .string s1, .slice p n c, .slice q m d])]).run Tryz.prog w = .ok (.slice (some ⟨w.heap.size, 0, none⟩) 1 1) (w.alloc (.cells #[.string s0, .string s1, .slice p n c, .slice q m d] 161)) := by
  go_simp
theorem rn_store {b : Nat} {p p0 : Option Addr} {n c n0 c0 : Nat} {w : World} (h : w.cell? ⟨b, 0, none⟩ = some (.slice p0 n0 c0)) (hf : w.frozen? ⟨b, 0, none⟩ = false) : (Instr.storeAt 154 (.pointer (some ⟨b, 0, none⟩)) (.slice p n c)).run Tryz.prog w = .ok () (w.setCell ⟨b, 0, none⟩ (.slice p n c)) := by
  go_simp
/-- What is left of an act where only these slots are written. -/
structure SlotsR (lo hi : Nat) (A0 A : Act) : Prop where
  size : A.tmps.size = A0.tmps.size
  def_ : A.defers = A0.defers
  at_ : ∀ i, (i < lo ∨ hi ≤ i) → A.tmps[i]? = A0.tmps[i]?
theorem SlotsR.refl (lo hi : Nat) (A : Act) : SlotsR lo hi A A := ⟨rfl, rfl, fun _ _ => rfl⟩
theorem SlotsR.put {lo hi : Nat} {A0 A : Act} (h : SlotsR lo hi A0 A) {d : Nat} (h1 : lo ≤ d) (h2 : d < hi) (v : Value) : SlotsR lo hi A0 (A.put (some d) v) :=
  ⟨by simp [Act.put, h.size], h.def_, fun i hi => by
    simp only [Act.put]
    rw [Array.getElem?_setIfInBounds_ne (by omega)]
    exact h.at_ i hi⟩
theorem SlotsR.eval {lo hi : Nat} {A0 A : Act} (h : SlotsR lo hi A0 A) {i : Nat} (hi' : i < lo ∨ hi ≤ i) : A.eval (.tmp i) = A0.eval (.tmp i) := by
  simp only [Act.eval, Array.getD_eq_getD_getElem?]
  rw [h.at_ i hi']
theorem SlotsR.fold : ∀ (n lo : Nat) (A0 A : Act), SlotsR lo (lo + n) A0 A → lo + n ≤ A0.tmps.size → A = (List.range' lo n).foldl (fun B d => B.put (some d) (A.eval (.tmp d))) A0
  | 0, lo, A0, A, h, _ => by
    obtain ⟨T, D⟩ := A
    obtain ⟨T0, D0⟩ := A0
    obtain ⟨_, h2, h3⟩ := h
    have h4 : T = T0 := Array.ext_getElem? fun i => h3 i (by omega)
    subst h4
    have h5 : D = D0 := h2
    subst h5
    rfl
  | n + 1, lo, A0, A, h, hs => by
    have h1 : SlotsR (lo + 1) (lo + 1 + n) (A0.put (some lo) (A.eval (.tmp lo))) A := by
      refine ⟨by simp [Act.put, h.size], h.def_, fun i hi => ?_⟩
      simp only [Act.put]
      by_cases e : i = lo
      · rw [e, Array.getElem?_setIfInBounds_self_of_lt (by omega)]
        have h6 : lo < A.tmps.size := by rw [h.size]; omega
        simp [Act.eval, Array.getD, h6]
      · rw [Array.getElem?_setIfInBounds_ne (Ne.symm e)]
        exact h.at_ i (by omega)
    have h2 := SlotsR.fold n (lo + 1) _ A h1 (by simp only [Act.put, Array.size_setIfInBounds]; omega)
    rw [List.range'_succ, List.foldl_cons]
    exact h2
theorem dep_of {md : Region.Mode} {ops : Array Oper} {D : Nat → Prop} {i : Nat} {o : Oper} (ho : ops[i]? = some o) (hd : ∀ e ∈ o.after, Region.binds md e = true → D e.on) {j : Nat} (he : edge md ops i j = true) : D j := by
  unfold edge at he
  simp only [ho, Option.map_some, Option.getD_some, Array.any_eq_true', Bool.and_eq_true, beq_iff_eq] at he
  obtain ⟨e, hm, h1, h2⟩ := he
  rw [← h1]
  exact hd e hm h2
end Go.Proofs.YtafjjececdhmjaaGreat

namespace Go.Proofs.YtafjjececdhmjaaGreat
open Go.RowKit Go.Maps

/-- What the region knows: where it began, the ring's row, the literal's two sides. -/
structure EqE (V : World) (B br b6 n : Nat) (sv : Value) (xs : List Value) {d : Nat} (x : Lt d) (pl pg : Option Addr) (cl cg : Nat) : Prop where
  own : V.ownsRowF B 161 4 sv n xs
  base : B ≤ V.heap.size
  n_ : n ≤ 1000000
  br_ : V.heap[br]? = some (.cells #[sv] 156 (0, 0))
  c4 : V.cell? ⟨b6, 4, none⟩ = some (.int .i8 (exOp d x.l))
  c5 : V.cell? ⟨b6, 5, none⟩ = some (.string (exTm d x.l).v)
  c6 : V.cell? ⟨b6, 6, none⟩ = some (.int .i8 (exTm d x.l).x.k)
  c7 : V.cell? ⟨b6, 7, none⟩ = some (.int .i64 (exTm d x.l).x.n)
  c8 : V.cell? ⟨b6, 8, none⟩ = some (.string (exTm d x.l).x.t)
  c9 : V.cell? ⟨b6, 9, none⟩ = some (.slice pl (exLen d x.l) cl)
  c10 : V.cell? ⟨b6, 10, none⟩ = some (.int .i8 (exOp d x.g))
  c11 : V.cell? ⟨b6, 11, none⟩ = some (.string (exTm d x.g).v)
  c12 : V.cell? ⟨b6, 12, none⟩ = some (.int .i8 (exTm d x.g).x.k)
  c13 : V.cell? ⟨b6, 13, none⟩ = some (.int .i64 (exTm d x.g).x.n)
  c14 : V.cell? ⟨b6, 14, none⟩ = some (.string (exTm d x.g).x.t)
  c15 : V.cell? ⟨b6, 15, none⟩ = some (.slice pg (exLen d x.g) cg)
  sl : exSl d x.l = .slice pl (exLen d x.l) cl
  sg : exSl d x.g = .slice pg (exLen d x.g) cg
  la : ExAt V d x.l
  ga : ExAt V d x.g
  lr : ExR d x.l
  gr : ExR d x.g
  ll : (exTms d x.l).length ≤ 10000
  gl : (exTms d x.g).length ≤ 10000
/-- The equation that a literal is, its lists in memory from B on. -/
structure Qn (w : World) (B : Nat) {d : Nat} (x : Lt d) (q : Eqn) : Prop where
  left : q.left = loneB (exOp d x.l) (exTm d x.l).v (exLen d x.l)
  right : q.right = loneB (exOp d x.g) (exTm d x.g).v (exLen d x.g)
  ls : q.ls = varsL (exTms d x.l)
  rs : q.rs = varsL (exTms d x.g)
  la : SsAt w B q.lp q.ls
  ra : SsAt w B q.rp q.rs
/-- What each operation's value is. -/
def R9 (V : World) (B br b6 n : Nat) (sv : Value) (xs : List Value) {d : Nat} (x : Lt d) (pl pg : Option Addr) (cl cg : Nat) : Nat → Value → World → Prop
  | 0, v, _ => v = .pointer (some ⟨br, 0, none⟩)
  | 1, v, _ => v = sv
  | 2, v, _ => v = .pointer (some ⟨b6, 4, none⟩)
  | 3, v, _ => v = .agg #[.int .i8 (exOp d x.l), .string (exTm d x.l).v, .int .i8 (exTm d x.l).x.k, .int .i64 (exTm d x.l).x.n, .string (exTm d x.l).x.t, .slice pl (exLen d x.l) cl]
  | 4, v, _ => v = .string (loneB (exOp d x.l) (exTm d x.l).v (exLen d x.l))
  | 5, v, _ => v = .pointer (some ⟨b6, 10, none⟩)
  | 6, v, _ => v = .agg #[.int .i8 (exOp d x.g), .string (exTm d x.g).v, .int .i8 (exTm d x.g).x.k, .int .i64 (exTm d x.g).x.n, .string (exTm d x.g).x.t, .slice pg (exLen d x.g) cg]
  | 7, v, _ => v = .string (loneB (exOp d x.g) (exTm d x.g).v (exLen d x.g))
  | 8, v, _ => v = .pointer (some ⟨b6, 4, none⟩)
  | 9, v, _ => v = .agg #[.int .i8 (exOp d x.l), .string (exTm d x.l).v, .int .i8 (exTm d x.l).x.k, .int .i64 (exTm d x.l).x.n, .string (exTm d x.l).x.t, .slice pl (exLen d x.l) cl]
  | 10, v, w => ∃ p c, v = .slice p (varsL (exTms d x.l)).length c ∧ SsAt w V.heap.size p (varsL (exTms d x.l))
  | 11, v, _ => v = .pointer (some ⟨b6, 10, none⟩)
  | 12, v, _ => v = .agg #[.int .i8 (exOp d x.g), .string (exTm d x.g).v, .int .i8 (exTm d x.g).x.k, .int .i64 (exTm d x.g).x.n, .string (exTm d x.g).x.t, .slice pg (exLen d x.g) cg]
  | 13, v, w => ∃ p c, v = .slice p (varsL (exTms d x.g)).length c ∧ SsAt w V.heap.size p (varsL (exTms d x.g))
  | 14, v, w => ∃ q : Eqn, Qn w V.heap.size x q ∧ v = .agg #[.string q.left, .string q.right, .slice q.lp q.ls.length q.lc, .slice q.rp q.rs.length q.rc]
  | 15, v, w => ∃ (q : Eqn) (bq : Nat), Qn w V.heap.size x q ∧ v = .slice (some ⟨bq, 0, none⟩) 1 1 ∧ V.heap.size ≤ bq ∧ w.heap[bq]? = some (.cells #[.string q.left, .string q.right, .slice q.lp q.ls.length q.lc, .slice q.rp q.rs.length q.rc] 161 (0, 0))
  | 16, v, w => ∃ q : Eqn, Qn w V.heap.size x q ∧ (∃ p c, v = .slice p (n + 1) c) ∧ w.ownsRowF B 161 4 v (n + 1) (xs ++ q.cells) ∧ ∀ g, v.ownBlock = some g → sv.ownBlock = some g ∨ (V.heap.size ≤ g ∧ SsOff (fun k => k = g) w q.lp q.ls ∧ SsOff (fun k => k = g) w q.rp q.rs)
  | 17, v, _ => v = .pointer (some ⟨br, 0, none⟩)
  | _, _, _ => True
/-- What the region leaves. -/
def Fin9 (V : World) (B br n : Nat) (sv : Value) (xs : List Value) {d : Nat} (x : Lt d) (w : World) : Prop :=
  ∃ (q : Eqn) (p : Option Addr) (c : Nat) (w2 : World), w = w2.setCell ⟨br, 0, none⟩ (.slice p (n + 1) c) ∧ V.grownBy w2 sv.ownBlock ∧ Qn w2 V.heap.size x q ∧ w2.ownsRowF B 161 4 (.slice p (n + 1) c) (n + 1) (xs ++ q.cells) ∧ ∀ g, (Value.slice p (n + 1) c).ownBlock = some g → sv.ownBlock = some g ∨ (V.heap.size ≤ g ∧ SsOff (fun k => k = g) w2 q.lp q.ls ∧ SsOff (fun k => k = g) w2 q.rp q.rs)
def J9 (A0 : Act) (V : World) (B br b6 n : Nat) (sv : Value) (xs : List Value) {d : Nat} (x : Lt d) (pl pg : Option Addr) (cl cg : Nat) (D : Nat → Prop) (a : Act) (w : World) : Prop :=
  SlotsR 34 52 A0 a ∧ ((D 18 ∧ Fin9 V B br n sv xs x w) ∨ (¬ D 18 ∧ V.grownBy w sv.ownBlock ∧ (¬ D 16 → Below V.heap.size V w) ∧ ∀ i, i < 18 → D i → R9 V B br b6 n sv xs x pl pg cl cg i (a.eval (.tmp (34 + i))) w))
theorem SsAt.keep {w w' : World} {B : Nat} {p : Option Addr} {l : List (List UInt8)} (h : SsAt w B p l) (hs : w.heap.size ≤ w'.heap.size) (hb : ∀ k, B ≤ k → k < w.heap.size → w'.heap[k]? = w.heap[k]?) : SsAt w' B p l := by
  rcases h with h0 | ⟨a, o, hp, hB, ha, hc⟩
  · exact .inl h0
  · exact .inr ⟨a, o, hp, hB, by omega, fun i hi => (World.cell?_of_block (w := w) (a := ⟨a, o + i, none⟩) (hb a hB ha)).trans (hc i hi)⟩
/-- A list that was there lies in no block that is made later. -/
theorem SsAt.offAt {w : World} {B g : Nat} {p : Option Addr} {l : List (List UInt8)} (h : SsAt w B p l) (hg : w.heap.size ≤ g) : SsAt w B p l ∧ SsOff (fun k => k = g) w p l := by
  refine ⟨h, ?_⟩
  rcases h with h0 | ⟨a, o, hp, hB, ha, hc⟩
  · exact .inl h0
  · exact .inr ⟨a, o, hp, fun e => by omega, ha, hc⟩
theorem ss_keepOff {w w' V : World} {g : Nat} {p : Option Addr} {l : List (List UInt8)} (h : SsAt w V.heap.size p l ∧ SsOff (fun k => k = g) w p l) (_ : V.heap.size ≤ w.heap.size) (hs : w.heap.size ≤ w'.heap.size) (hb : ∀ k, V.heap.size ≤ k → k < w.heap.size → w'.heap[k]? = w.heap[k]?) : SsOff (fun k => k = g) w' p l := by
  rcases h.2 with h0 | ⟨a, o, hp, hB, ha, hc⟩
  · exact .inl h0
  · rcases h.1 with h0 | ⟨a', o', hp', hB', _, _⟩
    · exact .inl h0
    · rw [hp] at hp'
      cases hp'
      exact .inr ⟨a, o, hp, hB, by omega, fun i hi => (World.cell?_of_block (w := w) (a := ⟨a, o + i, none⟩) (hb a hB' ha)).trans (hc i hi)⟩
theorem Qn.keep {w w' : World} {B d : Nat} {x : Lt d} {q : Eqn} (h : Qn w B x q) (hs : w.heap.size ≤ w'.heap.size) (hb : ∀ k, B ≤ k → k < w.heap.size → w'.heap[k]? = w.heap[k]?) : Qn w' B x q :=
  ⟨h.left, h.right, h.ls, h.rs, h.la.keep hs hb, h.ra.keep hs hb⟩
section
variable {V : World} {B br b6 n : Nat} {sv : Value} {xs : List Value} {d : Nat} {x : Lt d} {pl pg : Option Addr} {cl cg : Nat}
theorem R9.keep {w w' : World} {v : Value} : ∀ {i : Nat}, i ≠ 16 → R9 V B br b6 n sv xs x pl pg cl cg i v w → w.heap.size ≤ w'.heap.size → (∀ k, V.heap.size ≤ k → k < w.heap.size → w'.heap[k]? = w.heap[k]?) → R9 V B br b6 n sv xs x pl pg cl cg i v w'
  | 0, _, h, _, _ | 1, _, h, _, _ | 2, _, h, _, _ | 3, _, h, _, _ | 4, _, h, _, _ | 5, _, h, _, _ | 6, _, h, _, _ | 7, _, h, _, _ | 8, _, h, _, _ | 9, _, h, _, _ | 11, _, h, _, _ | 12, _, h, _, _ | 17, _, h, _, _ => h
  | 10, _, ⟨p, c, h1, h2⟩, hs, hb | 13, _, ⟨p, c, h1, h2⟩, hs, hb => ⟨p, c, h1, h2.keep hs hb⟩
  | 14, _, ⟨q, h1, h2⟩, hs, hb => ⟨q, h1.keep hs hb, h2⟩
  | 15, _, ⟨q, bq, h1, h2, h3, h4⟩, hs, hb => ⟨q, bq, h1.keep hs hb, h2, h3, (hb bq h3 (Array.getElem?_eq_some_iff.1 h4).1).trans h4⟩
  | 16, h, _, _, _ => absurd rfl h
  | _ + 18, _, _, _, _ => trivial
theorem R9.below {w w' : World} {v : Value} {i : Nat} (h : R9 V B br b6 n sv xs x pl pg cl cg i v w) (hb : Below w.heap.size w w') : R9 V B br b6 n sv xs x pl pg cl cg i v w' := by
  by_cases e : i = 16
  · subst e
    obtain ⟨q, h1, h2, h3, h4⟩ := h
    exact ⟨q, h1.keep hb.size fun k _ hk => hb.block k hk, h2, own_below h3 hb, fun g hg => (h4 g hg).imp id fun h => ⟨h.1, h.2.1.step (.of_below hb), h.2.2.step (.of_below hb)⟩⟩
  · exact h.keep e hb.size fun k _ hk => hb.block k hk
theorem below_grown {w w' : World} {r : Option Nat} (h : V.grownBy w r) (hb : Below w.heap.size w w') : V.grownBy w' r :=
  ⟨hb.os.trans h.os, hb.tape.trans h.tape, hb.output.trans h.output, Nat.le_trans h.size hb.size, fun k hk hne => (hb.block k (Nat.lt_of_lt_of_le hk h.size)).trans (h.block k hk hne)⟩
variable {A0 : Act}
theorem J9.put {D : Nat → Prop} {a : Act} {w w' : World} {i : Nat} {v : Value} (hsz : 52 ≤ A0.tmps.size) (h : J9 A0 V B br b6 n sv xs x pl pg cl cg D a w) (h18 : ¬ D 18) (hi : i < 18) (hi16 : i ≠ 16) (hb : Below w.heap.size w w') (hr : R9 V B br b6 n sv xs x pl pg cl cg i v w') :
    J9 A0 V B br b6 n sv xs x pl pg cl cg (fun k => D k ∨ k = i) (a.put (some (34 + i)) v) w' := by
  obtain ⟨hS, ⟨h1, _⟩ | ⟨_, h2, h3, h4⟩⟩ := h
  · exact absurd h1 h18
  · refine ⟨hS.put (by omega) (by omega) v, .inr ⟨fun h => h.elim h18 (by omega), below_grown h2 hb, fun h => ((h3 fun h5 => h (.inl h5)).trans (hb.mono h2.size)), fun j hj hd => ?_⟩⟩
    by_cases e : j = i
    · subst e
      rw [put_same (by rw [hS.size]; omega)]
      exact hr
    · rw [put_other (by omega)]
      exact (h4 j hj (hd.resolve_right e)).below hb
end

set_option maxHeartbeats 8000000 in
set_option maxRecDepth 100000 in
theorem eq_region {ops : Array Oper} {Q : Exit → Act → World → Prop} {o0 o1 o2 o3 o4 o5 o6 o7 o8 o9 o10 o11 o12 o13 o14 o15 o16 o17 o18 : Oper} (hops : ops = #[o0, o1, o2, o3, o4, o5, o6, o7, o8, o9, o10, o11, o12, o13, o14, o15, o16, o17, o18])
    (g0 : o0.guard = none ∧ o0.dst = some 34 ∧ o0.op = .fieldAddr 156 (.tmp 4) 0)
    (g1 : o1.guard = none ∧ o1.dst = some 35 ∧ o1.op = .load 154 (.tmp 34))
    (g2 : o2.guard = none ∧ o2.dst = some 36 ∧ o2.op = .fieldAddr 114 (.tmp 6) 3)
    (g3 : o3.guard = none ∧ o3.dst = some 37 ∧ o3.op = .load 112 (.tmp 36))
    (g4 : ∃ ats, o4.guard = none ∧ o4.dst = some 38 ∧ o4.op = .call { callee := .value (.func 72), args := #[.tmp 37], argTypes := ats })
    (g5 : o5.guard = none ∧ o5.dst = some 39 ∧ o5.op = .fieldAddr 114 (.tmp 6) 4)
    (g6 : o6.guard = none ∧ o6.dst = some 40 ∧ o6.op = .load 112 (.tmp 39))
    (g7 : ∃ ats, o7.guard = none ∧ o7.dst = some 41 ∧ o7.op = .call { callee := .value (.func 72), args := #[.tmp 40], argTypes := ats })
    (g8 : o8.guard = none ∧ o8.dst = some 42 ∧ o8.op = .fieldAddr 114 (.tmp 6) 3)
    (g9 : o9.guard = none ∧ o9.dst = some 43 ∧ o9.op = .load 112 (.tmp 42))
    (g10 : ∃ ats, o10.guard = none ∧ o10.dst = some 44 ∧ o10.op = .call { callee := .value (.func 73), args := #[.tmp 43], argTypes := ats })
    (g11 : o11.guard = none ∧ o11.dst = some 45 ∧ o11.op = .fieldAddr 114 (.tmp 6) 4)
    (g12 : o12.guard = none ∧ o12.dst = some 46 ∧ o12.op = .load 112 (.tmp 45))
    (g13 : ∃ ats, o13.guard = none ∧ o13.dst = some 47 ∧ o13.op = .call { callee := .value (.func 73), args := #[.tmp 46], argTypes := ats })
    (g14 : o14.guard = none ∧ o14.dst = some 48 ∧ o14.op = .build 161 #[(0, .tmp 38), (1, .tmp 41), (2, .tmp 44), (3, .tmp 47)])
    (g15 : o15.guard = none ∧ o15.dst = some 49 ∧ o15.op = .buildSlice 154 1 #[(0, .tmp 48)])
    (g16 : o16.guard = none ∧ o16.dst = some 50 ∧ o16.op = .call { callee := .builtin .append, args := #[.tmp 35, .tmp 49], argTypes := #[154, 154] })
    (g17 : o17.guard = none ∧ o17.dst = some 51 ∧ o17.op = .fieldAddr 156 (.tmp 4) 0)
    (g18 : o18.guard = none ∧ o18.dst = none ∧ o18.op = .store 154 (.tmp 51) (.tmp 50))
    (hback : ∀ (i : Nat) (o : Oper), ops[i]? = some o → ∀ e ∈ o.after, e.on < i)
    (hed : (edge .any ops 1 0 && edge .any ops 3 2 && edge .any ops 4 3 && edge .any ops 6 5 && edge .any ops 7 6 && edge .any ops 9 8 && edge .any ops 10 9 && edge .any ops 12 11 && edge .any ops 13 12 && edge .any ops 14 4 && edge .any ops 14 7 && edge .any ops 14 10 && edge .any ops 14 13 && edge .any ops 15 14 && edge .any ops 16 15 && edge .any ops 16 1 && edge .any ops 18 16 && edge .any ops 18 17) = true)
    (hF1 : ∀ (args : Array Value) (w : World), (callFunc 72 args).run Tryz.prog w = .ok (.enter 72 args) w) (hF2 : ∀ (args : Array Value) (w : World), (callFunc 73 args).run Tryz.prog w = .ok (.enter 73 args) w)
    {V : World} {B br b6 n : Nat} {sv : Value} {xs : List Value} {d : Nat} {x : Lt d} {pl pg : Option Addr} {cl cg : Nat} (A0 : Act) (hsz : 52 ≤ A0.tmps.size) (a4 : A0.eval (.tmp 4) = .pointer (some ⟨br, 0, none⟩)) (a6 : A0.eval (.tmp 6) = .pointer (some ⟨b6, 0, none⟩)) (E : EqE V B br b6 n sv xs x pl pg cl cg)
    (hQ : ∀ A w, SlotsR 34 52 A0 A → Fin9 V B br n sv xs x w → Q .normal A w) (W0 : World) (hW0 : Below V.heap.size V W0) : wpAny Tryz.prog .any ops Q ops.size (Array.replicate ops.size false) A0 W0 := by
  obtain ⟨ps, cs, rfl⟩ := own_slice4 E.own
  simp only [Bool.and_eq_true] at hed
  obtain ⟨⟨⟨⟨⟨⟨⟨⟨⟨⟨⟨⟨⟨⟨⟨⟨⟨e1_0, e3_2⟩, e4_3⟩, e6_5⟩, e7_6⟩, e9_8⟩, e10_9⟩, e12_11⟩, e13_12⟩, e14_4⟩, e14_7⟩, e14_10⟩, e14_13⟩, e15_14⟩, e16_15⟩, e16_1⟩, e18_16⟩, e18_17⟩ := hed
  obtain ⟨i0, hi0, hzz⟩ := Option.map_eq_some_iff.1 infoEqn
  simp only [Prod.mk.injEq] at hzz
  obtain ⟨hz0, hz1, hz2⟩ := hzz
  have hne : some br ≠ (Value.slice ps n cs).ownBlock := by
    intro e
    rcases E.own.2 with ⟨hv, _⟩ | ⟨g, cap, cur, fz, hv, _, hg2, _⟩
    · rw [hv] at e; cases e
    · rw [hv] at e
      obtain rfl : br = g := by simpa [Value.ownBlock] using e
      rw [E.br_] at hg2
      simp only [Option.some.injEq, Obj.cells.injEq] at hg2
      exact absurd hg2.2.1 (by decide)
  have hbr := (Array.getElem?_eq_some_iff.1 E.br_).1
  refine region_inv (J9 A0 V B br b6 n (.slice ps n cs) xs x pl pg cl cg) hback ?_ ?_ A0 W0 ⟨SlotsR.refl _ _ _, .inr ⟨id, ⟨hW0.os, hW0.tape, hW0.output, hW0.size, fun k hk _ => hW0.block k hk⟩, fun _ => hW0, fun i _ h => h.elim⟩⟩
  · rintro D a w ⟨hS, ⟨_, hf⟩ | ⟨h1, _⟩⟩ hall
    · exact hQ a w hS hf
    · exact absurd (hall 18 (by rw [hops]; show 18 < 19; omega)) h1
  · intro D a w i o ho hni hcl hd hj
    have hi : i < 19 := by
      have := (Array.getElem?_eq_some_iff.1 ho).1
      rw [hops] at this
      exact this
    have up14 : D 16 → D 14 := fun h => hcl.edge e15_14 (hcl.edge e16_15 h)
    have up18 : D 18 → D 16 := fun h => hcl.edge e18_16 h
    have hj' := hj
    obtain ⟨hS, hj2⟩ := hj
    have b4 : a.eval (.tmp 4) = .pointer (some ⟨br, 0, none⟩) := (hS.eval (by omega)).trans a4
    have b6' : a.eval (.tmp 6) = .pointer (some ⟨b6, 0, none⟩) := (hS.eval (by omega)).trans a6
    rcases (show i = 0 ∨ i = 1 ∨ i = 2 ∨ i = 3 ∨ i = 4 ∨ i = 5 ∨ i = 6 ∨ i = 7 ∨ i = 8 ∨ i = 9 ∨ i = 10 ∨ i = 11 ∨ i = 12 ∨ i = 13 ∨ i = 14 ∨ i = 15 ∨ i = 16 ∨ i = 17 ∨ i = 18 by omega) with rfl | rfl | rfl | rfl | rfl | rfl | rfl | rfl | rfl | rfl | rfl | rfl | rfl | rfl | rfl | rfl | rfl | rfl | rfl
    · obtain rfl : o = o0 := by rw [hops] at ho; simpa using ho.symm
      have n16 : ¬ D 16 := fun h => hni (hcl.edge e1_0 (hcl.edge e16_1 h))
      have n18 : ¬ D 18 := fun h => n16 (up18 h)
      obtain ⟨_, hgr, hbl, hR⟩ := hj2.resolve_left fun h => n18 h.1
      have hB := hbl n16
      obtain ⟨gg1, gg2, gg3⟩ := g0
      refine wpOp_step (o := o) ho (fun K hK => ?_)
      rw [if_pos (by simp [Region.wanted, gg1])]
      refine wp_run1 (.pointer (some ⟨br, 0, none⟩)) (by unfold execOp; simp only [gg3, b4]; rw [Sem.run_bind, rn_fldR]; rfl) (by rw [gg2]; exact hK _ _ (hj'.put hsz n18 (i := 0) (by omega) (by omega) (Below.refl _ _) rfl))
    · obtain rfl : o = o1 := by rw [hops] at ho; simpa using ho.symm
      have n16 : ¬ D 16 := fun h => hni (hcl.edge e16_1 h)
      have n18 : ¬ D 18 := fun h => n16 (up18 h)
      obtain ⟨_, hgr, hbl, hR⟩ := hj2.resolve_left fun h => n18 h.1
      have hB := hbl n16
      obtain ⟨gg1, gg2, gg3⟩ := g1
      have r0 := hR 0 (by omega) (dep_of ho hd e1_0)
      refine wpOp_step (o := o) ho (fun K hK => ?_)
      rw [if_pos (by simp [Region.wanted, gg1])]
      have r0' : a.eval (.tmp 34) = .pointer (some ⟨br, 0, none⟩) := r0
      have c0 : w.cell? ⟨br, 0, none⟩ = some (.slice ps n cs) := by rw [Lib.cell_of_heap ((hgr.block br hbr hne).trans E.br_)]; rfl
      refine wp_run1 (.slice ps n cs) (by unfold execOp; simp only [gg3, r0']; rw [Sem.run_bind, rn_loadR c0]; rfl) (by rw [gg2]; exact hK _ _ (hj'.put hsz n18 (i := 1) (by omega) (by omega) (Below.refl _ _) rfl))
    · obtain rfl : o = o2 := by rw [hops] at ho; simpa using ho.symm
      have n16 : ¬ D 16 := fun h => hni (hcl.edge e3_2 (hcl.edge e4_3 (hcl.edge e14_4 (up14 h))))
      have n18 : ¬ D 18 := fun h => n16 (up18 h)
      obtain ⟨_, hgr, hbl, hR⟩ := hj2.resolve_left fun h => n18 h.1
      have hB := hbl n16
      obtain ⟨gg1, gg2, gg3⟩ := g2
      refine wpOp_step (o := o) ho (fun K hK => ?_)
      rw [if_pos (by simp [Region.wanted, gg1])]
      refine wp_run1 (.pointer (some ⟨b6, 4, none⟩)) (by unfold execOp; simp only [gg3, b6']; rw [Sem.run_bind, rn_fldL]; rfl) (by rw [gg2]; exact hK _ _ (hj'.put hsz n18 (i := 2) (by omega) (by omega) (Below.refl _ _) rfl))
    · obtain rfl : o = o3 := by rw [hops] at ho; simpa using ho.symm
      have n16 : ¬ D 16 := fun h => hni (hcl.edge e4_3 (hcl.edge e14_4 (up14 h)))
      have n18 : ¬ D 18 := fun h => n16 (up18 h)
      obtain ⟨_, hgr, hbl, hR⟩ := hj2.resolve_left fun h => n18 h.1
      have hB := hbl n16
      obtain ⟨gg1, gg2, gg3⟩ := g3
      have r2 := hR 2 (by omega) (dep_of ho hd e3_2)
      refine wpOp_step (o := o) ho (fun K hK => ?_)
      rw [if_pos (by simp [Region.wanted, gg1])]
      have rr : a.eval (.tmp 36) = .pointer (some ⟨b6, 4, none⟩) := r2
      have hlt6 : b6 < V.heap.size := World.block_lt_of_cell? V ⟨b6, 4, none⟩ E.c4
      refine wp_run1 (.agg #[.int .i8 (exOp d x.l), .string (exTm d x.l).v, .int .i8 (exTm d x.l).x.k, .int .i64 (exTm d x.l).x.n, .string (exTm d x.l).x.t, .slice pl (exLen d x.l) cl]) (by unfold execOp; simp only [gg3, rr]; rw [Sem.run_bind, rn_loadE (b := b6) (o := 4) ((hB.cell (p := ⟨b6, 4, none⟩) hlt6).trans E.c4) ((hB.cell (p := ⟨b6, 5, none⟩) hlt6).trans E.c5) ((hB.cell (p := ⟨b6, 6, none⟩) hlt6).trans E.c6) ((hB.cell (p := ⟨b6, 7, none⟩) hlt6).trans E.c7) ((hB.cell (p := ⟨b6, 8, none⟩) hlt6).trans E.c8) ((hB.cell (p := ⟨b6, 9, none⟩) hlt6).trans E.c9)]; rfl) (by rw [gg2]; exact hK _ _ (hj'.put hsz n18 (i := 3) (by omega) (by omega) (Below.refl _ _) rfl))
    · obtain rfl : o = o4 := by rw [hops] at ho; simpa using ho.symm
      have n16 : ¬ D 16 := fun h => hni (hcl.edge e14_4 (up14 h))
      have n18 : ¬ D 18 := fun h => n16 (up18 h)
      obtain ⟨_, hgr, hbl, hR⟩ := hj2.resolve_left fun h => n18 h.1
      have hB := hbl n16
      obtain ⟨ats, gg1, gg2, gg3⟩ := g4
      have r3 := hR 3 (by omega) (dep_of ho hd e4_3)
      refine wpOp_step (o := o) ho (fun K hK => ?_)
      rw [if_pos (by simp [Region.wanted, gg1])]
      have rr : a.eval (.tmp 37) = .agg #[.int .i8 (exOp d x.l), .string (exTm d x.l).v, .int .i8 (exTm d x.l).x.k, .int .i64 (exTm d x.l).x.n, .string (exTm d x.l).x.t, .slice pl (exLen d x.l) cl] := r3
      refine wp_call1 72 37 ats gg3 hF1 (by rw [rr]; exact tLone _ _ _ _ _ _ _ _ w) ?_
      rintro r w' ⟨rfl, hb⟩
      exact ⟨_, rfl, by rw [gg2]; exact hK _ _ (hj'.put hsz n18 (i := 4) (by omega) (by omega) hb rfl)⟩
    · obtain rfl : o = o5 := by rw [hops] at ho; simpa using ho.symm
      have n16 : ¬ D 16 := fun h => hni (hcl.edge e6_5 (hcl.edge e7_6 (hcl.edge e14_7 (up14 h))))
      have n18 : ¬ D 18 := fun h => n16 (up18 h)
      obtain ⟨_, hgr, hbl, hR⟩ := hj2.resolve_left fun h => n18 h.1
      have hB := hbl n16
      obtain ⟨gg1, gg2, gg3⟩ := g5
      refine wpOp_step (o := o) ho (fun K hK => ?_)
      rw [if_pos (by simp [Region.wanted, gg1])]
      refine wp_run1 (.pointer (some ⟨b6, 10, none⟩)) (by unfold execOp; simp only [gg3, b6']; rw [Sem.run_bind, rn_fldG]; rfl) (by rw [gg2]; exact hK _ _ (hj'.put hsz n18 (i := 5) (by omega) (by omega) (Below.refl _ _) rfl))
    · obtain rfl : o = o6 := by rw [hops] at ho; simpa using ho.symm
      have n16 : ¬ D 16 := fun h => hni (hcl.edge e7_6 (hcl.edge e14_7 (up14 h)))
      have n18 : ¬ D 18 := fun h => n16 (up18 h)
      obtain ⟨_, hgr, hbl, hR⟩ := hj2.resolve_left fun h => n18 h.1
      have hB := hbl n16
      obtain ⟨gg1, gg2, gg3⟩ := g6
      have r5 := hR 5 (by omega) (dep_of ho hd e6_5)
      refine wpOp_step (o := o) ho (fun K hK => ?_)
      rw [if_pos (by simp [Region.wanted, gg1])]
      have rr : a.eval (.tmp 39) = .pointer (some ⟨b6, 10, none⟩) := r5
      have hlt6 : b6 < V.heap.size := World.block_lt_of_cell? V ⟨b6, 4, none⟩ E.c4
      refine wp_run1 (.agg #[.int .i8 (exOp d x.g), .string (exTm d x.g).v, .int .i8 (exTm d x.g).x.k, .int .i64 (exTm d x.g).x.n, .string (exTm d x.g).x.t, .slice pg (exLen d x.g) cg]) (by unfold execOp; simp only [gg3, rr]; rw [Sem.run_bind, rn_loadE (b := b6) (o := 10) ((hB.cell (p := ⟨b6, 10, none⟩) hlt6).trans E.c10) ((hB.cell (p := ⟨b6, 11, none⟩) hlt6).trans E.c11) ((hB.cell (p := ⟨b6, 12, none⟩) hlt6).trans E.c12) ((hB.cell (p := ⟨b6, 13, none⟩) hlt6).trans E.c13) ((hB.cell (p := ⟨b6, 14, none⟩) hlt6).trans E.c14) ((hB.cell (p := ⟨b6, 15, none⟩) hlt6).trans E.c15)]; rfl) (by rw [gg2]; exact hK _ _ (hj'.put hsz n18 (i := 6) (by omega) (by omega) (Below.refl _ _) rfl))
    · obtain rfl : o = o7 := by rw [hops] at ho; simpa using ho.symm
      have n16 : ¬ D 16 := fun h => hni (hcl.edge e14_7 (up14 h))
      have n18 : ¬ D 18 := fun h => n16 (up18 h)
      obtain ⟨_, hgr, hbl, hR⟩ := hj2.resolve_left fun h => n18 h.1
      have hB := hbl n16
      obtain ⟨ats, gg1, gg2, gg3⟩ := g7
      have r6 := hR 6 (by omega) (dep_of ho hd e7_6)
      refine wpOp_step (o := o) ho (fun K hK => ?_)
      rw [if_pos (by simp [Region.wanted, gg1])]
      have rr : a.eval (.tmp 40) = .agg #[.int .i8 (exOp d x.g), .string (exTm d x.g).v, .int .i8 (exTm d x.g).x.k, .int .i64 (exTm d x.g).x.n, .string (exTm d x.g).x.t, .slice pg (exLen d x.g) cg] := r6
      refine wp_call1 72 40 ats gg3 hF1 (by rw [rr]; exact tLone _ _ _ _ _ _ _ _ w) ?_
      rintro r w' ⟨rfl, hb⟩
      exact ⟨_, rfl, by rw [gg2]; exact hK _ _ (hj'.put hsz n18 (i := 7) (by omega) (by omega) hb rfl)⟩
    · obtain rfl : o = o8 := by rw [hops] at ho; simpa using ho.symm
      have n16 : ¬ D 16 := fun h => hni (hcl.edge e9_8 (hcl.edge e10_9 (hcl.edge e14_10 (up14 h))))
      have n18 : ¬ D 18 := fun h => n16 (up18 h)
      obtain ⟨_, hgr, hbl, hR⟩ := hj2.resolve_left fun h => n18 h.1
      have hB := hbl n16
      obtain ⟨gg1, gg2, gg3⟩ := g8
      refine wpOp_step (o := o) ho (fun K hK => ?_)
      rw [if_pos (by simp [Region.wanted, gg1])]
      refine wp_run1 (.pointer (some ⟨b6, 4, none⟩)) (by unfold execOp; simp only [gg3, b6']; rw [Sem.run_bind, rn_fldL]; rfl) (by rw [gg2]; exact hK _ _ (hj'.put hsz n18 (i := 8) (by omega) (by omega) (Below.refl _ _) rfl))
    · obtain rfl : o = o9 := by rw [hops] at ho; simpa using ho.symm
      have n16 : ¬ D 16 := fun h => hni (hcl.edge e10_9 (hcl.edge e14_10 (up14 h)))
      have n18 : ¬ D 18 := fun h => n16 (up18 h)
      obtain ⟨_, hgr, hbl, hR⟩ := hj2.resolve_left fun h => n18 h.1
      have hB := hbl n16
      obtain ⟨gg1, gg2, gg3⟩ := g9
      have r8 := hR 8 (by omega) (dep_of ho hd e9_8)
      refine wpOp_step (o := o) ho (fun K hK => ?_)
      rw [if_pos (by simp [Region.wanted, gg1])]
      have rr : a.eval (.tmp 42) = .pointer (some ⟨b6, 4, none⟩) := r8
      have hlt6 : b6 < V.heap.size := World.block_lt_of_cell? V ⟨b6, 4, none⟩ E.c4
      refine wp_run1 (.agg #[.int .i8 (exOp d x.l), .string (exTm d x.l).v, .int .i8 (exTm d x.l).x.k, .int .i64 (exTm d x.l).x.n, .string (exTm d x.l).x.t, .slice pl (exLen d x.l) cl]) (by unfold execOp; simp only [gg3, rr]; rw [Sem.run_bind, rn_loadE (b := b6) (o := 4) ((hB.cell (p := ⟨b6, 4, none⟩) hlt6).trans E.c4) ((hB.cell (p := ⟨b6, 5, none⟩) hlt6).trans E.c5) ((hB.cell (p := ⟨b6, 6, none⟩) hlt6).trans E.c6) ((hB.cell (p := ⟨b6, 7, none⟩) hlt6).trans E.c7) ((hB.cell (p := ⟨b6, 8, none⟩) hlt6).trans E.c8) ((hB.cell (p := ⟨b6, 9, none⟩) hlt6).trans E.c9)]; rfl) (by rw [gg2]; exact hK _ _ (hj'.put hsz n18 (i := 9) (by omega) (by omega) (Below.refl _ _) rfl))
    · obtain rfl : o = o10 := by rw [hops] at ho; simpa using ho.symm
      have n16 : ¬ D 16 := fun h => hni (hcl.edge e14_10 (up14 h))
      have n18 : ¬ D 18 := fun h => n16 (up18 h)
      obtain ⟨_, hgr, hbl, hR⟩ := hj2.resolve_left fun h => n18 h.1
      have hB := hbl n16
      obtain ⟨ats, gg1, gg2, gg3⟩ := g10
      have r9 := hR 9 (by omega) (dep_of ho hd e10_9)
      refine wpOp_step (o := o) ho (fun K hK => ?_)
      rw [if_pos (by simp [Region.wanted, gg1])]
      have rr : a.eval (.tmp 43) = .agg #[.int .i8 (exOp d x.l), .string (exTm d x.l).v, .int .i8 (exTm d x.l).x.k, .int .i64 (exTm d x.l).x.n, .string (exTm d x.l).x.t, .slice pl (exLen d x.l) cl] := r9
      have hC := tExprVarsL d x.l w (ExAt.up hB d _ E.la) E.lr E.ll
      rw [E.sl] at hC
      refine wp_call1 73 43 ats gg3 hF2 (by rw [rr]; exact hC) ?_
      rintro r w' ⟨p, c, rfl, hb, hss⟩
      have hss' : SsAt w' V.heap.size p (varsL (exTms d x.l)) := by
        rcases hss with h0 | ⟨a1, o1, h1, h2, h3⟩
        · exact .inl h0
        · exact .inr ⟨a1, o1, h1, Nat.le_trans hgr.size h2, h3⟩
      exact ⟨_, rfl, by rw [gg2]; exact hK _ _ (hj'.put hsz n18 (i := 10) (by omega) (by omega) hb ⟨p, c, rfl, hss'⟩)⟩
    · obtain rfl : o = o11 := by rw [hops] at ho; simpa using ho.symm
      have n16 : ¬ D 16 := fun h => hni (hcl.edge e12_11 (hcl.edge e13_12 (hcl.edge e14_13 (up14 h))))
      have n18 : ¬ D 18 := fun h => n16 (up18 h)
      obtain ⟨_, hgr, hbl, hR⟩ := hj2.resolve_left fun h => n18 h.1
      have hB := hbl n16
      obtain ⟨gg1, gg2, gg3⟩ := g11
      refine wpOp_step (o := o) ho (fun K hK => ?_)
      rw [if_pos (by simp [Region.wanted, gg1])]
      refine wp_run1 (.pointer (some ⟨b6, 10, none⟩)) (by unfold execOp; simp only [gg3, b6']; rw [Sem.run_bind, rn_fldG]; rfl) (by rw [gg2]; exact hK _ _ (hj'.put hsz n18 (i := 11) (by omega) (by omega) (Below.refl _ _) rfl))
    · obtain rfl : o = o12 := by rw [hops] at ho; simpa using ho.symm
      have n16 : ¬ D 16 := fun h => hni (hcl.edge e13_12 (hcl.edge e14_13 (up14 h)))
      have n18 : ¬ D 18 := fun h => n16 (up18 h)
      obtain ⟨_, hgr, hbl, hR⟩ := hj2.resolve_left fun h => n18 h.1
      have hB := hbl n16
      obtain ⟨gg1, gg2, gg3⟩ := g12
      have r11 := hR 11 (by omega) (dep_of ho hd e12_11)
      refine wpOp_step (o := o) ho (fun K hK => ?_)
      rw [if_pos (by simp [Region.wanted, gg1])]
      have rr : a.eval (.tmp 45) = .pointer (some ⟨b6, 10, none⟩) := r11
      have hlt6 : b6 < V.heap.size := World.block_lt_of_cell? V ⟨b6, 4, none⟩ E.c4
      refine wp_run1 (.agg #[.int .i8 (exOp d x.g), .string (exTm d x.g).v, .int .i8 (exTm d x.g).x.k, .int .i64 (exTm d x.g).x.n, .string (exTm d x.g).x.t, .slice pg (exLen d x.g) cg]) (by unfold execOp; simp only [gg3, rr]; rw [Sem.run_bind, rn_loadE (b := b6) (o := 10) ((hB.cell (p := ⟨b6, 10, none⟩) hlt6).trans E.c10) ((hB.cell (p := ⟨b6, 11, none⟩) hlt6).trans E.c11) ((hB.cell (p := ⟨b6, 12, none⟩) hlt6).trans E.c12) ((hB.cell (p := ⟨b6, 13, none⟩) hlt6).trans E.c13) ((hB.cell (p := ⟨b6, 14, none⟩) hlt6).trans E.c14) ((hB.cell (p := ⟨b6, 15, none⟩) hlt6).trans E.c15)]; rfl) (by rw [gg2]; exact hK _ _ (hj'.put hsz n18 (i := 12) (by omega) (by omega) (Below.refl _ _) rfl))
    · obtain rfl : o = o13 := by rw [hops] at ho; simpa using ho.symm
      have n16 : ¬ D 16 := fun h => hni (hcl.edge e14_13 (up14 h))
      have n18 : ¬ D 18 := fun h => n16 (up18 h)
      obtain ⟨_, hgr, hbl, hR⟩ := hj2.resolve_left fun h => n18 h.1
      have hB := hbl n16
      obtain ⟨ats, gg1, gg2, gg3⟩ := g13
      have r12 := hR 12 (by omega) (dep_of ho hd e13_12)
      refine wpOp_step (o := o) ho (fun K hK => ?_)
      rw [if_pos (by simp [Region.wanted, gg1])]
      have rr : a.eval (.tmp 46) = .agg #[.int .i8 (exOp d x.g), .string (exTm d x.g).v, .int .i8 (exTm d x.g).x.k, .int .i64 (exTm d x.g).x.n, .string (exTm d x.g).x.t, .slice pg (exLen d x.g) cg] := r12
      have hC := tExprVarsL d x.g w (ExAt.up hB d _ E.ga) E.gr E.gl
      rw [E.sg] at hC
      refine wp_call1 73 46 ats gg3 hF2 (by rw [rr]; exact hC) ?_
      rintro r w' ⟨p, c, rfl, hb, hss⟩
      have hss' : SsAt w' V.heap.size p (varsL (exTms d x.g)) := by
        rcases hss with h0 | ⟨a1, o1, h1, h2, h3⟩
        · exact .inl h0
        · exact .inr ⟨a1, o1, h1, Nat.le_trans hgr.size h2, h3⟩
      exact ⟨_, rfl, by rw [gg2]; exact hK _ _ (hj'.put hsz n18 (i := 13) (by omega) (by omega) hb ⟨p, c, rfl, hss'⟩)⟩
    · obtain rfl : o = o14 := by rw [hops] at ho; simpa using ho.symm
      have n16 : ¬ D 16 := fun h => hni (up14 h)
      have n18 : ¬ D 18 := fun h => n16 (up18 h)
      obtain ⟨_, hgr, hbl, hR⟩ := hj2.resolve_left fun h => n18 h.1
      have hB := hbl n16
      obtain ⟨gg1, gg2, gg3⟩ := g14
      have r4 := hR 4 (by omega) (dep_of ho hd e14_4)
      have r7 := hR 7 (by omega) (dep_of ho hd e14_7)
      have r10 := hR 10 (by omega) (dep_of ho hd e14_10)
      have r13 := hR 13 (by omega) (dep_of ho hd e14_13)
      refine wpOp_step (o := o) ho (fun K hK => ?_)
      rw [if_pos (by simp [Region.wanted, gg1])]
      obtain ⟨p1, c1, r10e, h10⟩ := r10
      obtain ⟨p2, c2, r13e, h13⟩ := r13
      have q4 : a.eval (.tmp 38) = _ := r4
      have q7 : a.eval (.tmp 41) = _ := r7
      have q10 : a.eval (.tmp 44) = _ := r10e
      have q13 : a.eval (.tmp 47) = _ := r13e
      refine wp_run1 (.agg #[.string (loneB (exOp d x.l) (exTm d x.l).v (exLen d x.l)), .string (loneB (exOp d x.g) (exTm d x.g).v (exLen d x.g)), .slice p1 (varsL (exTms d x.l)).length c1, .slice p2 (varsL (exTms d x.g)).length c2]) (by unfold execOp; simp only [gg3, List.map_toArray, List.map_cons, List.map_nil, q4, q7, q10, q13]; rw [Sem.run_bind, rn_build]; rfl) (by rw [gg2]; exact hK _ _ (hj'.put hsz n18 (i := 14) (by omega) (by omega) (Below.refl _ _) ⟨⟨_, _, varsL (exTms d x.l), varsL (exTms d x.g), p1, c1, p2, c2⟩, ⟨rfl, rfl, rfl, rfl, h10, h13⟩, rfl⟩))
    · obtain rfl : o = o15 := by rw [hops] at ho; simpa using ho.symm
      have n16 : ¬ D 16 := fun h => hni (hcl.edge e16_15 h)
      have n18 : ¬ D 18 := fun h => n16 (up18 h)
      obtain ⟨_, hgr, hbl, hR⟩ := hj2.resolve_left fun h => n18 h.1
      have hB := hbl n16
      obtain ⟨gg1, gg2, gg3⟩ := g15
      have r14 := hR 14 (by omega) (dep_of ho hd e15_14)
      refine wpOp_step (o := o) ho (fun K hK => ?_)
      rw [if_pos (by simp [Region.wanted, gg1])]
      obtain ⟨q, hq, r14e⟩ := r14
      have q14 : a.eval (.tmp 48) = _ := r14e
      have hb := below_alloc w (.cells #[.string q.left, .string q.right, .slice q.lp q.ls.length q.lc, .slice q.rp q.rs.length q.rc] 161)
      refine wp_run1 (.slice (some ⟨w.heap.size, 0, none⟩) 1 1) (by unfold execOp; simp only [gg3, List.map_toArray, List.map_cons, List.map_nil, q14]; rw [Sem.run_bind, rn_lit]; rfl) (by rw [gg2]; exact hK _ _ (hj'.put hsz n18 (i := 15) (by omega) (by omega) (hb) ⟨q, w.heap.size, hq.keep hb.size (fun k _ hk => hb.block k hk), rfl, hgr.size, heap_alloc_new w _⟩))
    · obtain rfl : o = o16 := by rw [hops] at ho; simpa using ho.symm
      have n18 : ¬ D 18 := fun h => hni (up18 h)
      obtain ⟨_, hgr, hbl, hR⟩ := hj2.resolve_left fun h => n18 h.1
      obtain ⟨gg1, gg2, gg3⟩ := g16
      have r15 := hR 15 (by omega) (dep_of ho hd e16_15)
      have r1 := hR 1 (by omega) (dep_of ho hd e16_1)
      refine wpOp_step (o := o) ho (fun K hK => ?_)
      rw [if_pos (by simp [Region.wanted, gg1])]
      obtain ⟨q, bq, hq, r15e, hbq, hbk⟩ := r15
      have hB := hbl hni
      have hown := own_below E.own hB
      have key := stepApp_row (P := Tryz.prog) (ops := ops) (K := K) (Q := Q) (E := True) (o := o) (a := a) (w := w) gg1 (.tmp 35) (.tmp 49) 154 gg3 B 161 i0 _ 4 80 Tryz.underlying154 hi0 hz0 hz1 hz2 rfl (by decide) (.slice ps n cs) n xs r1 hown ⟨bq, 0, none⟩ 1 1 [.string q.left, .string q.right, .slice q.lp q.ls.length q.lc, .slice q.rp q.rs.length q.rc] r15e rfl ?c0 ?c1 ?c2 ?c3 ?c4 ?c5
      case c0 =>
        intro j u hu
        have e9 : (⟨bq, 0, none⟩ : Addr).add j = ⟨bq, j, none⟩ := by unfold Addr.add; split <;> simp_all
        rw [e9, Lib.cell_of_heap hbk]
        simpa using hu
      case c1 => intro u hu; simp only [List.mem_cons, List.not_mem_nil, or_false] at hu; rcases hu with rfl | rfl | rfl | rfl <;> rfl
      case c2 => have := E.n_; unfold maxLen; omega
      case c3 => have := E.n_; omega
      case c4 => exact Nat.le_trans E.base hgr.size
      case c5 =>
        intro v' w2 hown2 hg2 _ hpl
        obtain ⟨p2, c2, rfl⟩ := own_slice4 hown2
        rw [gg2]
        have hst : ∀ k, V.heap.size ≤ k → k < w.heap.size → w2.heap[k]? = w.heap[k]? := fun k h1 h2 => hg2.block k h2 fun e => by
          have := (E.own.lt k e.symm).2
          omega
        refine hK _ _ ⟨hS.put (by omega) (by omega) _, .inr ⟨fun h => h.elim n18 (by omega), ⟨hg2.os.trans hgr.os, hg2.tape.trans hgr.tape, hg2.output.trans hgr.output, Nat.le_trans hgr.size hg2.size, fun k hk hne => (hg2.block k (Nat.lt_of_lt_of_le hk hgr.size) hne).trans (hgr.block k hk hne)⟩, fun h => absurd (.inr rfl) h, fun j hj hd9 => ?_⟩⟩
        by_cases e : j = 16
        · subst e
          rw [put_same (by rw [hS.size]; omega)]
          exact ⟨q, hq.keep hg2.size hst, ⟨p2, c2, rfl⟩, hown2, fun g h1 => (hpl g h1).imp id fun h2 => ⟨Nat.le_trans hgr.size h2, ss_keepOff (hq.la.offAt h2) hgr.size hg2.size hst, ss_keepOff (hq.ra.offAt h2) hgr.size hg2.size hst⟩⟩
        · rw [put_other (by omega)]
          exact (hR j hj (hd9.resolve_right e)).keep e hg2.size hst
      have hw : Region.wanted o (yielded ops a.tmps) = true := by simp [Region.wanted, gg1]
      rw [if_pos hw] at key
      exact key
    · obtain rfl : o = o17 := by rw [hops] at ho; simpa using ho.symm
      have n18 : ¬ D 18 := fun h => hni (hcl.edge e18_17 h)
      obtain ⟨_, hgr, hbl, hR⟩ := hj2.resolve_left fun h => n18 h.1
      obtain ⟨gg1, gg2, gg3⟩ := g17
      refine wpOp_step (o := o) ho (fun K hK => ?_)
      rw [if_pos (by simp [Region.wanted, gg1])]
      refine wp_run1 (.pointer (some ⟨br, 0, none⟩)) (by unfold execOp; simp only [gg3, b4]; rw [Sem.run_bind, rn_fldR]; rfl) (by rw [gg2]; exact hK _ _ (hj'.put hsz n18 (i := 17) (by omega) (by omega) (Below.refl _ _) rfl))
    · obtain rfl : o = o18 := by rw [hops] at ho; simpa using ho.symm
      obtain ⟨_, hgr, _, hR⟩ := hj2.resolve_left fun h => hni h.1
      obtain ⟨gg1, gg2, gg3⟩ := g18
      obtain ⟨q, hq, ⟨p2, c2, r16e⟩, hown, hpl⟩ := hR 16 (by omega) (dep_of ho hd e18_16)
      have r17 : a.eval (.tmp 51) = .pointer (some ⟨br, 0, none⟩) := hR 17 (by omega) (dep_of ho hd e18_17)
      have r16 : a.eval (.tmp 50) = .slice p2 (n + 1) c2 := r16e
      rw [r16e] at hown hpl
      have hbk := (hgr.block br hbr hne).trans E.br_
      refine wpOp_step (o := o) ho (fun K hK => ?_)
      rw [if_pos (by simp [Region.wanted, gg1])]
      unfold Oper.wp
      have hrun : (execOp a.eval o).run Tryz.prog w = .ok .skip (w.setCell ⟨br, 0, none⟩ (.slice p2 (n + 1) c2)) := by
        unfold execOp
        simp only [gg3, r17, r16]
        rw [Sem.run_bind, rn_store (by rw [Lib.cell_of_heap hbk]; rfl) (Lib.frozen_of_heap hbk 0)]
        rfl
      rw [hrun]
      show K (a.put o.dst undef) _
      rw [gg2]
      exact hK _ _ ⟨hS, .inl ⟨.inr rfl, q, p2, c2, w, rfl, hgr, hq, hown, hpl⟩⟩
end Go.Proofs.YtafjjececdhmjaaGreat
