/- A region that draws its order, by an invariant over what has been done; two copies made by two calls, each put into a variable of its own. No function of the program in sight. Conditions: none. -/
import Derived.Test.YtlghiakckkhekaaGreatDoorMG
import Derived.Test.YtlghiakckkhekaaGreatDoorU0
import Derived.Deep.MidRow
import Derived.RegionTactic
namespace Go.Proofs.YtlghiakckkhekaaGreatDoor
open Go.RowKit

section
variable {P : Program} {ops : Array Oper} {Q : Exit → Act → World → Prop} {md : Region.Mode}
/-- How many are not yet done. -/
def undone (l : Array Bool) : Nat := l.toList.countP (fun b => !b)
theorem undone_set {l : Array Bool} {i : Nat} (hi : i < l.size) (h : l[i] = false) : undone (l.setIfInBounds i true) + 1 = undone l := by
  unfold undone
  obtain ⟨ls⟩ := l
  simp only [List.setIfInBounds_toArray] at *
  simp only [List.getElem_toArray] at *
  induction ls generalizing i with
  | nil => simp at hi
  | cons x r ih =>
    cases i with
    | zero => simp at h; subst h; simp
    | succ i =>
      have := ih (i := i) (by simpa using hi) (by simpa using h)
      simp only [List.set_cons_succ, List.countP_cons]
      omega
theorem ready_lt {l : Array Bool} {i : Nat} (h : i ∈ Region.ready md ops l) : ∃ hi : i < l.size, l[i] = false := by
  unfold Region.ready at h
  rw [List.mem_filter] at h
  obtain ⟨_, h2⟩ := h
  rw [Bool.and_eq_true] at h2
  have h3 := h2.1
  by_cases hi : i < l.size
  · exact ⟨hi, by simpa [Array.getD, hi] using h3⟩
  · simp [Array.getD, hi] at h3
theorem ready_none {l : Array Bool} (h : undone l = 0) : Region.ready md ops l = [] := by
  rw [List.eq_nil_iff_forall_not_mem]
  intro i hi
  obtain ⟨h1, h2⟩ := ready_lt hi
  have := undone_set h1 h2
  omega
theorem wpAny_inv (I : Array Bool → Act → World → Prop) (hd : ∀ l a w, I l a w → Region.ready md ops l = [] → Q .normal a w)
    (hs : ∀ l a w i, I l a w → i ∈ Region.ready md ops l → wpOp P ops Q i (I (l.setIfInBounds i true)) a w) :
    ∀ (fuel : Nat) (l : Array Bool) (a : Act) (w : World), undone l ≤ fuel → I l a w → wpAny P md ops Q fuel l a w
  | 0, l, a, w, hu, h => ⟨ready_none (by omega), hd l a w h (ready_none (by omega))⟩
  | fuel + 1, l, a, w, hu, h => by
    refine ⟨fun h0 => hd l a w h h0, fun i hi => ?_⟩
    obtain ⟨h1, h2⟩ := ready_lt hi
    have h3 := undone_set h1 h2
    exact wpOp_mono (fun a' w' h' => wpAny_inv I hd hs fuel _ a' w' (by omega) h') (hs l a w i h hi)
end
theorem put_same {A : Act} {d : Nat} (h : d < A.tmps.size) (v : Value) : (A.put (some d) v).eval (.tmp d) = v := by
  simp [Act.put, Act.eval, Array.getD, h]
theorem put_other {A : Act} {d e : Nat} (h : d ≠ e) (v : Value) : (A.put (some d) v).eval (.tmp e) = A.eval (.tmp e) := by
  simp only [Act.put, Act.eval, Array.getD_eq_getD_getElem?]
  rw [Array.getElem?_setIfInBounds_ne h]
/-- What is left of an act where only these slots are written. -/
structure Slots (L : List Nat) (A0 A : Act) : Prop where
  size : A.tmps.size = A0.tmps.size
  def_ : A.defers = A0.defers
  at_ : ∀ i, i ∉ L → A.tmps[i]? = A0.tmps[i]?
theorem Slots.refl (L : List Nat) (A : Act) : Slots L A A := ⟨rfl, rfl, fun _ _ => rfl⟩
theorem Slots.put {L : List Nat} {A0 A : Act} (h : Slots L A0 A) {d : Nat} (hd : d ∈ L) (v : Value) : Slots L A0 (A.put (some d) v) :=
  ⟨by simp [Act.put, h.size], h.def_, fun i hi => by
    simp only [Act.put]
    rw [Array.getElem?_setIfInBounds_ne (by intro e; subst e; exact hi hd)]
    exact h.at_ i hi⟩
theorem Slots.eval {L : List Nat} {A0 A : Act} (h : Slots L A0 A) {i : Nat} (hi : i ∉ L) : A.eval (.tmp i) = A0.eval (.tmp i) := by
  simp only [Act.eval, Array.getD_eq_getD_getElem?]
  rw [h.at_ i hi]
theorem Slots.fold : ∀ (L : List Nat) (A0 A : Act), Slots L A0 A → (∀ d ∈ L, d < A0.tmps.size) → A = L.foldl (fun B d => B.put (some d) (A.eval (.tmp d))) A0
  | [], A0, A, h, _ => by
    obtain ⟨T, D⟩ := A
    obtain ⟨T0, D0⟩ := A0
    obtain ⟨_, h2, h3⟩ := h
    have h4 : T = T0 := Array.ext_getElem? fun i => h3 i (by simp)
    subst h4
    have h5 : D = D0 := h2
    subst h5
    rfl
  | d :: L, A0, A, h, hd => by
    have hd0 := hd d (by simp)
    have h1 : Slots L (A0.put (some d) (A.eval (.tmp d))) A := by
      refine ⟨by simp [Act.put, h.size], h.def_, fun i hi => ?_⟩
      simp only [Act.put]
      by_cases e : i = d
      · rw [e, Array.getElem?_setIfInBounds_self_of_lt hd0]
        have h6 : d < A.tmps.size := by rw [h.size]; exact hd0
        simp [Act.eval, Array.getD, h6]
      · rw [Array.getElem?_setIfInBounds_ne (Ne.symm e)]
        exact h.at_ i (by simp [e, hi])
    exact Slots.fold L _ A h1 (fun k hk => by simp only [Act.put, Array.size_setIfInBounds]; exact hd k (by simp [hk]))
theorem Slots.form {A0 A : Act} (h : Slots [5, 6, 16, 17, 18, 19] A0 A) (hsz : 20 ≤ A0.tmps.size) :
    A = (((((A0.put (some 5) (A.eval (.tmp 5))).put (some 6) (A.eval (.tmp 6))).put (some 16) (A.eval (.tmp 16))).put (some 17) (A.eval (.tmp 17))).put (some 18) (A.eval (.tmp 18))).put (some 19) (A.eval (.tmp 19)) := by
  have h1 := Slots.fold _ A0 A h (fun d hd => by simp at hd; omega)
  generalize he : A.eval = E at h1 ⊢
  simp only [List.foldl_cons, List.foldl_nil] at h1
  exact h1
/-- It stands in every later world in which, of the blocks there are, only those of S have turned. -/
def Off (S : Nat → Prop) (X : World → Prop) (w : World) : Prop := ∀ w', w.heap.size ≤ w'.heap.size → (∀ k, k < w.heap.size → ¬ S k → w'.heap[k]? = w.heap[k]?) → X w'
theorem Off.now {S : Nat → Prop} {X : World → Prop} {w : World} (h : Off S X w) : X w := h w (Nat.le_refl _) (fun _ _ _ => rfl)
theorem Off.go {S S' : Nat → Prop} {X : World → Prop} {w w1 : World} (h : Off S X w) (hs : w.heap.size ≤ w1.heap.size) (hb : ∀ k, k < w.heap.size → ¬ S k → w1.heap[k]? = w.heap[k]?) (hS : ∀ k, k < w.heap.size → S' k → S k) : Off S' X w1 :=
  fun w' h1 h2 => h w' (Nat.le_trans hs h1) (fun k hk hn => (h2 k (by omega) (fun h3 => hn (hS k hk h3))).trans (hb k hk hn))
/-- A copy made by a call: what it is hangs on blocks from B on alone. -/
structure Firm (X : Nat → World → Prop) : Prop where
  go : ∀ B B' w w', X B w → B' ≤ B → w.heap.size ≤ w'.heap.size → (∀ k, B ≤ k → k < w.heap.size → w'.heap[k]? = w.heap[k]?) → X B' w'

def SetB (b4 b5 : Bool) (bt bm : Nat) (k : Nat) : Prop := (b4 = true ∧ k = bt) ∨ (b5 = true ∧ k = bm)
/-- What holds between the steps of the region. -/
def PInv (A0 : Act) (V : World) (t1 t2 : TypeId) (C1 C2 Z1 Z2 : Array Value) (X1 X2 : Array Value → Nat → World → Prop) (b0 b1 b2 b3 b4 b5 b6 b7 : Bool) (A : Act) (w : World) : Prop :=
  Slots [5, 6, 16, 17, 18, 19] A0 A ∧ Below V.heap.size V w ∧ (b0 = true → A.eval (.tmp 16) = .agg C1) ∧ (b2 = true → A.eval (.tmp 18) = .agg C2) ∧
  (b6 = true → b1 = true ∧ b3 = true ∧ b4 = true ∧ b5 = true) ∧ (b7 = true → b6 = true) ∧ (b1 = true → b0 = true) ∧ (b3 = true → b2 = true) ∧
  ∃ (T1 T2 : Array Value) (bt bm : Nat),
    (b1 = true → A.eval (.tmp 17) = .agg T1 ∧ T1.size = C1.size ∧ T1.all (·.oneCell') = true ∧ Off (SetB b4 b5 bt bm) (X1 T1 V.heap.size) w) ∧
    (b3 = true → A.eval (.tmp 19) = .agg T2 ∧ T2.size = C2.size ∧ T2.all (·.oneCell') = true ∧ Off (SetB b4 b5 bt bm) (X2 T2 V.heap.size) w) ∧
    (b4 = true → A.eval (.tmp 5) = .pointer (some ⟨bt, 0, none⟩) ∧ V.heap.size ≤ bt ∧ w.heap[bt]? = some (.cells (if b6 then T1 else Z1) t1 (0, 0))) ∧
    (b5 = true → A.eval (.tmp 6) = .pointer (some ⟨bm, 0, none⟩) ∧ V.heap.size ≤ bm ∧ w.heap[bm]? = some (.cells (if b7 then T2 else Z2) t2 (0, 0))) ∧ (b4 = true → b5 = true → bt ≠ bm)
theorem setCells_putL (b : Nat) : ∀ (vs : List Value) (o : Nat) (w : World), w.setCells b o vs = putL w b o vs
  | [], _, _ => rfl
  | v :: r, o, w => by rw [World.setCells, putL]; exact setCells_putL b r (o + 1) _
theorem there_heap {w : World} {b : Nat} {cs : Array Value} {t : TypeId} (h : w.heap[b]? = some (.cells cs t (0, 0))) : w.there b 0 cs.size := by
  intro j hj
  refine ⟨?_, Lib.frozen_of_heap h _⟩
  rw [Lib.cell_of_heap h]
  simp [hj]
theorem rangeAt_heap {w : World} {b : Nat} {cs : List Value} {t : TypeId} {fz : Nat × Nat} (h : w.heap[b]? = some (.cells cs.toArray t fz)) : w.rangeAt b 0 cs := by
  intro j v hv
  rw [Lib.cell_of_heap h]
  simpa using hv
section
variable {P : Program} {ops : Array Oper} {Q : Exit → Act → World → Prop}
theorem wp_callF {o : Oper} {a : Act} {w : World} {K : Act → World → Prop} {Q : Exit → Act → World → Prop} (f : FuncId) (x : Nat) (ats : Array TypeId) (ho : o.op = .call { callee := .value (.func f), args := #[.tmp x], argTypes := ats })
    (hF : ∀ (args : Array Value) (w : World), (callFunc f args).run P w = .ok (.enter f args) w) {R : Ending → World → Prop} (hc : Calls P f #[a.eval (.tmp x)] w R) (hR : ∀ r w', R r w' → ∃ v, r = .returned v ∧ K (a.put o.dst v) w') : o.wp P a w K Q := by
  unfold Oper.wp execOp
  have h1 : (execOp a.eval o).run P w = .ok (.enter f #[a.eval (.tmp x)]) w := by
    unfold execOp
    simp only [ho]
    simp [resolve, Deferred.ofValue, invoke, Act.eval, hF]
  unfold execOp at h1
  rw [h1, Oper.upon_enter]
  refine hc.mono ?_
  intro r w' hr
  obtain ⟨v, rfl, hk⟩ := hR r w' hr
  exact hk
theorem wp_allocZ {o : Oper} {a : Act} {w : World} {K : Act → World → Prop} {Q : Exit → Act → World → Prop} (t : TypeId) (Z : Array Value) (ho : o.op = .alloc t)
    (hr : ∀ w, (Instr.alloc t true (.tuple #[])).run P w = .ok (.pointer (some ⟨w.heap.size, 0, none⟩)) (w.alloc (.cells Z t)))
    (h : K (a.put o.dst (.pointer (some ⟨w.heap.size, 0, none⟩))) (w.alloc (.cells Z t))) : o.wp P a w K Q := by
  unfold Oper.wp execOp
  simp only [ho, Sem.run_bind, hr, Result.andThen_ok, Sem.run_pure]
  exact h
end
end Go.Proofs.YtlghiakckkhekaaGreatDoor
