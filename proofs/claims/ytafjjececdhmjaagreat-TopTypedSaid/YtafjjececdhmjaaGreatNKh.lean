/- What a body limits, in plain Lean: the least set of variables; a round takes what it may; the state of check.limits. The state of check.limits, its steps. Conditions: none. as told. -/
import Derived.Test.YtafjjececdhmjaaGreatNKg
namespace Go.Proofs.YtafjjececdhmjaaGreat
open Go.RowKit Go.Maps

/-- The variables that a body limits. -/
inductive Lim {d : Nat} (bs : List (Lt d)) : List UInt8 → Prop where
  | pos {x : Lt d} {v : List UInt8} (h : x ∈ bs) (h1 : x.k = 1) (hv : v ∈ varsL x.ts) : Lim bs v
  | left {x : Lt d} (h : x ∈ bs) (h3 : x.k = 3) (hr : x.r = 1) (hl : ¬ (bl (loneB (exOp d x.l) (exTm d x.l).v (exLen d x.l))).isEmpty = true) (ha : ∀ v ∈ varsL (exTms d x.g), Lim bs v) : Lim bs (bl (loneB (exOp d x.l) (exTm d x.l).v (exLen d x.l)))
  | right {x : Lt d} (h : x ∈ bs) (h3 : x.k = 3) (hr : x.r = 1) (hl : ¬ (bl (loneB (exOp d x.g) (exTm d x.g).v (exLen d x.g))).isEmpty = true) (ha : ∀ v ∈ varsL (exTms d x.l), Lim bs v) : Lim bs (bl (loneB (exOp d x.g) (exTm d x.g).v (exLen d x.g)))
/-- An equation is what a literal says. -/
structure QnP {d : Nat} (x : Lt d) (q : Eqn) : Prop where
  left : q.left = loneB (exOp d x.l) (exTm d x.l).v (exLen d x.l)
  right : q.right = loneB (exOp d x.g) (exTm d x.g).v (exLen d x.g)
  ls : q.ls = varsL (exTms d x.l)
  rs : q.rs = varsL (exTms d x.g)
theorem lone_vars {d : Nat} (e : Ex d) (h : ¬ (bl (loneB (exOp d e) (exTm d e).v (exLen d e))).isEmpty = true) : varsL (exTms d e) = [bl (loneB (exOp d e) (exTm d e).v (exLen d e))] := by
  match d, e, h with
  | 0, e, _ => nomatch e
  | d + 1, (op, t, sl, ks), h =>
    simp only [exOp, exTm, exLen] at h ⊢
    unfold loneB at h ⊢
    split at h
    · simp [bl] at h
    · rename_i hn
      rw [if_neg hn]
      simp only [not_or, ne_eq, Decidable.not_not, Nat.not_lt, Nat.le_zero] at hn
      obtain ⟨_, hk, hv⟩ := hn
      have : ks = [] := List.eq_nil_of_length_eq_zero hk
      subst this
      simp only [exTms, List.flatMap_nil, varsL, List.foldl_cons, List.foldl_nil]
      unfold addV newV
      rw [if_pos]
      · rfl
      · simp only [List.contains_nil, Bool.not_false, Bool.and_true, Bool.and_eq_true, Bool.not_eq_true']
        exact ⟨by simpa using h, by simpa using hv⟩
/-- Nothing is left to be taken of an equation. -/
def DoneQ (q : Eqn) (acc : List (List UInt8)) : Prop := (¬ (bl q.left).isEmpty = true → bl q.left ∈ acc) ∧ (¬ (bl q.right).isEmpty = true → bl q.right ∈ acc)
theorem takeA_sub (acc : List (List UInt8)) (q : Eqn) : ∀ v ∈ acc, v ∈ takeA acc q := by
  intro v hv
  unfold takeA
  split
  · exact List.mem_append_left _ hv
  · split
    · exact List.mem_append_left _ hv
    · exact hv
theorem takeL_iff {acc : List (List UInt8)} {q : Eqn} : takeL acc q = true ↔ ¬ (bl q.left).isEmpty = true ∧ bl q.left ∉ acc ∧ ∀ v ∈ q.rs, v ∈ acc := by
  unfold takeL
  simp only [Bool.and_eq_true, Bool.not_eq_true', List.all_eq_true, List.contains_iff_mem, Bool.eq_false_iff, ne_eq, and_assoc]
theorem takeR_iff {acc : List (List UInt8)} {q : Eqn} : takeR acc q = true ↔ ¬ (bl q.right).isEmpty = true ∧ bl q.right ∉ acc ∧ ∀ v ∈ q.ls, v ∈ acc := by
  unfold takeR
  simp only [Bool.and_eq_true, Bool.not_eq_true', List.all_eq_true, List.contains_iff_mem, Bool.eq_false_iff, ne_eq, and_assoc]
theorem take_done {d : Nat} {x : Lt d} {q : Eqn} (hq : QnP x q) {acc : List (List UInt8)} (h : takeB acc q = true) : DoneQ q (takeA acc q) := by
  unfold takeA
  by_cases hl : takeL acc q = true
  · rw [if_pos hl]
    obtain ⟨h1, h2, h3⟩ := takeL_iff.1 hl
    refine ⟨fun _ => List.mem_append_right _ (by simp), fun hr => List.mem_append_left _ (h3 _ ?_)⟩
    rw [hq.rs, hq.right] at *
    rw [lone_vars x.g hr]
    simp
  · have hr : takeR acc q = true := by
      unfold takeB at h
      rw [Bool.or_eq_true] at h
      exact h.resolve_left hl
    rw [if_neg hl, if_pos hr]
    obtain ⟨h1, h2, h3⟩ := takeR_iff.1 hr
    refine ⟨fun hl' => List.mem_append_left _ (h3 _ ?_), fun _ => List.mem_append_right _ (by simp)⟩
    rw [hq.ls, hq.left] at *
    rw [lone_vars x.l hl']
    simp
theorem take_lim {d : Nat} {bs : List (Lt d)} {x : Lt d} (hx : x ∈ bs) (h3 : x.k = 3) (hr : x.r = 1) {q : Eqn} (hq : QnP x q) {acc : List (List UInt8)} (h : ∀ v ∈ acc, Lim bs v) : ∀ v ∈ takeA acc q, Lim bs v := by
  intro v hv
  unfold takeA at hv
  split at hv
  · rename_i hl
    obtain ⟨h1, _, h4⟩ := takeL_iff.1 hl
    rcases List.mem_append.1 hv with h5 | h5
    · exact h v h5
    · rw [List.mem_singleton.1 h5, hq.left]
      exact .left hx h3 hr (by rw [← hq.left]; exact h1) fun u hu => h u (h4 u (by rw [hq.rs]; exact hu))
  · split at hv
    · rename_i hl
      obtain ⟨h1, _, h4⟩ := takeR_iff.1 hl
      rcases List.mem_append.1 hv with h5 | h5
      · exact h v h5
      · rw [List.mem_singleton.1 h5, hq.right]
        exact .right hx h3 hr (by rw [← hq.right]; exact h1) fun u hu => h u (h4 u (by rw [hq.ls]; exact hu))
    · exact h v hv
/-- What is known between rounds: of what has been found, of what waits. -/
structure LmR {d : Nat} (bs : List (Lt d)) (acc0 : List (List UInt8)) (l0 : List Eqn) (s : List (List UInt8) × List Eqn) : Prop where
  lim : ∀ v ∈ s.1, Lim bs v
  sub : ∀ v ∈ acc0, v ∈ s.1
  rest : ∀ q ∈ l0, q ∈ s.2 ∨ DoneQ q s.1
theorem LmR.fold {d : Nat} {bs : List (Lt d)} {acc0 : List (List UInt8)} {l0 : List Eqn} (hq : ∀ q ∈ l0, ∃ x ∈ bs, x.k = 3 ∧ x.r = 1 ∧ QnP x q) : ∀ (l : List Eqn) (s : List (List UInt8) × List Eqn), (∀ q ∈ l, q ∈ l0) → (∀ v ∈ s.1, Lim bs v) → (∀ v ∈ acc0, v ∈ s.1) → (∀ q ∈ l0, q ∈ l ∨ q ∈ s.2 ∨ DoneQ q s.1) → LmR bs acc0 l0 (l.foldl stepQ s)
  | [], s, _, h1, h2, h3 => ⟨h1, h2, fun q hq => (h3 q hq).resolve_left (by simp)⟩
  | q :: r, s, hl, h1, h2, h3 => by
    obtain ⟨x, hx, hk, hr, hqn⟩ := hq q (hl q (by simp))
    rcases ht : takeB s.1 q with _ | _
    · rw [List.foldl_cons, stepQ_f ht]
      refine LmR.fold hq r _ (fun q h => hl q (List.mem_cons_of_mem _ h)) h1 h2 fun p hp => ?_
      rcases h3 p hp with h4 | h4 | h4
      · rcases List.mem_cons.1 h4 with h5 | h5
        · exact .inr (.inl (by rw [h5]; exact List.mem_append_right _ (by simp)))
        · exact .inl h5
      · exact .inr (.inl (List.mem_append_left _ h4))
      · exact .inr (.inr h4)
    · rw [List.foldl_cons, stepQ_t ht]
      refine LmR.fold hq r _ (fun q h => hl q (List.mem_cons_of_mem _ h)) (take_lim hx hk hr hqn h1) (fun v hv => takeA_sub _ _ v (h2 v hv)) fun p hp => ?_
      rcases h3 p hp with h4 | h4 | h4
      · rcases List.mem_cons.1 h4 with h5 | h5
        · exact .inr (.inr (by rw [h5]; exact take_done hqn ht))
        · exact .inl h5
      · exact .inr (.inl h4)
      · exact .inr (.inr ⟨fun h => takeA_sub _ _ _ (h4.1 h), fun h => takeA_sub _ _ _ (h4.2 h)⟩)
theorem LmR.round {d : Nat} {bs : List (Lt d)} {acc0 : List (List UInt8)} {l0 : List Eqn} (hq : ∀ q ∈ l0, ∃ x ∈ bs, x.k = 3 ∧ x.r = 1 ∧ QnP x q) {acc : List (List UInt8)} {l : List Eqn} (h : LmR bs acc0 l0 (acc, l)) (hl : ∀ q ∈ l, q ∈ l0) : LmR bs acc0 l0 (roundQ acc l) :=
  LmR.fold hq l (acc, []) hl h.lim h.sub fun q hq => (h.rest q hq).imp id .inr
theorem round_sub (acc : List (List UInt8)) (l : List Eqn) : ∀ q ∈ (roundQ acc l).2, q ∈ l := fun q hq => (roundQ_mem l (acc, []) q hq).resolve_left (by simp)
/-- How many there are: none is lost. -/
theorem round_all : ∀ (l : List Eqn) (s : List (List UInt8) × List Eqn), (l.foldl stepQ s).1.length + (l.foldl stepQ s).2.length = s.1.length + s.2.length + l.length
  | [], s => by simp
  | q :: r, s => by
    rw [List.foldl_cons, round_all r]
    rcases ht : takeB s.1 q with _ | _
    · rw [stepQ_f ht]; simp; omega
    · rw [stepQ_t ht]
      have hlen : (takeA s.1 q).length = s.1.length + 1 := by
        unfold takeA
        unfold takeB at ht
        split
        · simp
        · rename_i hl
          rw [if_pos (by simpa [hl] using ht)]
          simp
      simp [hlen]; omega
/-- A round that takes none out. -/
theorem round_none : ∀ (l : List Eqn) (s : List (List UInt8) × List Eqn), (l.foldl stepQ s).2.length = s.2.length + l.length → (∀ q ∈ l, takeB s.1 q = false) ∧ (l.foldl stepQ s).1 = s.1
  | [], s, _ => ⟨by simp, rfl⟩
  | q :: r, s, h => by
    rw [List.foldl_cons] at h ⊢
    rcases ht : takeB s.1 q with _ | _
    · rw [stepQ_f ht] at h ⊢
      obtain ⟨h1, h2⟩ := round_none r (s.1, s.2 ++ [q]) (by rw [h]; simp; omega)
      exact ⟨fun p hp => (List.mem_cons.1 hp).elim (fun e => by rw [e]; exact ht) (h1 p), h2⟩
    · rw [stepQ_t ht] at h
      have := (roundQ_len r (takeA s.1 q, s.2)).2
      simp at h this
      omega
/-- What has been found once a round takes none out is what the body limits. -/
theorem LmR.done {d : Nat} {bs : List (Lt d)} {acc0 acc : List (List UInt8)} {l0 l : List Eqn} (h : LmR bs acc0 l0 (acc, l)) (hpos : ∀ x ∈ bs, x.k = 1 → ∀ v ∈ varsL x.ts, v ∈ acc0) (heq : ∀ x ∈ bs, x.k = 3 → x.r = 1 → ∃ q ∈ l0, QnP x q) (hn : ∀ q ∈ l, takeB acc q = false) : ∀ v, v ∈ acc ↔ Lim bs v := by
  intro v
  constructor
  · exact h.lim v
  · intro hv
    have key : ∀ q ∈ l0, (¬ (bl q.left).isEmpty = true → (∀ u ∈ q.rs, u ∈ acc) → bl q.left ∈ acc) ∧ (¬ (bl q.right).isEmpty = true → (∀ u ∈ q.ls, u ∈ acc) → bl q.right ∈ acc) := fun q hq => by
      rcases h.rest q hq with h1 | h1
      · have h2 := hn q h1
        unfold takeB at h2
        rw [Bool.or_eq_false_iff] at h2
        refine ⟨fun h3 h4 => ?_, fun h3 h4 => ?_⟩
        · refine Classical.byContradiction fun h5 => ?_
          rw [takeL_iff.2 ⟨h3, h5, h4⟩] at h2
          simp at h2
        · refine Classical.byContradiction fun h5 => ?_
          rw [takeR_iff.2 ⟨h3, h5, h4⟩] at h2
          simp at h2
      · exact ⟨fun h3 _ => h1.1 h3, fun h3 _ => h1.2 h3⟩
    induction hv with
    | pos hx h1 hv => exact h.sub _ (hpos _ hx h1 _ hv)
    | left hx h3 hr hl _ ih =>
      obtain ⟨q, hq, hqn⟩ := heq _ hx h3 hr
      have := (key q hq).1 (by rw [hqn.left]; exact hl) (by rw [hqn.rs]; exact ih)
      rw [hqn.left] at this
      exact this
    | right hx h3 hr hl _ ih =>
      obtain ⟨q, hq, hqn⟩ := heq _ hx h3 hr
      have := (key q hq).2 (by rw [hqn.right]; exact hl) (by rw [hqn.ls]; exact ih)
      rw [hqn.right] at this
      exact this
end Go.Proofs.YtafjjececdhmjaaGreat

namespace Go.Proofs.YtafjjececdhmjaaGreat
open Go.RowKit Go.Maps

/-- What the work on a body owns: what has been found, the ring, its row. -/
def OwnR (own : Nat → Prop) (br : Nat) (sv : Value) (k : Nat) : Prop := own k ∨ k = br ∨ sv.ownBlock = some k
structure LmS (w : World) (b br : Nat) (own : Nat → Prop) (acc : List (List UInt8)) (eqs : List Eqn) (sv : Value) (wr : World) : Prop where
  f_ : Fnd w.heap.size own b acc wr
  nb : ¬ own br
  brl : w.heap.size ≤ br
  bw : Below w.heap.size w wr
  rb : wr.heap[br]? = some (.cells #[sv] 156 (0, 0))
  r_ : wr.ownsRowF w.heap.size 161 4 sv eqs.length (qVs eqs)
  n_ : ∀ g, sv.ownBlock = some g → ¬ own g ∧ g ≠ br
  e_ : ∀ q ∈ eqs, EqnAt (OwnR own br sv) wr q
section
variable {w : World} {b br : Nat} {own : Nat → Prop} {acc : List (List UInt8)} {eqs : List Eqn} {sv : Value} {wr : World}
theorem LmS.lt (h : LmS w b br own acc eqs sv wr) {g : Nat} (hg : sv.ownBlock = some g) : w.heap.size ≤ g ∧ g < wr.heap.size := h.r_.lt g hg
theorem LmS.below (h : LmS w b br own acc eqs sv wr) {w' : World} (hb : Below wr.heap.size wr w') : LmS w b br own acc eqs sv w' :=
  ⟨h.f_.below hb, h.nb, h.brl, h.bw.trans (hb.mono h.bw.size), (hb.block br (Array.getElem?_eq_some_iff.1 h.rb).1).trans h.rb, own_below h.r_ hb, h.n_, fun q hq => (h.e_ q hq).step (.of_below hb)⟩
theorem LmS.add (h : LmS w b br own acc eqs sv wr) {acc' : List (List UInt8)} {w' : World} (hp : FPost w.heap.size own b acc' wr w') : ∃ own', LmS w b br own' acc' eqs sv w' := by
  obtain ⟨own', h1, h2⟩ := hp
  have hbl := (Array.getElem?_eq_some_iff.1 h.rb).1
  obtain ⟨k1, k2⟩ := h2.off hbl h.nb
  have hO : Ofr (OwnR own br sv) (OwnR own' br sv) wr w' := ⟨h2.os, h2.tape, h2.output, h2.size, fun k hk hn => h2.block k hk fun h3 => hn (.inl h3), fun k hk => by
    rcases hk with h3 | h3
    · exact (h2.grow k h3).imp .inl id
    · exact .inl (.inr h3)⟩
  refine ⟨own', h1, k1, h.brl, h.bw.trans (h2.below h.bw.size fun k hk => (h.f_.lo k hk).1), k2.trans h.rb, ⟨h.r_.1, ?_⟩, fun g hg => ?_, fun q hq => (h.e_ q hq).step hO⟩
  · rcases h.r_.2 with h8 | ⟨g, cap, cur, fz, hv, hB, hg2, h9⟩
    · exact .inl h8
    · exact .inr ⟨g, cap, cur, fz, hv, hB, ((h2.off (Array.getElem?_eq_some_iff.1 hg2).1 (h.n_ g (by rw [hv]; rfl)).1).2).trans hg2, h9⟩
  · obtain ⟨j1, j2⟩ := h.n_ g hg
    exact ⟨(h2.off (h.lt hg).2 j1).1, j2⟩
/-- An equation has been noted. -/
theorem LmS.eq {d : Nat} {x : Lt d} (h : LmS w b br own acc eqs sv wr) {w' : World} (hf : Fin9 wr w.heap.size br eqs.length sv (qVs eqs) x w') : ∃ (q : Eqn) (sv' : Value), QnP x q ∧ LmS w b br own acc (eqs ++ [q]) sv' w' := by
  obtain ⟨q, p, c, w2, rfl, hg, hq, hown, hpl⟩ := hf
  obtain ⟨v', hv'⟩ : ∃ v', v' = Value.slice p (eqs.length + 1) c := ⟨_, rfl⟩
  rw [← hv'] at hown hpl ⊢
  have hbl := (Array.getElem?_eq_some_iff.1 h.rb).1
  have hset : ∀ k, k ≠ br → (w2.setCell ⟨br, 0, none⟩ v').heap[k]? = w2.heap[k]? := fun k hk => Below.heap_setCell w2 ⟨br, 0, none⟩ _ k hk
  have hsz : (w2.setCell ⟨br, 0, none⟩ v').heap.size = w2.heap.size := by simp [World.setCell]
  have hold : ∀ k, k < wr.heap.size → k ≠ br → sv.ownBlock ≠ some k → (w2.setCell ⟨br, 0, none⟩ v').heap[k]? = wr.heap[k]? := fun k h1 h2 h3 => (hset k h2).trans (hg.block k h1 (fun e => h3 e.symm))
  have hrb2 : w2.heap[br]? = some (.cells #[sv] 156 (0, 0)) := (hg.block br hbl (fun e => (h.n_ br e.symm).2 rfl)).trans h.rb
  have hvb : v'.ownBlock ≠ some br := by
    intro e
    rcases hown.2 with ⟨hv, _⟩ | ⟨g, cap, cur, fz, hv, _, hg2, _⟩
    · rw [hv] at e; cases e
    · rw [hv] at e
      obtain rfl : g = br := by simpa [Value.ownBlock] using e
      rw [hrb2] at hg2
      simp only [Option.some.injEq, Obj.cells.injEq] at hg2
      exact absurd hg2.2.1 (by decide)
  have hnew : ∀ g, v'.ownBlock = some g → ¬ own g ∧ g ≠ br := fun g hg' => by
    refine ⟨?_, fun e => hvb (by rw [← e]; exact hg')⟩
    rcases hpl g hg' with h1 | ⟨h1, _⟩
    · exact (h.n_ g h1).1
    · exact fun h2 => by have := (h.f_.lo g h2).2; omega
  have hlist : ∀ (p : Option Addr) (l : List (List UInt8)), SsAt w2 wr.heap.size p l → (∀ g, v'.ownBlock = some g → sv.ownBlock = some g ∨ SsOff (fun k => k = g) w2 p l) → SsOff (OwnR own br v') (w2.setCell ⟨br, 0, none⟩ v') p l := fun p l h1 h2 => by
    rcases Nat.eq_zero_or_pos l.length with h0 | hpos
    · exact .inl h0
    rcases h1 with h0 | ⟨a, o, hp, hB, ha, hc⟩
    · exact .inl h0
    · refine .inr ⟨a, o, hp, ?_, by rw [hsz]; exact ha, fun i hi => (World.cell?_of_block (w := w2) (a := ⟨a, o + i, none⟩) (hset a (by omega))).trans (hc i hi)⟩
      rintro (h3 | h3 | h3)
      · have := (h.f_.lo a h3).2; omega
      · omega
      · rcases h2 a h3 with h4 | h4
        · have := (h.lt h4).2; omega
        · rcases h4 with h0 | ⟨a', o', hp', hne, _⟩
          · exact absurd h0 (Nat.ne_of_gt hpos)
          · rw [hp] at hp'
            cases hp'
            exact hne rfl
  have hold2 : ∀ (p : Option Addr) (l : List (List UInt8)), SsOff (OwnR own br sv) wr p l → SsOff (OwnR own br v') (w2.setCell ⟨br, 0, none⟩ v') p l := fun p l h1 => by
    rcases h1 with h0 | ⟨a, o, hp, hB, ha, hc⟩
    · exact .inl h0
    · refine .inr ⟨a, o, hp, ?_, by rw [hsz]; exact Nat.lt_of_lt_of_le ha hg.size, fun i hi => (World.cell?_of_block (w := wr) (a := ⟨a, o + i, none⟩) (hold a ha (fun e => hB (.inr (.inl e))) (fun e => hB (.inr (.inr e))))).trans (hc i hi)⟩
      rintro (h3 | h3 | h3)
      · exact hB (.inl h3)
      · exact hB (.inr (.inl h3))
      · rcases hpl a h3 with h4 | ⟨h4, _⟩
        · exact hB (.inr (.inr h4))
        · omega
  refine ⟨q, v', ⟨hq.left, hq.right, hq.ls, hq.rs⟩, h.f_.off (by rw [hsz]; exact hg.size) fun k hk => hold k (h.f_.lo k hk).2 (fun e => h.nb (e ▸ hk)) (fun e => (h.n_ k e).1 hk), h.nb, h.brl, ⟨hg.os.trans h.bw.os, hg.tape.trans h.bw.tape, hg.output.trans h.bw.output, ?_, fun k hk => ?_⟩, ?_, ?_, hnew, fun p hp => ?_⟩
  · rw [hsz]; exact Nat.le_trans h.bw.size hg.size
  · have h1 := h.bw.size
    have h2 := h.brl
    exact (hold k (by omega) (by omega) (fun e => by have := (h.lt e).1; omega)).trans (h.bw.block k hk)
  · simp [World.setCell, Array.getElem?_modify, hrb2]
  · have hl : (eqs ++ [q]).length = eqs.length + 1 := by simp
    rw [hl, show qVs (eqs ++ [q]) = qVs eqs ++ q.cells by simp [qVs]]
    refine ⟨hown.1, ?_⟩
    rcases hown.2 with h8 | ⟨g, cap, cur, fz, hv, hB, hg2, h9⟩
    · exact .inl h8
    · exact .inr ⟨g, cap, cur, fz, hv, hB, (hset g (hnew g (by rw [hv]; rfl)).2).trans hg2, h9⟩
  · rcases List.mem_append.1 hp with h1 | h1
    · exact ⟨hold2 _ _ (h.e_ p h1).l_, hold2 _ _ (h.e_ p h1).r_⟩
    · rw [List.mem_singleton.1 h1]
      exact ⟨hlist _ _ hq.la fun g hg' => (hpl g hg').imp id fun h => h.2.1, hlist _ _ hq.ra fun g hg' => (hpl g hg').imp id fun h => h.2.2⟩
/-- The rounds begin. -/
theorem LmS.ring (h : LmS w b br own acc eqs sv wr) : Rg own br eqs wr := by
  obtain ⟨p, c, rfl⟩ := own_slice4 h.r_
  refine ⟨p, c, h.rb, ?_, fun q hq => (h.e_ q hq).less fun k hk => hk.elim .inl (fun e => .inr (.inl e))⟩
  rcases qs_own h.r_ with h0 | ⟨a, hp, _, ha, hc⟩
  · exact .inl h0
  · obtain ⟨k1, k2⟩ := h.n_ a (by rw [hp]; rfl)
    exact .inr ⟨a, 0, hp, fun h3 => h3.elim k1 k2, ha, hc⟩
end
end Go.Proofs.YtafjjececdhmjaaGreat
