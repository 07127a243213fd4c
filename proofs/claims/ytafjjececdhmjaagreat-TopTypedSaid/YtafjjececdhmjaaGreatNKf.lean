/- The contract of ring.round at found.take. The contract of ring.round at found.take (the walk). Conditions: the ring, the list and the map lie in memory as they are told. -/
import Derived.Test.YtafjjececdhmjaaGreatNY18
namespace Go.Proofs.YtafjjececdhmjaaGreat
open Go.RowKit Go.Maps

theorem infoEqn : (Tryz.prog.info? 161).map (fun i => (i.zero, i.size, i.bytes)) = some (some (.agg #[.string ⟨#[]⟩, .string ⟨#[]⟩, .slice none 0 0, .slice none 0 0]), 4, 80) := by kernel_rfl
/-- An equation's cells in memory. -/
structure QCell (w : World) (a o : Nat) (q : Eqn) : Prop where
  c0 : w.cell? ⟨a, o, none⟩ = some (.string q.left)
  c1 : w.cell? ⟨a, o + 1, none⟩ = some (.string q.right)
  c2 : w.cell? ⟨a, o + 2, none⟩ = some (.slice q.lp q.ls.length q.lc)
  c3 : w.cell? ⟨a, o + 3, none⟩ = some (.slice q.rp q.rs.length q.rc)
/-- Equations that lie in blocks of others. -/
def QsOff (own : Nat → Prop) (w : World) (p : Option Addr) (l : List Eqn) : Prop :=
  (l.length = 0 ∨ ∃ a o, p = some ⟨a, o, none⟩ ∧ ¬ own a ∧ a < w.heap.size ∧ ∀ i, (h : i < l.length) → QCell w a (o + i * 4) l[i]) ∧ ∀ q ∈ l, EqnAt own w q
theorem QCell.off {w w' : World} {a o : Nat} {q : Eqn} (h : QCell w a o q) (hb : w'.heap[a]? = w.heap[a]?) : QCell w' a o q :=
  ⟨(World.cell?_of_block (w := w) (a := ⟨a, o, none⟩) hb).trans h.c0, (World.cell?_of_block (w := w) (a := ⟨a, o + 1, none⟩) hb).trans h.c1, (World.cell?_of_block (w := w) (a := ⟨a, o + 2, none⟩) hb).trans h.c2, (World.cell?_of_block (w := w) (a := ⟨a, o + 3, none⟩) hb).trans h.c3⟩
theorem QsOff.step {own own' : Nat → Prop} {w w' : World} {p : Option Addr} {l : List Eqn} (h : QsOff own w p l) (k : Ofr own own' w w') : QsOff own' w' p l := by
  refine ⟨?_, fun q hq => (h.2 q hq).step k⟩
  rcases h.1 with h0 | ⟨a, o, hp, hB, ha, hc⟩
  · exact .inl h0
  · obtain ⟨h1, h2⟩ := k.off ha hB
    exact .inr ⟨a, o, hp, h1, Nat.lt_of_lt_of_le ha k.size, fun i hi => (hc i hi).off h2⟩
/-- One block more that is owned. -/
def Or1 (own : Nat → Prop) (b : Nat) (k : Nat) : Prop := own k ∨ k = b
theorem SsOff.less {own own' : Nat → Prop} {w : World} {p : Option Addr} {l : List (List UInt8)} (h : SsOff own w p l) (hs : ∀ k, own' k → own k) : SsOff own' w p l := by
  rcases h with h0 | ⟨a, o, hp, hB, h1⟩
  · exact .inl h0
  · exact .inr ⟨a, o, hp, fun h => hB (hs a h), h1⟩
theorem EqnAt.less {own own' : Nat → Prop} {w : World} {q : Eqn} (h : EqnAt own w q) (hs : ∀ k, own' k → own k) : EqnAt own' w q := ⟨h.l_.less hs, h.r_.less hs⟩
theorem Ofr.or1 {own own' : Nat → Prop} {w w' : World} (h : Ofr own own' w w') (b : Nat) : Ofr (Or1 own b) (Or1 own' b) w w' :=
  ⟨h.os, h.tape, h.output, h.size, fun k hk hn => h.block k hk fun h1 => hn (.inl h1), fun k hk => by
    rcases hk with h1 | h1
    · exact (h.grow k h1).imp .inl id
    · exact .inl (.inr h1)⟩
/-- One step of a round: an equation is offered. -/
def stepQ (s : List (List UInt8) × List Eqn) (q : Eqn) : List (List UInt8) × List Eqn := if takeB s.1 q then (takeA s.1 q, s.2) else (s.1, s.2 ++ [q])
def roundQ (acc : List (List UInt8)) (l : List Eqn) : List (List UInt8) × List Eqn := l.foldl stepQ (acc, [])
theorem roundQ_take (acc : List (List UInt8)) (l : List Eqn) (k : Nat) (h : k < l.length) : roundQ acc (l.take (k + 1)) = stepQ (roundQ acc (l.take k)) l[k] := by
  unfold roundQ
  rw [List.take_succ_eq_append_getElem h, List.foldl_append]
  rfl
theorem stepQ_t {s : List (List UInt8) × List Eqn} {q : Eqn} (h : takeB s.1 q = true) : stepQ s q = (takeA s.1 q, s.2) := by unfold stepQ; rw [if_pos h]
theorem takeA_f {acc : List (List UInt8)} {q : Eqn} (h : takeB acc q = false) : takeA acc q = acc := by
  unfold takeB at h
  rw [Bool.or_eq_false_iff] at h
  unfold takeA
  rw [h.1, h.2]
  rfl
theorem stepQ_f {s : List (List UInt8) × List Eqn} {q : Eqn} (h : takeB s.1 q = false) : stepQ s q = (s.1, s.2 ++ [q]) := by unfold stepQ; rw [h]; rfl
theorem takeA_len (acc : List (List UInt8)) (q : Eqn) : acc.length ≤ (takeA acc q).length ∧ (takeA acc q).length ≤ acc.length + 1 := by
  unfold takeA
  split
  · simp
  · split <;> simp
theorem roundQ_len : ∀ (l : List Eqn) (s : List (List UInt8) × List Eqn), (l.foldl stepQ s).1.length ≤ s.1.length + l.length ∧ (l.foldl stepQ s).2.length ≤ s.2.length + l.length
  | [], s => by simp
  | q :: r, s => by
    have ih := roundQ_len r (stepQ s q)
    have h1 := (takeA_len s.1 q).2
    simp only [List.foldl_cons, List.length_cons]
    rcases h : takeB s.1 q with _ | _
    · rw [stepQ_f h] at ih ⊢
      simp at ih
      omega
    · rw [stepQ_t h] at ih ⊢
      simp only at ih
      omega
theorem enterTake (args : Array Value) (w : World) : (callFunc 75 args).run Tryz.prog w = .ok (.enter 75 args) w := by kernel_rfl
/-- What waits in a ring. -/
def Rg (own : Nat → Prop) (br : Nat) (l : List Eqn) (w : World) : Prop := ∃ p c, w.heap[br]? = some (.cells #[.slice p l.length c] 156 (0, 0)) ∧ QsOff (Or1 own br) w p l
def qVs (l : List Eqn) : List Value := l.flatMap Eqn.cells
theorem qVs_snoc (l : List Eqn) (q : Eqn) : qVs (l ++ [q]) = qVs l ++ [.string q.left, .string q.right, .slice q.lp q.ls.length q.lc, .slice q.rp q.rs.length q.rc] := by simp [qVs, Eqn.cells]
theorem own_slice4 {w : World} {B n k : Nat} {e : TypeId} {v : Value} {xs : List Value} (h : w.ownsRowF B e k v n xs) : ∃ p cap, v = .slice p n cap := by
  rcases h.2 with ⟨hv, hn⟩ | ⟨g, cap, cur, fz, hv, _⟩
  · exact ⟨none, 0, by rw [hv, hn]⟩
  · exact ⟨_, cap, hv⟩
theorem qVs_get (l : List Eqn) (i j : Nat) (hi : i < l.length) (hj : j < 4) : (qVs l)[i * 4 + j]? = l[i].cells[j]? := by
  induction l generalizing i with
  | nil => simp at hi
  | cons q r ih =>
    match i, hi with
    | 0, _ =>
      simp only [qVs, List.flatMap_cons, Nat.zero_mul, Nat.zero_add, List.getElem_cons_zero]
      rw [List.getElem?_append_left (by simp [Eqn.cells]; omega)]
    | i + 1, hi =>
      have h1 := ih i (by simpa using hi)
      simp only [qVs, List.flatMap_cons, List.getElem_cons_succ] at h1 ⊢
      rw [List.getElem?_append_right (by simp [Eqn.cells]; omega), ← h1]
      congr 1
      simp [Eqn.cells]
      omega
/-- A row of equations of one's own, read. -/
theorem qs_own {w : World} {B : Nat} {p : Option Addr} {n c : Nat} {l : List Eqn} (h : w.ownsRowF B 161 4 (.slice p n c) l.length (qVs l)) : l.length = 0 ∨ ∃ a, p = some ⟨a, 0, none⟩ ∧ B ≤ a ∧ a < w.heap.size ∧ ∀ i, (h : i < l.length) → QCell w a (0 + i * 4) l[i] := by
  rcases h.2 with ⟨_, hn⟩ | ⟨g, cap, cur, fz, hv, hB, hg, _, h1, _, h2, h3⟩
  · exact .inl hn
  · injection hv with hv _ _
    have hc : ∀ i j, (hi : i < l.length) → j < 4 → w.cell? ⟨g, 0 + i * 4 + j, none⟩ = l[i].cells[j]? := fun i j hi hj => by
      rw [Lib.cell_of_heap hg]
      have e1 : (cur.toList.take (l.length * 4))[i * 4 + j]? = (qVs l)[i * 4 + j]? := by rw [h3]
      rw [List.getElem?_take_of_lt (by omega), qVs_get l i j hi hj] at e1
      show cur[0 + i * 4 + j]? = _
      rw [Nat.zero_add, ← Array.getElem?_toList]
      exact e1
    exact .inr ⟨g, hv, hB, (Array.getElem?_eq_some_iff.1 hg).1, fun i hi => ⟨hc i 0 hi (by omega), hc i 1 hi (by omega), hc i 2 hi (by omega), hc i 3 hi (by omega)⟩⟩
end Go.Proofs.YtafjjececdhmjaaGreat

namespace Go.Proofs.YtafjjececdhmjaaGreat
open Go.RowKit Go.Maps

/-- The state in a round: what has been found, what has been left, in a row of its own. -/
structure RdS (B : Nat) (own : Nat → Prop) (b br : Nat) (s : List (List UInt8) × List Eqn) (sv : Value) (w wr : World) (own' : Nat → Prop) : Prop where
  f_ : Fnd B own' b s.1 wr
  o_ : Ofr own own' w wr
  r_ : wr.ownsRowF w.heap.size 161 4 sv s.2.length (qVs s.2)
  n_ : ∀ g, sv.ownBlock = some g → ¬ own' g ∧ g ≠ br
theorem RdS.br {B : Nat} {own own' : Nat → Prop} {b br : Nat} {s : List (List UInt8) × List Eqn} {sv : Value} {w wr : World} (h : RdS B own b br s sv w wr own') (hbr : br < w.heap.size) (hn : ¬ own br) : ¬ own' br ∧ wr.heap[br]? = w.heap[br]? := h.o_.off hbr hn
/-- A block more, made by the round. -/
theorem RdS.alloc {B : Nat} {own own' : Nat → Prop} {b br : Nat} {s : List (List UInt8) × List Eqn} {sv : Value} {w wr : World} (h : RdS B own b br s sv w wr own') (o : Obj) : RdS B own b br s sv w (wr.alloc o) own' :=
  have hb : Below wr.heap.size wr (wr.alloc o) := below_alloc wr o
  ⟨h.f_.below hb, h.o_.trans (.of_below hb), h.r_.alloc o, h.n_⟩
/-- An equation has been taken out. -/
theorem RdS.took {B : Nat} {own own' : Nat → Prop} {b br : Nat} {s : List (List UInt8) × List Eqn} {sv : Value} {w wr w1 : World} (h : RdS B own b br s sv w wr own') {q : Eqn} (hp : FPost B own' b (takeA s.1 q) wr w1) : ∃ own2, RdS B own b br (takeA s.1 q, s.2) sv w w1 own2 ∧ Ofr own' own2 wr w1 := by
  obtain ⟨own2, h1, h2⟩ := hp
  refine ⟨own2, ⟨h1, h.o_.trans h2, ⟨h.r_.1, ?_⟩, fun g hg => ?_⟩, h2⟩
  · rcases h.r_.2 with h8 | ⟨g, cap, cur, fz, hv, hB, hg2, h9⟩
    · exact .inl h8
    · exact .inr ⟨g, cap, cur, fz, hv, hB, ((h2.off (Array.getElem?_eq_some_iff.1 hg2).1 (h.n_ g (by rw [hv]; rfl)).1).2).trans hg2, h9⟩
  · rcases h.r_.2 with ⟨hv, _⟩ | ⟨g', cap, cur, fz, hv, hB, hg2, h9⟩
    · rw [hv] at hg; cases hg
    · rw [hv] at hg
      obtain rfl : g' = g := by simpa [Value.ownBlock] using hg
      obtain ⟨k1, k2⟩ := h.n_ g' (by rw [hv]; rfl)
      exact ⟨(h2.off (Array.getElem?_eq_some_iff.1 hg2).1 k1).1, k2⟩
/-- An equation has been left. -/
theorem RdS.left {B : Nat} {own own' : Nat → Prop} {b br : Nat} {s : List (List UInt8) × List Eqn} {sv v' : Value} {w wr w2 : World} (h : RdS B own b br s sv w wr own') (hbr : br < wr.heap.size) {q : Eqn} (hg : wr.grownBy w2 sv.ownBlock) (hown : w2.ownsRowF w.heap.size 161 4 v' (s.2.length + 1) (qVs (s.2 ++ [q])))
    (hpl : ∀ g, v'.ownBlock = some g → sv.ownBlock = some g ∨ wr.heap.size ≤ g) : RdS B own b br (s.1, s.2 ++ [q]) v' w w2 own' := by
  refine ⟨h.f_.off hg.size fun k hk => hg.block k (h.f_.lo k hk).2 fun e => (h.n_ k e.symm).1 hk, ⟨hg.os.trans h.o_.os, hg.tape.trans h.o_.tape, hg.output.trans h.o_.output, Nat.le_trans h.o_.size hg.size, fun k hk hn => ?_, h.o_.grow⟩, by simpa using hown, fun g hg' => ?_⟩
  · refine (hg.block k (Nat.lt_of_lt_of_le hk h.o_.size) fun e => ?_).trans (h.o_.block k hk hn)
    have := (h.r_.lt k e.symm).1
    omega
  · rcases hpl g hg' with h1 | h1
    · exact h.n_ g h1
    · exact ⟨fun h2 => by have := (h.f_.lo g h2).2; omega, by omega⟩
def RoPost (B : Nat) (own : Nat → Prop) (b br : Nat) (n : Nat) (s : List (List UInt8) × List Eqn) (w : World) (e : Ending) (w' : World) : Prop :=
  e = .returned (.bool (decide (s.2.length < n))) ∧ ∃ own', ¬ own' br ∧ Fnd B own' b s.1 w' ∧ Rg own' br s.2 w' ∧ Ofr (Or1 own br) (Or1 own' br) w w'
set_option maxHeartbeats 2000000 in
/-- The round's end: what was left is noted. -/
theorem RdS.done {B : Nat} {own own' : Nat → Prop} {b br n : Nat} {s : List (List UInt8) × List Eqn} {p : Option Addr} {c k0 c0 : Nat} {p0 : Option Addr} {w wr : World} (h : RdS B own b br s (.slice p s.2.length c) w wr own') (hbr : w.heap[br]? = some (.cells #[.slice p0 k0 c0] 156 (0, 0))) (hn : ¬ own br)
    (hq : ∀ q ∈ s.2, EqnAt (Or1 own br) w q) : RoPost B own b br n s w (.returned (.bool (decide (s.2.length < n)))) (wr.setCell ⟨br, 0, none⟩ (.slice p s.2.length c)) := by
  have hbl := (Array.getElem?_eq_some_iff.1 hbr).1
  obtain ⟨h1, h2⟩ := h.br hbl hn
  have hset : ∀ k, k ≠ br → (wr.setCell ⟨br, 0, none⟩ (.slice p s.2.length c)).heap[k]? = wr.heap[k]? := fun k hk => Below.heap_setCell wr ⟨br, 0, none⟩ _ k hk
  have hsz : (wr.setCell ⟨br, 0, none⟩ (.slice p s.2.length c)).heap.size = wr.heap.size := by simp [World.setCell]
  have hO : Ofr (Or1 own br) (Or1 own' br) w (wr.setCell ⟨br, 0, none⟩ (.slice p s.2.length c)) := by
    have k := h.o_.or1 br
    refine ⟨k.os, k.tape, k.output, by rw [hsz]; exact k.size, fun i hi hni => ?_, k.grow⟩
    exact (hset i fun e => hni (.inr e)).trans (k.block i hi hni)
  refine ⟨rfl, own', h1, h.f_.off (by rw [hsz]; exact Nat.le_refl _) fun k hk => hset k fun e => h1 (e ▸ hk), ⟨p, c, ?_, ?_, fun q hq' => (hq q hq').step hO⟩, hO⟩
  · have h3 := h2.trans hbr
    simp [World.setCell, Array.getElem?_modify, h3]
  · rcases qs_own h.r_ with h0 | ⟨a, hp, hB, ha, hc⟩
    · exact .inl h0
    · obtain ⟨k1, k2⟩ := h.n_ a (by rw [hp]; rfl)
      exact .inr ⟨a, 0, hp, fun h3 => h3.elim k1 k2, by rw [hsz]; exact ha, fun i hi => (hc i hi).off (hset a k2)⟩
theorem roundQ_mem : ∀ (l : List Eqn) (s : List (List UInt8) × List Eqn) (q : Eqn), q ∈ (l.foldl stepQ s).2 → q ∈ s.2 ∨ q ∈ l
  | [], s, q, h => .inl h
  | x :: r, s, q, h => by
    rcases roundQ_mem r (stepQ s x) q h with h1 | h1
    · rcases hx : takeB s.1 x with _ | _
      · rw [stepQ_f hx] at h1
        rcases List.mem_append.1 h1 with h2 | h2
        · exact .inl h2
        · exact .inr (by rw [List.mem_singleton.1 h2]; simp)
      · rw [stepQ_t hx] at h1
        exact .inl h1
    · exact .inr (List.mem_cons_of_mem _ h1)
set_option maxHeartbeats 8000000 in
set_option maxRecDepth 100000 in
theorem tRound {B : Nat} {own : Nat → Prop} {b br : Nat} {acc : List (List UInt8)} {l : List Eqn} {w : World} (h : Fnd B own b acc w) (hg : Rg own br l w) (hnb : ¬ own br) (hr : ∀ q ∈ l, EqnR q) (hl : acc.length + l.length ≤ 9999) :
    Calls Tryz.prog 74 #[.pointer (some ⟨br, 0, none⟩), .func (.func 75) #[.pointer (some ⟨b, 0, none⟩)] #[]] w (RoPost B own b br l.length (roundQ acc l) w) := by
  obtain ⟨p, c, hbr, hq⟩ := hg
  have x0 : w.cell? ⟨br, 0, none⟩ = some (.slice p l.length c) := by rw [Lib.cell_of_heap hbr]; rfl
  have HBR := Lib.hid hbr; clear hbr
  have HF := Lib.hid h; clear h
  have HQ := Lib.hid hq; clear hq
  have HNB := Lib.hid hnb; clear hnb
  have HR := Lib.hid hr; clear hr
  have HL := Lib.hid hl
  have hll : l.length ≤ 9999 := by omega
  clear hl
  obtain ⟨i0, hi, hzz⟩ := Option.map_eq_some_iff.1 infoEqn
  simp only [Prod.mk.injEq] at hzz
  obtain ⟨hz0, hz1, hz2⟩ := hzz
  have HI := Lib.hid hi; clear hi
  have HZ0 := Lib.hid hz0; clear hz0
  have HZ1 := Lib.hid hz1; clear hz1
  have HZ2 := Lib.hid hz2; clear hz2
  have hF := enterTake
  have HBL := Lib.hid (Array.getElem?_eq_some_iff.1 HBR.out).1
  obtain ⟨z, hz⟩ : ∃ z, z = roundQ acc l := ⟨_, rfl⟩
  rw [← hz]
  have HZ := Lib.hid hz; clear hz
  go_enter Tryz.func74, Tryz.ntmps74
  go_wp2_with fail
  go_loopw [6, 8, 19] (fun sv _ i wr => ∃ k : Nat, k ≤ l.length ∧ i = .int .i64 k ∧ ∃ own', RdS B own b br (roundQ acc (l.take k)) sv w wr own') (fun _ _ i _ => l.length - (intOf i).toNat)
  case atStart => exact ⟨0, by omega, rfl, own, ⟨HF.out, Ofr.refl _ _, World.ownsRowF_nil _ _ _ _, fun g hg => by cases hg⟩⟩
  case round =>
    obtain ⟨k, hk, rfl, own', hrd⟩ := hrel
    obtain ⟨ps, cs, rfl⟩ := own_slice4 hrd.r_
    have HRD := Lib.hid hrd; clear hrd
    have HBB := Lib.hid (HRD.out.br HBL.out HNB.out)
    by_cases hlt : k < l.length
    · have hk0 : (0 : Int) ≤ (k : Int) := by omega
      have hki : (k : Int) < (l.length : Int) := by omega
      rcases HQ.out.1 with h0 | ⟨a, o, rfl, hna, ha, hck⟩
      · omega
      · have hoff := (HRD.out.o_.off ha (fun h => hna (.inl h))).2
        obtain ⟨y0, y1, y2, y3⟩ := (hck k hlt).off hoff
        have HEQ := Lib.hid (((HQ.out.2 _ (List.getElem_mem hlt)).less (own' := own) (fun k h => .inl h)).step HRD.out.o_)
        have HRQ := Lib.hid (HR.out _ (List.getElem_mem hlt))
        have HT := Lib.hid (roundQ_take acc l k hlt)
        have hrl := roundQ_len (l.take k) (acc, [])
        rw [List.length_take] at hrl
        have HAL := Lib.hid (show (roundQ acc (l.take k)).1.length ≤ 9999 by
          have h8 := hrl.1
          have h9 := HL.out
          simp only at h8
          unfold roundQ
          omega)
        have HAL2 := Lib.hid (show (roundQ acc (l.take k)).2.length ≤ 9999 by
          have h8 := hrl.2
          have h9 := HL.out
          simp only [List.length_nil] at h8
          unfold roundQ
          omega)
        clear hrl hck hoff
        obtain ⟨q, hqq⟩ : ∃ q, q = l[k] := ⟨_, rfl⟩
        rw [← hqq] at y0 y1 y2 y3 HEQ HRQ HT
        clear hqq
        obtain ⟨s, hs⟩ : ∃ s, s = roundQ acc (l.take k) := ⟨_, rfl⟩
        rw [← hs] at HRD HT HAL HAL2 ⊢
        clear hs
        obtain ⟨V, hV⟩ : ∃ V, V = wr.alloc (.cells #[.string q.left, .string q.right, .slice q.lp q.ls.length q.lc, .slice q.rp q.rs.length q.rc] 161) := ⟨_, rfl⟩
        have HBV := Lib.hid (show Below wr.heap.size wr V by rw [hV]; exact below_alloc _ _)
        have HSV := Lib.hid (show V.heap.size = wr.heap.size + 1 by rw [hV]; simp)
        have HV4 := Lib.hid (fourE (show V.heap[wr.heap.size]? = some (.cells #[.string q.left, .string q.right, .slice q.lp q.ls.length q.lc, .slice q.rp q.rs.length q.rc] 161 (0, 0)) by rw [hV]; exact heap_alloc_new wr _))
        have HRV : Hid (RdS B own b br s (.slice ps s.2.length cs) w V own') := Lib.hid (by rw [hV]; exact HRD.out.alloc _)
        have HTK := Lib.hid (tTake HRV.out.f_ q (HEQ.out.step (.of_below HBV.out)) HRQ.out HAL.out)
        obtain ⟨v0, v1, v2, v3⟩ := HV4.out
        rw [hV] at v0 v1 v2 v3
        go_wp2_with fail
        rw [← hV] at v0 v1 v2 v3 ⊢
        clear hV y0 y1 y2 y3
        refine HTK.out.mono ?_
        rintro e w1 ⟨rfl, hp⟩
        have htook := HRV.out.took hp
        clear hp
        obtain ⟨own2, hr2, ho2⟩ := htook
        have hsame : ∀ o, w1.cell? ⟨wr.heap.size, o, none⟩ = V.cell? ⟨wr.heap.size, o, none⟩ := fun o => World.cell?_of_block (w := V) (a := ⟨wr.heap.size, o, none⟩) (ho2.off (a := wr.heap.size) (show wr.heap.size < V.heap.size by have := HSV.out; omega) (fun h1 => by have := (HRD.out.f_.lo wr.heap.size h1).2; omega)).2
        rw [← hsame] at v0 v1 v2 v3
        have HR2 := Lib.hid hr2
        clear hr2 ho2 hsame
        rcases htb : takeB s.1 q with _ | _
        · have HST := Lib.hid (show roundQ acc (l.take (k + 1)) = (s.1, s.2 ++ [q]) by rw [HT.out, stepQ_f htb])
          have HTA := Lib.hid (takeA_f htb)
          clear htb
          have hr3 := HR2.out
          rw [HTA.out] at hr3
          have HR3 := Lib.hid hr3
          clear hr3 HR2
          have hbase := Nat.le_trans HRD.out.o_.size (Nat.le_trans HBV.out.size (Nat.le_refl _))
          have hw1 := HR3.out.o_.size
          have hal := HAL2.out
          obtain ⟨wb, rfl⟩ : ∃ wb, wb = w1 := ⟨_, rfl⟩
          go_wp2_with (at_builtin; refine wpApp_row rfl _ _ 154 rfl w.heap.size 161 i0 _ 4 80 Tryz.underlying154 HI.out HZ0.out HZ1.out HZ2.out rfl (by decide) _ _ _ rfl (HR3.out.r_.alloc _) ⟨wb.heap.size, 0, none⟩ 1 1 [.string q.left, .string q.right, .slice q.lp q.ls.length q.lc, .slice q.rp q.rs.length q.rc] rfl rfl (new_cells wb [.string q.left, .string q.right, .slice q.lp q.ls.length q.lc, .slice q.rp q.rs.length q.rc] 161) ?c1 ?c2 ?c3 ?c4 ?_)
          case c1 => intro u hu; simp only [List.mem_cons, List.not_mem_nil, or_false] at hu; rcases hu with rfl | rfl | rfl | rfl <;> rfl
          case c2 => unfold maxLen; omega
          case c3 => omega
          case c4 => simp; omega
          intro v' w2 hown hgrow _ hpl
          rw [← qVs_snoc] at hown
          have HR4 := Lib.hid ((HR3.out.alloc (.cells #[.string q.left, .string q.right, .slice q.lp q.ls.length q.lc, .slice q.rp q.rs.length q.rc] 161)).left (q := q) (by have := HBL.out; simp; omega) hgrow hown (fun g hg => (hpl g hg).imp id fun h => by simpa using h))
          obtain ⟨p2, c2, rfl⟩ := own_slice4 hown
          clear hown hgrow hpl hbase hw1 hal v0 v1 v2 v3
          go_wp2_with fail
          go_roundw
          case rel => exact ⟨k + 1, by omega, by go_num, own2, by rw [HST.out]; exact HR4.out⟩
          case measure => simp [intOf]; omega
        · have HST := Lib.hid (show roundQ acc (l.take (k + 1)) = (takeA s.1 q, s.2) by rw [HT.out, stepQ_t htb])
          clear htb
          go_wp2_with fail
          go_roundw
          case rel => exact ⟨k + 1, by omega, by go_num, own2, by rw [HST.out]; exact HR2.out⟩
          case measure => simp [intOf]; omega
    · obtain rfl : k = l.length := by omega
      have HE := Lib.hid (show (l.take l.length) = l from List.take_of_length_le (Nat.le_refl _))
      have hrd : RdS B own b br z (.slice ps z.2.length cs) w wr own' := by
        rw [HZ.out]
        have h9 := HRD.out
        rw [HE.out] at h9
        exact h9
      have hzn : (roundQ acc (l.take l.length)).2.length = z.2.length := by rw [HE.out, HZ.out]
      rw [hzn]
      have z0 : wr.cell? ⟨br, 0, none⟩ = some (.slice p l.length c) := by rw [World.cell?_of_block (w := w) (a := ⟨br, 0, none⟩) HBB.out.2]; exact x0
      have zf : wr.frozen? ⟨br, 0, none⟩ = false := Lib.frozen_of_heap (HBB.out.2.trans HBR.out) 0
      have HD := Lib.hid (hrd.done (n := l.length) HBR.out HNB.out (fun q hq => HQ.out.2 q (by
        rw [HZ.out] at hq
        rcases roundQ_mem l (acc, []) q hq with h1 | h1
        · simp at h1
        · exact h1)))
      clear hrd hzn x0
      go_wp2_with fail
      go_ret
      exact HD.out
end Go.Proofs.YtafjjececdhmjaaGreat
