/- Columns' types, as they are noted: the state, its steps. The signatures sorted: the noting begins. The noting begins, goes on: the steps of Infer's last loop. Conditions: as told. -/
import Derived.Test.YtafjjececdhmjaaGreatNKq
namespace Go.Proofs.YtafjjececdhmjaaGreat
open Go.RowKit Go.Maps Go.Sort

/-- A place has this type, or none (0). -/
def TyOf (cs : List Cn) (p : Pl) (t : Int) : Prop := (t ≠ 0 → Has cs t p) ∧ ∀ u, Has cs u p → u = t
theorem tyOf_sm {N : Nat → Prop} {up : Nat → Option Nat} {ty : Nat → Int} {ps : List (Pl × Nat)} {cs : List Cn} (S : Sm N up ty ps cs) (K : KeyOne ps) {p : Pl} {a r : Nat} (hp : (p, a) ∈ ps) (hr : Rt up a r) : TyOf cs p (ty r) := by
  refine ⟨fun h => S.has p a r hp hr h, fun u hu => ?_⟩
  obtain ⟨_, b, q, h1, h2, h3⟩ := S.of_has K hu
  obtain rfl := K p a b hp h1
  obtain rfl := hr.one h2
  exact h3.symm
theorem tyOf_none {N : Nat → Prop} {up : Nat → Option Nat} {ty : Nat → Int} {ps : List (Pl × Nat)} {cs : List Cn} (S : Sm N up ty ps cs) (K : KeyOne ps) {p : Pl} (hp : ∀ a, (p, a) ∉ ps) : TyOf cs p 0 := by
  refine ⟨fun h => absurd rfl h, fun u hu => ?_⟩
  obtain ⟨_, b, q, h1, _⟩ := S.of_has K hu
  exact absurd h1 (hp b)
/-- What the signatures are, whatever their types. -/
structure SgOk (prs : List (List UInt8 × Nat)) (dd : List Sg) : Prop where
  so : ∀ i j, (hi : i < dd.length) → (hj : j < dd.length) → i < j → bl dd[i].name < bl dd[j].name
  in_ : ∀ x ∈ dd, (bl x.name, x.cols.length) ∈ prs
  all : ∀ u n, (u, n) ∈ prs → ∃ x ∈ dd, bl x.name = u
/-- The state of the noting. -/
structure ColS (prs : List (List UInt8 × Nat)) (cs : List Cn) (V4 : World) (m blk r : Nat) (es : Array MapEntry) (clock since c0 : Nat) (dd : List Sg) (s : Gs) (seen : Array Nat) (X : Pl → Prop) (wr : World) : Prop where
  bw : Below m V4 wr
  vz : m ≤ V4.heap.size
  gs : Gst m (m + 1) m (KnP prs) cs s wr
  tn : s.tn = false
  nv : ∀ k, s.N k → k < V4.heap.size
  ok : SgOk prs dd
  row : SgRow wr blk dd
  co : ∀ x ∈ dd, SgCols wr V4.heap.size x
  nd : (dd.map Sg.cp).Nodup
  nb : ∀ x ∈ dd, x.cp ≠ blk ∧ x.cp ≠ r
  bk : V4.heap.size ≤ blk ∧ V4.heap.size ≤ r ∧ r ≠ blk ∧ m + 1 < V4.heap.size
  mp : wr.heap[m]? = some (.map es clock)
  en : es.toList.map (fun e => (e.key, e.val)) = s.ps.map (fun x => (plV x.1, ptrOf x.2))
  st : MapKept.Stamped es clock
  it : wr.heap[r]? = some (.mapIter (some m) since seen c0)
  hd : (∀ x ∈ es.toList, x.born < since) ∧ since ≤ c0
  ty : ∀ x ∈ dd, ∀ i, (h : i < x.cols.length) → X ⟨-1, x.name, i⟩ ∨ TyOf cs ⟨-1, x.name, i⟩ x.cols[i] ∨ (x.cols[i] = 0 ∧ ∀ e ∈ es.toList, e.key = plV ⟨-1, x.name, i⟩ → e.born ∉ seen)
theorem bl_inj {a b : ByteArray} (h : bl a = bl b) : a = b := by rw [← mk_bl a, ← mk_bl b, h]
theorem setB_other (w : World) (r k : Nat) (o : Obj) (h : k ≠ r) : (ChangeMaps.setBlock w r o).heap[k]? = w.heap[k]? := by
  simp [ChangeMaps.setBlock, Array.getElem?_setIfInBounds_ne (Ne.symm h)]
theorem setB_same (w : World) (r : Nat) (o : Obj) (h : r < w.heap.size) : (ChangeMaps.setBlock w r o).heap[r]? = some o := by
  simp [ChangeMaps.setBlock, h]
theorem setB_size (w : World) (r : Nat) (o : Obj) : (ChangeMaps.setBlock w r o).heap.size = w.heap.size := by
  simp [ChangeMaps.setBlock]
section
variable {prs : List (List UInt8 × Nat)} {cs : List Cn} {V4 : World} {m blk r : Nat} {es : Array MapEntry} {clock since c0 : Nat} {dd : List Sg} {s : Gs} {seen : Array Nat} {X : Pl → Prop} {wr : World}
/-- At the end each column has its type. -/
theorem ColS.done (h : ColS prs cs V4 m blk r es clock since c0 dd s seen (fun _ => False) wr) (hl : (leftOf es seen).size = 0) : ∀ x ∈ dd, ∀ i, (hi : i < x.cols.length) → TyOf cs ⟨-1, x.name, i⟩ x.cols[i] := by
  intro x hx i hi
  rcases h.ty x hx i hi with h1 | h1 | ⟨h1, h2⟩
  · exact h1.elim
  · exact h1
  · have hall : ∀ e ∈ es.toList, e.born ∈ seen := fun e he => by
      have h3 := all_seen es seen hl e he
      simpa using h3
    rw [h1]
    refine tyOf_none (h.gs.sm0 h.tn) h.gs.key fun a ha => ?_
    have h4 : (plV ⟨-1, x.name, i⟩, ptrOf a) ∈ s.ps.map (fun x => (plV x.1, ptrOf x.2)) := List.mem_map.2 ⟨_, ha, rfl⟩
    rw [← h.en] at h4
    obtain ⟨e, he, h5⟩ := List.mem_map.1 h4
    injection h5 with h6 _
    exact h2 e he h6 (hall e he)
/-- The entry that comes next. -/
theorem ColS.entry (h : ColS prs cs V4 m blk r es clock since c0 dd s seen X wr) {e : MapEntry} (he : e ∈ es.toList) : ∃ p a, (p, a) ∈ s.ps ∧ e.key = plV p ∧ e.val = ptrOf a := by
  have h1 : (e.key, e.val) ∈ es.toList.map (fun e => (e.key, e.val)) := List.mem_map.2 ⟨e, he, rfl⟩
  rw [h.en] at h1
  obtain ⟨⟨p, a⟩, h2, h3⟩ := List.mem_map.1 h1
  injection h3 with h4 h5
  exact ⟨p, a, h2, h4.symm, h5.symm⟩
/-- The world behind a step of the loop's own. -/
theorem ColS.stepped (h : ColS prs cs V4 m blk r es clock since c0 dd s seen X wr) {w1 w2 : World} (h1 : w1 = wr ∨ w1 = wr.drew) {seen' : Array Nat} (h2 : w2 = ChangeMaps.setBlock w1 r (.mapIter (some m) since seen' clock)) (hsc : since ≤ clock) {X' : Pl → Prop} (hty : ∀ x ∈ dd, ∀ i, (hi : i < x.cols.length) → X' ⟨-1, x.name, i⟩ ∨ TyOf cs ⟨-1, x.name, i⟩ x.cols[i] ∨ (x.cols[i] = 0 ∧ ∀ e ∈ es.toList, e.key = plV ⟨-1, x.name, i⟩ → e.born ∉ seen')) : ColS prs cs V4 m blk r es clock since clock dd s seen' X' w2 := by
  have hit1 : w1.heap[r]? = some (.mapIter (some m) since seen c0) := by rcases h1 with rfl | rfl <;> exact h.it
  have hsz : w2.heap.size = wr.heap.size := by
    rw [h2, setB_size]
    rcases h1 with rfl | rfl <;> rfl
  have hb : ∀ k, k ≠ r → w2.heap[k]? = wr.heap[k]? := fun k hk => by
    rw [h2, setB_other _ _ _ _ hk]
    rcases h1 with rfl | rfl <;> rfl
  have hrk : ∀ k, k < V4.heap.size → k ≠ r := fun k hk e => by have := h.bk.2.1; omega
  refine ⟨⟨?_, ?_, ?_, by rw [hsz]; exact h.bw.size, fun k hk => (hb k (hrk k (by have := h.vz; omega))).trans (h.bw.block k hk)⟩, h.vz, ?_, h.tn, h.nv, h.ok, h.row.off (hb blk (Ne.symm h.bk.2.2.1)) (by rw [hsz]; exact Nat.le_refl _), fun x hx => ⟨(h.co x hx).1, (hb x.cp (h.nb x hx).2).trans (h.co x hx).2⟩, h.nd, h.nb, h.bk, (hb m (hrk m (by have := h.bk.2.2.2; omega))).trans h.mp, h.en, h.st, ?_, ⟨h.hd.1, hsc⟩, hty⟩
  · rw [h2]; rcases h1 with rfl | rfl <;> exact h.bw.os
  · rw [h2]; rcases h1 with rfl | rfl <;> exact h.bw.tape
  · rw [h2]; rcases h1 with rfl | rfl <;> exact h.bw.output
  · have G := h.gs
    obtain ⟨t, hg⟩ := G.gb
    exact ⟨⟨t, (hb (m + 1) (hrk _ h.bk.2.2.2)).trans hg⟩, ⟨es, clock, (hb m (hrk m (by have := h.bk.2.2.2; omega))).trans h.mp, h.en, h.st⟩, G.lo, G.fo.off fun a ha => hb a (hrk a (h.nv a ha)), G.fa, G.out, G.t3, fun x hx => by
      obtain ⟨k1, k2, k3⟩ := G.nt x hx
      exact ⟨k1, k2, k3.off (hb x.2 (hrk _ (h.nv _ k1)))⟩, G.key, G.sm0, G.sm1⟩
  · rw [h2]; exact setB_same _ _ _ (Array.getElem?_eq_some_iff.1 hit1).1
/-- The top of a place's class has been asked for. -/
theorem ColS.topped (h : ColS prs cs V4 m blk r es clock since c0 dd s seen X wr) {w1 : World} {up' : Nat → Option Nat} {rk' : Nat → Nat} (hf : Falls up' rk') (hrt : ∀ b c, Rt up' b c ↔ Rt s.up b c) (hfo : Fo w1 s.N up' s.ty) (hn : Nf s.N wr w1) : ColS prs cs V4 m blk r es clock since c0 dd { s with up := up' } seen X w1 := by
  have hb : ∀ k, ¬ s.N k → w1.heap[k]? = wr.heap[k]? := hn.block
  have hv : ∀ k, V4.heap.size ≤ k → ¬ s.N k := fun k hk h1 => by have := h.nv k h1; omega
  refine ⟨h.bw.trans (hn.below fun a ha => h.gs.lo.2.2 a ha), h.vz, (h.gs.turned hf hrt hfo hn).1, h.tn, h.nv, h.ok, h.row.off (hb blk (hv blk h.bk.1)) (Nat.le_of_eq hn.size.symm), fun x hx => ⟨(h.co x hx).1, (hb x.cp (hv _ (h.co x hx).1)).trans (h.co x hx).2⟩, h.nd, h.nb, h.bk, (hb m h.gs.nm).trans h.mp, h.en, h.st, (hb r (hv r h.bk.2.1)).trans h.it, h.hd, h.ty⟩
/-- A column's type has been noted. -/
theorem ColS.stored {j col : Nat} (hj : j < dd.length) {x : Sg} (hx : x = dd[j]) (h : ColS prs cs V4 m blk r es clock since c0 dd s seen (fun q => q = ⟨-1, x.name, (col : Int)⟩) wr) {t : Int} (ht : TyOf cs ⟨-1, x.name, col⟩ t) :
    ColS prs cs V4 m blk r es clock since c0 (dd.set j ⟨x.name, x.cp, x.cols.set col t⟩) s seen (fun _ => False) (wr.setCell ⟨x.cp, col, none⟩ (.int .i8 t)) := by
  obtain ⟨y, hy⟩ : ∃ y, y = (⟨x.name, x.cp, x.cols.set col t⟩ : Sg) := ⟨_, rfl⟩
  rw [← hy]
  have hxm : x ∈ dd := by rw [hx]; exact List.getElem_mem hj
  have hlen : (dd.set j y).length = dd.length := List.length_set
  have hget : ∀ i (hi : i < dd.length), (dd.set j y)[i]'(by rw [hlen]; exact hi) = if j = i then y else dd[i] := fun i hi => List.getElem_set _
  have hsame : ∀ i (hi : i < dd.length), ((dd.set j y)[i]'(by rw [hlen]; exact hi)).name = dd[i].name ∧ ((dd.set j y)[i]'(by rw [hlen]; exact hi)).cp = dd[i].cp ∧ ((dd.set j y)[i]'(by rw [hlen]; exact hi)).cols.length = dd[i].cols.length := fun i hi => by
    rw [hget i hi]
    split
    · rename_i e
      subst e
      rw [← hx, hy]
      simp
    · exact ⟨rfl, rfl, rfl⟩
  have hmem : ∀ z ∈ dd.set j y, ∃ i, ∃ hi : i < dd.length, z = (dd.set j y)[i]'(by rw [hlen]; exact hi) := fun z hz => by
    obtain ⟨i, hi, e⟩ := List.getElem_of_mem hz
    exact ⟨i, by rw [hlen] at hi; exact hi, e.symm⟩
  have hcpV := (h.co x hxm).1
  have hcb := (h.co x hxm).2
  have hset : ∀ k, k ≠ x.cp → (wr.setCell ⟨x.cp, col, none⟩ (.int .i8 t)).heap[k]? = wr.heap[k]? := fun k hk => Below.heap_setCell wr ⟨x.cp, col, none⟩ _ k hk
  have hsz : (wr.setCell ⟨x.cp, col, none⟩ (.int .i8 t)).heap.size = wr.heap.size := by simp [World.setCell]
  have hlow : ∀ k, k < V4.heap.size → k ≠ x.cp := fun k hk e => by omega
  have hcps : (dd.set j y).map Sg.cp = dd.map Sg.cp := by
    refine List.ext_getElem (by simp) fun i h1 h2 => ?_
    simp only [List.length_map] at h2
    rw [List.getElem_map, List.getElem_map]
    exact (hsame i h2).2.1
  refine ⟨h.bw.setCell (p := ⟨x.cp, col, none⟩) (by have := h.vz; show m ≤ x.cp; omega) _, h.vz, ?_, h.tn, h.nv, ⟨fun i k hi hk hik => ?_, fun z hz => ?_, fun u n hu => ?_⟩, ⟨by rw [hsz]; exact h.row.1, fun i hi => ?_⟩, fun z hz => ?_, by rw [hcps]; exact h.nd, fun z hz => ?_, h.bk, (hset m (hlow m (by have := h.bk.2.2.2; omega))).trans h.mp, h.en, h.st, (hset r (fun e => (h.nb x hxm).2 e.symm)).trans h.it, h.hd, fun z hz i hi => ?_⟩
  · have G := h.gs
    obtain ⟨tt, hg⟩ := G.gb
    exact ⟨⟨tt, (hset (m + 1) (hlow _ h.bk.2.2.2)).trans hg⟩, ⟨es, clock, (hset m (hlow m (by have := h.bk.2.2.2; omega))).trans h.mp, h.en, h.st⟩, G.lo, G.fo.off fun a ha => hset a (hlow a (h.nv a ha)), G.fa, G.out, G.t3, fun x hx => by
      obtain ⟨k1, k2, k3⟩ := G.nt x hx
      exact ⟨k1, k2, k3.off (hset x.2 (hlow _ (h.nv _ k1)))⟩, G.key, G.sm0, G.sm1⟩
  · rw [hlen] at hi hk
    rw [(hsame i hi).1, (hsame k hk).1]
    exact h.ok.so i k hi hk hik
  · obtain ⟨i, hi, rfl⟩ := hmem z hz
    rw [(hsame i hi).1, (hsame i hi).2.2]
    exact h.ok.in_ _ (List.getElem_mem hi)
  · obtain ⟨z, hz, e⟩ := h.ok.all u n hu
    obtain ⟨i, hi, rfl⟩ := List.getElem_of_mem hz
    exact ⟨_, List.getElem_mem (by rw [hlen]; exact hi), by rw [(hsame i hi).1]; exact e⟩
  · rw [hlen] at hi
    obtain ⟨k1, k2, k3⟩ := hsame i hi
    have hb := hset blk (fun e => (h.nb x hxm).1 e.symm)
    rw [k1, k2, k3, World.cell?_of_block (w := wr) (a := ⟨blk, i * 2, none⟩) hb, World.cell?_of_block (w := wr) (a := ⟨blk, i * 2 + 1, none⟩) hb]
    exact h.row.2 i hi
  · obtain ⟨i, hi, rfl⟩ := hmem z hz
    rw [hget i hi]
    split
    · rw [hy]
      refine ⟨hcpV, ?_⟩
      simp only [World.setCell, Array.getElem?_modify, hcb, if_pos, Option.map_some]
      simp [List.map_set]
    · rename_i e
      have hne : dd[i].cp ≠ x.cp := fun e2 => by
        have h1 : (dd.map Sg.cp)[i]'(by simpa using hi) = (dd.map Sg.cp)[j]'(by simpa using hj) := by simp [e2, hx]
        have hpw := List.pairwise_iff_getElem.1 h.nd
        rcases Nat.lt_or_gt_of_ne e with h6 | h6
        · exact hpw j i (by simpa using hj) (by simpa using hi) h6 h1.symm
        · exact hpw i j (by simpa using hi) (by simpa using hj) h6 h1
      exact ⟨(h.co _ (List.getElem_mem hi)).1, (hset _ hne).trans (h.co _ (List.getElem_mem hi)).2⟩
  · obtain ⟨i, hi, rfl⟩ := hmem z hz
    rw [(hsame i hi).2.1]
    exact h.nb _ (List.getElem_mem hi)
  · obtain ⟨k, hk, rfl⟩ := hmem z hz
    have hgk := hget k hk
    have haux : ∀ z : Sg, z = y → ∀ (h1 : i < z.cols.length) (h2 : i < (x.cols.set col t).length), z.cols[i] = (x.cols.set col t)[i] := fun z hz h1 h2 => by
      subst hz
      subst hy
      rfl
    have haux2 : ∀ z u : Sg, z = u → ∀ (h1 : i < z.cols.length) (h2 : i < u.cols.length), z.cols[i] = u.cols[i] := fun z u hz h1 h2 => by
      subst hz
      rfl
    by_cases e : j = k
    · rw [if_pos e] at hgk
      have hi' : i < (x.cols.set col t).length := by rw [hgk, hy] at hi; exact hi
      have e1 : ((dd.set j y)[k]'(by rw [hlen]; exact hk)).cols[i] = (x.cols.set col t)[i] := haux _ hgk hi hi'
      have e2 : ((dd.set j y)[k]'(by rw [hlen]; exact hk)).name = x.name := by rw [hgk, hy]
      rw [e1, e2, List.getElem_set]
      by_cases ec : col = i
      · rw [if_pos ec]
        subst ec
        exact .inr (.inl ht)
      · rw [if_neg ec]
        have hi2 : i < x.cols.length := by simpa using hi'
        rcases h.ty x hxm i hi2 with h1 | h1 | h1
        · injection h1 with _ _ h4
          omega
        · exact .inr (.inl h1)
        · exact .inr (.inr h1)
    · rw [if_neg e] at hgk
      have hi2 : i < dd[k].cols.length := by rw [hgk] at hi; exact hi
      have e1 : ((dd.set j y)[k]'(by rw [hlen]; exact hk)).cols[i] = dd[k].cols[i] := haux2 _ _ hgk hi hi2
      have e2 : ((dd.set j y)[k]'(by rw [hlen]; exact hk)).name = dd[k].name := by rw [hgk]
      rw [e1, e2]
      rcases h.ty _ (List.getElem_mem hk) i hi2 with h1 | h1 | h1
      · injection h1 with _ h3 _
        have h5 : bl dd[k].name = bl dd[j].name := by rw [h3, hx]
        rcases Nat.lt_or_gt_of_ne e with h6 | h6
        · have := h.ok.so j k hj hk h6
          rw [h5] at this
          exact absurd this (List.lt_irrefl _)
        · have := h.ok.so k j hk hj h6
          rw [h5] at this
          exact absurd this (List.lt_irrefl _)
      · exact .inr (.inl h1)
      · exact .inr (.inr h1)
end
end Go.Proofs.YtafjjececdhmjaaGreat

namespace Go.Proofs.YtafjjececdhmjaaGreat
open Go.RowKit Go.Maps Go.Sort

theorem sgVs_get (l : List Sg) (i j : Nat) (hi : i < l.length) (hj : j < 2) : (sgVs l)[i * 2 + j]? = l[i].cells[j]? := by
  induction l generalizing i with
  | nil => simp at hi
  | cons q r ih =>
    match i, hi with
    | 0, _ =>
      simp only [sgVs, List.flatMap_cons, Nat.zero_mul, Nat.zero_add, List.getElem_cons_zero]
      rw [List.getElem?_append_left (by simp [Sg.cells]; omega)]
    | i + 1, hi =>
      have h1 := ih i (by simpa using hi)
      simp only [sgVs, List.flatMap_cons, List.getElem_cons_succ] at h1 ⊢
      rw [List.getElem?_append_right (by simp [Sg.cells]; omega), ← h1]
      congr 1
      simp [Sg.cells]
      omega
theorem own_holds {w : World} {B g c : Nat} {sg : List Sg} (h : w.ownsRow B 46 2 (.slice (some ⟨g, 0, none⟩) sg.length c) sg.length (sgVs sg)) : HoldsK Sg.cells 2 w g 0 sg.toArray := by
  rcases h.2 with ⟨hv, _⟩ | ⟨g', cap, cur, hv, hB, hg, _, _, h2, h3⟩
  · cases hv
  · obtain rfl : g = g' := by injection hv with hv; injection hv with hv; injection hv
    intro t ht
    rw [size_flatK] at ht
    refine ⟨?_, Lib.frozen_of_heap hg _⟩
    rw [get_flatK _ _ _ _ ht, Lib.cell_of_heap hg]
    have hn : sg.toArray.size = sg.length := rfl
    rw [hn] at ht
    have hi : t / 2 < sg.length := by omega
    have e1 : (cur.toList.take (sg.length * 2))[t / 2 * 2 + t % 2]? = (sgVs sg)[t / 2 * 2 + t % 2]? := by rw [h3]
    rw [List.getElem?_take_of_lt (by omega), sgVs_get sg (t / 2) (t % 2) hi (by omega), show t / 2 * 2 + t % 2 = t by omega] at e1
    show cur[0 + t]? = _
    rw [Nat.zero_add, ← Array.getElem?_toList, e1]
    have e2 : sg.toArray[t / 2]! = sg[t / 2] := by simp [hi]
    rw [e2]
    have h4 : t % 2 < (sg[t / 2]).cells.length := by simp [Sg.cells]; omega
    rw [List.getElem?_eq_getElem h4, List.getElem!_eq_getElem?_getD, List.getElem?_eq_getElem h4]
    rfl
theorem holds_row {w : World} {g : Nat} {d : Array Sg} (hg : g < w.heap.size) (h : HoldsK Sg.cells 2 w g 0 d) : SgRow w g d.toList := by
  refine ⟨hg, fun i hi => ?_⟩
  have hi' : i < d.size := by simpa using hi
  have hc : ∀ j, j < 2 → w.cell? ⟨g, i * 2 + j, none⟩ = d[i].cells[j]? := fun j hj => by
    have h1 := (h (i * 2 + j) (by rw [size_flatK]; omega)).1
    rw [get_flatK _ _ _ _ (by omega), Nat.zero_add, show (i * 2 + j) / 2 = i by omega, show (i * 2 + j) % 2 = j by omega] at h1
    have e2 : d[i]! = d[i] := by simp [hi']
    have h4 : j < (d[i]).cells.length := by simp [Sg.cells]; omega
    rw [h1, e2, List.getElem?_eq_getElem h4, List.getElem!_eq_getElem?_getD, List.getElem?_eq_getElem h4]
    rfl
  rw [Array.getElem_toList]
  exact ⟨hc 0 (by omega), hc 1 (by omega)⟩
theorem sort_world {V5 : World} {blk n : Nat} {d d' : Array Sg} {os : Array Obj} (hblk : blk < V5.heap.size) (h0 : HoldsK Sg.cells 2 V5 blk 0 d) (hs : d'.size = d.size) :
    SgRow (sortWorldK Sg.cells 2 V5 blk 0 n d' os) blk d'.toList ∧ (sortWorldK Sg.cells 2 V5 blk 0 n d' os).os = V5.os ∧ (sortWorldK Sg.cells 2 V5 blk 0 n d' os).tape = V5.tape ∧ (sortWorldK Sg.cells 2 V5 blk 0 n d' os).output = V5.output ∧ V5.heap.size ≤ (sortWorldK Sg.cells 2 V5 blk 0 n d' os).heap.size ∧
      ∀ k, k < V5.heap.size → k ≠ blk → (sortWorldK Sg.cells 2 V5 blk 0 n d' os).heap[k]? = V5.heap[k]? := by
  refine ⟨holds_row (lt_sortWorldK Sg.cells 2 V5 blk 0 n d' os hblk) (holdsK_sortWorldK Sg.cells 2 V5 blk 0 n d d' os hblk h0 hs), rfl, rfl, rfl, ?_, fun k hk hne => ?_⟩
  · unfold sortWorldK
    rw [size_grow, size_putRowK]
    show V5.heap.size ≤ V5.heap.size + _
    omega
  · unfold sortWorldK
    rw [heap_grow_old _ _ (by rw [size_putRowK]; exact hk)]
    unfold putRowK putRow mapBlock
    simp only [Sort.ahead]
    rw [Array.getElem?_modify, if_neg (Ne.symm hne)]
/-- A list of signatures in another order, sorted. -/
theorem sorted_sg {sg dd : List Sg} (hp : dd.Perm sg) (hn : (sg.map fun s => bl s.name).Nodup) (hs : ∀ i j, (hi : i < dd.length) → (hj : j < dd.length) → i < j → ¬ bl dd[j].name < bl dd[i].name) : ∀ i j, (hi : i < dd.length) → (hj : j < dd.length) → i < j → bl dd[i].name < bl dd[j].name := by
  intro i j hi hj hij
  have hn2 : (dd.map fun s => bl s.name).Nodup := (hp.map _).nodup_iff.2 hn
  have h1 := List.pairwise_iff_getElem.1 hn2 i j (by simpa using hi) (by simpa using hj) hij
  simp only [List.getElem_map] at h1
  have h2 := List.not_lt.1 (hs i j hi hj hij)
  rcases List.le_iff_lt_or_eq.1 h2 with h3 | h3
  · exact h3
  · exact absurd h3 h1
end Go.Proofs.YtafjjececdhmjaaGreat

namespace Go.Proofs.YtafjjececdhmjaaGreat
open Go.RowKit Go.Maps Go.Sort

section
variable {prs : List (List UInt8 × Nat)} {cs : List Cn} {V4 : World} {m blk r : Nat} {es : Array MapEntry} {clock since c0 : Nat} {dd : List Sg} {s : Gs} {seen : Array Nat} {X : Pl → Prop} {wr : World}
theorem ColS.below (h : ColS prs cs V4 m blk r es clock since c0 dd s seen X wr) {w' : World} (hb : Below wr.heap.size wr w') : ColS prs cs V4 m blk r es clock since c0 dd s seen X w' := by
  have hs := h.bw.size
  have hk : ∀ k X, wr.heap[k]? = some X → w'.heap[k]? = some X := fun k X hX => (hb.block k (Array.getElem?_eq_some_iff.1 hX).1).trans hX
  exact ⟨h.bw.trans (hb.mono (Nat.le_trans h.vz hs)), h.vz, h.gs.off hb.block, h.tn, h.nv, h.ok, h.row.off (hb.block blk h.row.1) hb.size, fun x hx => ⟨(h.co x hx).1, hk _ _ (h.co x hx).2⟩, h.nd, h.nb, h.bk, hk _ _ h.mp, h.en, h.st, hk _ _ h.it, h.hd, h.ty⟩
theorem ColS.start0 {V6 : World} (hG : Gst m (m + 1) m (KnP prs) cs s V4) (ht : s.tn = false) (hb : Below V4.heap.size V4 V6) (hrow : SgRow V6 blk dd) (hco : ∀ x ∈ dd, SgCols V6 V4.heap.size x) (hnd : (dd.map Sg.cp).Nodup) (hnb : ∀ x ∈ dd, x.cp ≠ blk) (hok : SgOk prs dd) (hz : ∀ x ∈ dd, x.cols = List.replicate x.cols.length 0) (hblk : V4.heap.size ≤ blk) :
    ∃ es clock, V6.heap[m]? = some (.map es clock) ∧ ColS prs cs V4 m blk V6.heap.size es clock clock clock dd s #[] (fun _ => False) (V6.alloc (.mapIter (some m) clock #[] clock)) := by
  obtain ⟨es, clock, hm, he, hst⟩ := hG.mb
  have hmz := hG.size
  have hs6 := hb.size
  have hm6 := (hb.block m hmz.2.2).trans hm
  have hold : ∀ k, k < V6.heap.size → (V6.alloc (.mapIter (some m) clock #[] clock)).heap[k]? = V6.heap[k]? := fun k hk => Lib.alloc_old V6 _ k hk
  have hcp : ∀ x ∈ dd, x.cp < V6.heap.size := fun x hx => (Array.getElem?_eq_some_iff.1 (hco x hx).2).1
  refine ⟨es, clock, hm6, (hb.alloc hs6 _).mono (by omega), by omega, hG.off fun k hk => (hold k (by omega)).trans (hb.block k hk), ht, fun k hk => hG.nlt hk, hok, hrow.off (hold blk hrow.1) (by simp), fun x hx => ⟨(hco x hx).1, (hold _ (hcp x hx)).trans (hco x hx).2⟩, hnd, fun x hx => ⟨hnb x hx, by have := hcp x hx; omega⟩, ⟨hblk, hs6, by have := hrow.1; omega, by omega⟩, (hold m (by omega)).trans hm6, he, hst, heap_alloc_new V6 _, ⟨hst.1, Nat.le_refl _⟩, fun x hx i hi => .inr (.inr ⟨?_, fun e _ _ h => by simp at h⟩)⟩
  have h1 := hz x hx
  rw [List.getElem_of_eq h1 hi]
  simp
/-- The entry that comes next has been taken. -/
theorem ColS.next (h : ColS prs cs V4 m blk r es clock since c0 dd s seen (fun _ => False) wr) {e : MapEntry} (he : e ∈ es.toList) {p : Pl} (hk : e.key = plV p) {w1 w2 : World} (h1 : w1 = wr ∨ w1 = wr.drew) (h2 : w2 = ChangeMaps.setBlock w1 r (.mapIter (some m) since (seen.push e.born) clock)) (hsc : since ≤ clock) :
    ColS prs cs V4 m blk r es clock since clock dd s (seen.push e.born) (fun q => p.rule < 0 ∧ q = p) w2 := by
  refine h.stepped h1 h2 hsc fun x hx i hi => ?_
  rcases h.ty x hx i hi with h3 | h3 | ⟨h3, h4⟩
  · exact h3.elim
  · exact .inr (.inl h3)
  · by_cases hp : plV ⟨-1, x.name, i⟩ = plV p
    · have h5 := plV_inj hp
      exact .inl ⟨by rw [← h5]; show (-1 : Int) < 0; omega, h5⟩
    · refine .inr (.inr ⟨h3, fun e' he' hk' hm => ?_⟩)
      rcases Array.mem_push.1 hm with h6 | h6
      · exact h4 e' he' hk' h6
      · obtain rfl := born_inj h.st.2.1 he' he h6
        exact hp (hk'.symm.trans hk)
theorem ColS.excuse {X' : Pl → Prop} (h : ColS prs cs V4 m blk r es clock since c0 dd s seen X wr) (hX : ∀ x ∈ dd, ∀ i : Nat, i < x.cols.length → X ⟨-1, x.name, i⟩ → X' ⟨-1, x.name, i⟩) : ColS prs cs V4 m blk r es clock since c0 dd s seen X' wr :=
  { h with ty := fun x hx i hi => (h.ty x hx i hi).imp (hX x hx i hi) id }
end
/-- What Infer answers where it refuses nothing. -/
def InfGood {d : Nat} (xs : List (Ru d)) (w : World) (e : Ending) (w' : World) : Prop :=
  ∃ (p : Option Addr) (c : Nat) (dd : List Sg), e = .returned (.tuple #[.slice p dd.length c, .int .i64 0, .int .i64 0]) ∧ Below w.heap.size w w' ∧ SgOk (proPr xs) dd ∧ (dd.length = 0 ∨ ∃ blk, p = some ⟨blk, 0, none⟩ ∧ w.heap.size ≤ blk ∧ SgRow w' blk dd) ∧
    ∀ x ∈ dd, SgCols w' w.heap.size x ∧ ∀ i, (h : i < x.cols.length) → TyOf (proCn xs) ⟨-1, x.name, i⟩ x.cols[i]
/-- What is there once the signatures have been sorted. -/
def SortQ (prs : List (List UInt8 × Nat)) (V4 : World) (n : Nat) (p : Option Addr) (w' : World) : Prop :=
  ∃ (dd : List Sg) (blk : Nat), dd.length = n ∧ (n = 0 ∨ p = some ⟨blk, 0, none⟩) ∧ V4.heap.size ≤ blk ∧ Below V4.heap.size V4 w' ∧ SgRow w' blk dd ∧ (∀ x ∈ dd, SgCols w' V4.heap.size x) ∧ (dd.map Sg.cp).Nodup ∧ (∀ x ∈ dd, x.cp ≠ blk) ∧ SgOk prs dd ∧ ∀ x ∈ dd, x.cols = List.replicate x.cols.length 0
theorem tSortOut {V4 : World} {bm r1 nb : Nat} {D : DataW Unit} {prs : List (List UInt8 × Nat)} {sg : List Sg} {left : Lit → Bool} {cnt : Nat} {ps : Option Addr} {c : Nat} {V5 : World} (ho : OutS V4 bm r1 nb D prs sg left cnt (.slice ps sg.length c) V5) (hall : ∀ kl, left kl = false) (hnb : nb ≤ 100000000) :
    Calls Tryz.prog 19 #[.slice ps sg.length c, .func (.func 20) #[] #[]] V5 (fun e w' => e = .returned (.tuple #[]) ∧ SortQ prs V4 sg.length ps w') := by
  have hall2 : ∀ u n, (u, n) ∈ prs → ∃ x ∈ sg, bl x.name = u := fun u n hu => by
    rcases ho.all u n hu with h1 | h1
    · rw [hall] at h1; cases h1
    · exact h1
  by_cases h0 : sg.length = 0
  · obtain rfl : sg = [] := List.eq_nil_of_length_eq_zero h0
    refine (tSortNone ps c V5).mono ?_
    rintro e w' ⟨rfl, rfl⟩
    refine ⟨rfl, [], r1, rfl, .inl rfl, ho.rr, ho.bw, ⟨ho.rg.lt, fun i hi => by simp at hi⟩, fun x hx => by simp at hx, by simp, fun x hx => by simp at hx, ⟨fun i j hi => by simp at hi, fun x hx => by simp at hx, fun u n hu => ?_⟩, fun x hx => by simp at hx⟩
    exact hall2 u n hu
  · obtain ⟨blk, cap, cur, hv, hB, hg, _⟩ := ho.ow.2.resolve_left fun h => h0 h.2
    obtain rfl : ps = some ⟨blk, 0, none⟩ := by injection hv
    have hH := own_holds ho.ow
    have hblk := (Array.getElem?_eq_some_iff.1 hg).1
    have hsz : sg.toArray.size < 1000000000000 := by
      have h1 := ho.le
      show sg.length < _
      omega
    refine (tSortSg blk c sg.toArray V5 hH hblk hsz).mono ?_
    rintro e w' ⟨rfl, d', n, os, hp, hs, rfl⟩
    obtain ⟨hps, _, hperm⟩ := hp
    have hps' : d'.size = sg.length := hps
    have hpp : d'.toList.Perm sg := by
      have h1 : sg.toArray.size = sg.length := rfl
      rw [h1] at hperm
      have e1 : d'.extract 0 sg.length = d' := by rw [← hps']; simp
      have e2 : sg.toArray.extract 0 sg.length = sg.toArray := by rw [← h1]; simp
      rw [e1, e2] at hperm
      exact hperm
    obtain ⟨q1, q2, q3, q4, q5, q6⟩ := sort_world (n := n) (d' := d') (os := os) hblk hH hps
    have hmem : ∀ x, x ∈ d'.toList → x ∈ sg := fun x hx => hpp.mem_iff.1 hx
    have hlt : ∀ x ∈ sg, x.cp < V5.heap.size := fun x hx => (Array.getElem?_eq_some_iff.1 (ho.co x hx).1.2).1
    have hne : ∀ x ∈ sg, x.cp ≠ blk := fun x hx e => (ho.ap x hx).1 (by rw [e]; rfl)
    refine ⟨rfl, d'.toList, blk, by simpa using hps', .inr rfl, hB, ⟨q2.trans ho.bw.os, q3.trans ho.bw.tape, q4.trans ho.bw.output, Nat.le_trans ho.bw.size q5, fun k hk => (q6 k (Nat.lt_of_lt_of_le hk ho.bw.size) (by omega)).trans (ho.bw.block k hk)⟩, q1, fun x hx => ⟨(ho.co x (hmem x hx)).1.1, (q6 _ (hlt x (hmem x hx)) (hne x (hmem x hx))).trans (ho.co x (hmem x hx)).1.2⟩, (hpp.map _).nodup_iff.2 ho.nd, fun x hx => hne x (hmem x hx),
      ⟨sorted_sg hpp ho.nm fun i j hi hj hij hlt => ?_, fun x hx => (ho.in_ x (hmem x hx)).1, fun u n hu => ?_⟩, fun x hx => (ho.co x (hmem x hx)).2⟩
    · have hi' : i < d'.size := by simpa using hi
      have hj' : j < d'.size := by simpa using hj
      have h1 := hs i j (Nat.zero_le _) hij (by show j < sg.length; omega)
      rw [lt_sg, getElem!_pos d' i hi', getElem!_pos d' j hj'] at h1
      simp only [decide_eq_false_iff_not] at h1
      rw [Array.getElem_toList, Array.getElem_toList] at hlt
      exact h1 hlt
    · obtain ⟨x, hx, e⟩ := hall2 u n hu
      exact ⟨x, hpp.mem_iff.2 hx, e⟩
end Go.Proofs.YtafjjececdhmjaaGreat
