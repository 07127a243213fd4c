/- One fact, said as a rule, has a column of numbers: the contract of known08. What an inference says of rules, and how its signatures lie in memory. Conditions: none. -/
import Derived.Test.YtafjjececdhmjaaGreatNY54
import Derived.Test.YtafjjececdhmjaaGreatNY29
import Derived.Test.YtafjjececdhmjaaGreatNKl
import Derived.Test.YtafjjececdhmjaaGreatNY49
namespace Go.Proofs.YtafjjececdhmjaaGreat
open Go.RowKit

/-- The fact: q(1). -/
def ruQ (b : Nat) : Ru 0 := ⟨⟨#[113]⟩, some ⟨b, 0, none⟩, 1, [⟨0, ⟨⟨#[]⟩, ⟨1, 1, ⟨#[]⟩⟩⟩⟩], none, 0, []⟩
theorem q_cn (b : Nat) : proCn [ruQ b] = [Cn.say ⟨-1, ⟨#[113]⟩, 0⟩ 1] := by
  simp [proCn, idxd, ruCnI, ruCn, agCn, tmSr, joinSr, bl, ruQ]
theorem q_pr (b : Nat) : proPr [ruQ b] = [([113], 1)] := by simp [proPr, prOf, rpr, ruQ, bl]
theorem q_has {cs : List Cn} {p0 : Pl} {t : Int} {p : Pl} (h : Has cs t p) (e : cs = [Cn.say p0 1]) : t = 1 ∧ p = p0 := by
  induction h with
  | say h => rw [e] at h; simp at h; exact ⟨h.2, h.1⟩
  | left h _ _ => rw [e] at h; simp at h
  | right h _ _ => rw [e] at h; simp at h
theorem q_good (b : Nat) : Good [ruQ b] := by
  refine ⟨fun x hx => ?_, ?_, ?_⟩
  · rw [List.mem_singleton.1 hx]
    refine ⟨by show ruOk (d := 0) ⟨#[113]⟩ [⟨0, ⟨⟨#[]⟩, ⟨1, 1, ⟨#[]⟩⟩⟩⟩] [] = true; decide +kernel, fun v hv => ?_⟩
    have : varsL (ruTms (ruQ b).hs (ruQ b).bs) = [] := by show varsL (ruTms (d := 0) [⟨0, ⟨⟨#[]⟩, ⟨1, 1, ⟨#[]⟩⟩⟩⟩] []) = []; decide +kernel
    rw [this] at hv
    simp at hv
  · rw [q_pr]
    intro v n k h1 h2
    simp at h1 h2
    omega
  · rw [q_cn]
    rintro (h | ⟨p, h1, h2⟩)
    · simp at h
    · have := (q_has h2 rfl).1
      omega
theorem q_ruR (b : Nat) : RuB (ruQ b) := by
  refine ⟨⟨by show 1 ≤ maxLen; decide, by show 1 ≤ maxLen; decide, by show 0 ≤ maxLen; decide, fun a ha => ?_, fun y hy => by simp [ruQ] at hy⟩⟩
  have e : a = ⟨0, ⟨⟨#[]⟩, ⟨1, 1, ⟨#[]⟩⟩⟩⟩ := by simpa [ruQ] using ha
  subst e
  refine ⟨by decide, ⟨?_, by decide⟩⟩
  constructor <;> decide
/-- What is inferred of it. -/
theorem q_sig {b : Nat} {dd : List Sg} (h : SgOk (proPr [ruQ b]) dd) (ht : ∀ x ∈ dd, ∀ i, (hi : i < x.cols.length) → TyOf (proCn [ruQ b]) ⟨-1, x.name, i⟩ x.cols[i]) : ∃ s : Sg, dd = [s] ∧ s.cols = [1] := by
  have hin : ∀ x ∈ dd, bl x.name = [113] ∧ x.cols.length = 1 := fun x hx => by
    have := h.in_ x hx
    rw [q_pr] at this
    simpa using this
  obtain ⟨s, hs, hn⟩ := h.all [113] 1 (by rw [q_pr]; simp)
  have hone : dd.length = 1 := by
    by_cases h1 : dd.length ≤ 1
    · have : dd.length ≠ 0 := fun h0 => by rw [List.eq_nil_of_length_eq_zero h0] at hs; simp at hs
      omega
    · exfalso
      have h2 := h.so 0 1 (by omega) (by omega) (by omega)
      rw [(hin _ (List.getElem_mem _)).1, (hin _ (List.getElem_mem _)).1] at h2
      exact absurd h2 (List.lt_irrefl _)
  obtain ⟨x, rfl⟩ := List.length_eq_one_iff.1 hone
  refine ⟨x, rfl, ?_⟩
  obtain ⟨h1, h2⟩ := hin x (by simp)
  obtain ⟨t, hc⟩ := List.length_eq_one_iff.1 h2
  have h3 := ht x (by simp) 0 (by omega)
  have h4 : Has (proCn [ruQ b]) 1 ⟨-1, x.name, (0 : Nat)⟩ := by
    have e : x.name = ⟨#[113]⟩ := bl_inj h1
    rw [e, q_cn]
    exact .say (by simp)
  have h5 := h3.2 1 h4
  rw [hc]
  simp only [hc, List.getElem_cons_zero] at h5
  rw [h5]
set_option maxHeartbeats 4000000 in
set_option maxRecDepth 100000 in
theorem tKnown (w : World) : Calls Tryz.prog 9 #[] w fun e w' => e = .returned (.bool true) ∧ Below w.heap.size w w' := by
  obtain ⟨W, hW⟩ : ∃ W, W = ((w.alloc (.cells #[.int .i8 0, .string ⟨#[]⟩, .int .i8 1, .int .i64 1, .string ⟨#[]⟩] 99)).alloc (.cells #[.string ⟨#[113]⟩, .slice (some ⟨w.heap.size, 0, none⟩) 1 1, .slice none 0 0] 41)).alloc (.cells #[.string ⟨#[113]⟩, .slice (some ⟨w.heap.size, 0, none⟩) 1 1, .slice none 0 0] 41) := ⟨_, rfl⟩
  have HBW := Lib.hid (show Below w.heap.size w W by rw [hW]; exact ((below_alloc _ _).trans ((below_alloc _ _).mono (by simp))).trans ((below_alloc _ _).mono (by simp; omega)))
  have HX := Lib.hid (show RusAt W 0 (some ⟨w.heap.size + 1 + 1, 0, none⟩) [ruQ w.heap.size] by
    have hs : W.heap.size = w.heap.size + 1 + 1 + 1 := by rw [hW]; simp
    have h3 : W.heap[w.heap.size + 1 + 1]? = some (.cells #[.string ⟨#[113]⟩, .slice (some ⟨w.heap.size, 0, none⟩) 1 1, .slice none 0 0] 41 (0, 0)) := by rw [hW]; simpa using heap_alloc_new ((w.alloc _).alloc _) _
    have h1 : W.heap[w.heap.size]? = some (.cells #[.int .i8 0, .string ⟨#[]⟩, .int .i8 1, .int .i64 1, .string ⟨#[]⟩] 99 (0, 0)) := by
      rw [hW]
      exact ((below_alloc ((w.alloc _).alloc _) _).block _ (by simp; omega)).trans (((below_alloc (w.alloc _) _).block _ (by simp)).trans (heap_alloc_new w _))
    obtain ⟨c0, c1, c2⟩ := threeC h3
    refine ⟨.inr ⟨w.heap.size + 1 + 1, 0, rfl, by omega, fun i hi => ?_⟩, fun x hx => ?_⟩
    · obtain rfl : i = 0 := by simp at hi; omega
      exact ⟨c0, c1, c2⟩
    · rw [List.mem_singleton.1 hx]
      refine ⟨.inr ⟨w.heap.size, 0, rfl, by omega, fun i hi => ?_⟩, .inl rfl, fun y hy => by simp [ruQ] at hy⟩
      obtain rfl : i = 0 := by simp [ruQ] at hi; omega
      exact ⟨by rw [Lib.cell_of_heap h1]; rfl, by rw [Lib.cell_of_heap h1]; rfl, by rw [Lib.cell_of_heap h1]; rfl, by rw [Lib.cell_of_heap h1]; rfl, by rw [Lib.cell_of_heap h1]; rfl⟩)
  go_enter Tryz.func9, Tryz.ntmps9
  go_wp2_with fail
  rw [← hW]
  clear hW
  refine (tInfer 0 _ 1 [ruQ w.heap.size] W HX.out (fun x hx => by rw [List.mem_singleton.1 hx]; exact q_ruR _) (by show 1 ≤ 1048576; decide)).mono ?_
  rintro e w1 h
  rcases h with ⟨h, _⟩ | ⟨_, p, c, dd, rfl, hb, hok, hrow, hcol⟩
  · exact absurd (q_good _) h
  · have HB := Lib.hid (HBW.out.trans (hb.mono HBW.out.size))
    obtain ⟨s, rfl, hc⟩ := q_sig hok (fun x hx => (hcol x hx).2)
    rcases hrow with h | ⟨blk, rfl, _, hsr⟩
    · cases h
    · have k1 := (hsr.2 0 (by simp)).2
      obtain ⟨_, hcs⟩ := (hcol s (by simp)).1
      simp only [List.getElem_cons_zero, hc] at k1
      rw [hc] at hcs
      have k2 : w1.cell? ⟨s.cp, 0, none⟩ = some (.int .i8 1) := by rw [Lib.cell_of_heap hcs]; rfl
      clear hcs hsr hcol hok hb
      simp only [Nat.zero_mul, Nat.zero_add, List.length_cons, List.length_nil] at k1
      go_wp2_with fail
      go_ret
      exact ⟨rfl, HB.out⟩
end Go.Proofs.YtafjjececdhmjaaGreat

namespace Go.Proofs.YtafjjececdhmjaaGreat
open Go.RowKit

/-- Signatures in memory. -/
def SgMem (w : World) (ps : Option Addr) (dd : List Sg) : Prop := (dd.length = 0 ∨ ∃ blk, ps = some ⟨blk, 0, none⟩ ∧ SgRow w blk dd) ∧ ∀ x ∈ dd, w.heap[x.cp]? = some (.cells (x.cols.map fun c => Value.int .i8 c).toArray 48 (0, 0))
theorem SgMem.up {w w' : World} {ps : Option Addr} {dd : List Sg} (h : SgMem w ps dd) (hb : Below w.heap.size w w') : SgMem w' ps dd :=
  ⟨h.1.imp id fun ⟨blk, hp, hr⟩ => ⟨blk, hp, hr.off (hb.block blk hr.1) hb.size⟩, fun x hx => (hb.block x.cp (Array.getElem?_eq_some_iff.1 (h.2 x hx)).1).trans (h.2 x hx)⟩
/-- What an inference says. -/
def InfD {d : Nat} (xs : List (Ru d)) (c : Int) (dd : List Sg) : Prop := (c ≠ 0 ∧ ¬ Good xs ∧ dd = []) ∨ (c = 0 ∧ Good xs ∧ SgOk (proPr xs) dd ∧ ∀ x ∈ dd, ∀ i, (hi : i < x.cols.length) → TyOf (proCn xs) ⟨-1, x.name, i⟩ x.cols[i])
def InfU {d : Nat} (xs : List (Ru d)) (w : World) (e : Ending) (w' : World) : Prop :=
  ∃ (ps : Option Addr) (cs : Nat) (i c : Int) (dd : List Sg), e = .returned (.tuple #[.slice ps dd.length cs, .int .i64 i, .int .i64 c]) ∧ Below w.heap.size w w' ∧ SgMem w' ps dd ∧ InfD xs c dd
theorem infU_of {d : Nat} {xs : List (Ru d)} {w w' : World} {e : Ending} (h : (¬ Good xs ∧ InfBad w e w') ∨ (Good xs ∧ InfGood xs w e w')) : InfU xs w e w' := by
  rcases h with ⟨hg, i, c, rfl, hc, hb⟩ | ⟨hg, p, c, dd, rfl, hb, hok, hrow, hcol⟩
  · exact ⟨none, 0, i, c, [], rfl, hb, ⟨.inl rfl, fun x hx => by simp at hx⟩, .inl ⟨hc, hg, rfl⟩⟩
  · exact ⟨p, c, 0, 0, dd, rfl, hb, ⟨hrow.imp id fun ⟨blk, h1, _, h2⟩ => ⟨blk, h1, h2⟩, fun x hx => (hcol x hx).1.2⟩, .inr ⟨rfl, hg, hok, fun x hx => (hcol x hx).2⟩⟩
theorem fourC {w : World} {b : Nat} {x0 x1 x2 x3 : Value} {t : TypeId} {fz : Nat × Nat} (h : w.heap[b]? = some (.cells #[x0, x1, x2, x3] t fz)) : w.cell? ⟨b, 0, none⟩ = some x0 ∧ w.cell? ⟨b, 1, none⟩ = some x1 :=
  ⟨by rw [Lib.cell_of_heap h]; rfl, by rw [Lib.cell_of_heap h]; rfl⟩
theorem nodup_len {α : Type} [DecidableEq α] : ∀ (l m : List α), l.Nodup → (∀ x ∈ l, x ∈ m) → l.length ≤ m.length
  | [], _, _, _ => by simp
  | x :: r, m, hn, hs => by
    obtain ⟨h1, h2⟩ := List.nodup_cons.1 hn
    have hx := hs x (by simp)
    have h3 := nodup_len r (m.erase x) h2 fun y hy => (List.mem_erase_of_ne (fun e => h1 (by rw [← e]; exact hy))).2 (hs y (by simp [hy]))
    rw [List.length_erase_of_mem hx] at h3
    have := List.length_pos_of_mem hx
    simp only [List.length_cons]
    omega
theorem proPr_len {d : Nat} : ∀ (xs : List (Ru d)), (∀ x ∈ xs, UseOk x) → (proPr xs).length ≤ 17 * xs.length
  | [], _ => by simp [proPr]
  | x :: r, h => by
    have h1 := proPr_len r fun y hy => h y (by simp [hy])
    have h2 := (ruOk_short (h x (by simp)).1).2.1
    have h3 : ∀ l : List (Lt d), (l.flatMap lpr).length ≤ l.length := by
      intro l
      induction l with
      | nil => simp
      | cons y t ih =>
        rw [List.flatMap_cons, List.length_append, List.length_cons]
        have : (lpr y).length ≤ 1 := by unfold lpr; split <;> simp
        omega
    have h4 := h3 x.bs
    unfold proPr at h1 ⊢
    rw [List.flatMap_cons, List.length_append, List.length_cons]
    have h5 : (prOf x).length = (x.bs.flatMap lpr).length + 1 := by unfold prOf rpr; rw [List.length_cons]
    omega
/-- Signatures that are inferred are not many, and not wide. -/
theorem infD_len {d : Nat} {xs : List (Ru d)} {c : Int} {dd : List Sg} (h : InfD xs c dd) : dd.length ≤ 17 * xs.length ∧ ∀ x ∈ dd, x.cols.length ≤ 24 := by
  rcases h with ⟨_, _, rfl⟩ | ⟨_, hg, hok, _⟩
  · exact ⟨by simp, fun x hx => by simp at hx⟩
  · refine ⟨?_, fun x hx => ?_⟩
    · have h1 : (dd.map fun s => bl s.name).Nodup := by
        rw [List.Nodup, List.pairwise_iff_getElem]
        intro i j hi hj hij e
        have h2 := hok.so i j (by simpa using hi) (by simpa using hj) hij
        simp only [List.getElem_map] at e
        rw [e] at h2
        exact absurd h2 (List.lt_irrefl _)
      have h3 := nodup_len _ ((proPr xs).map Prod.fst) h1 fun v hv => by
        obtain ⟨s, hs, rfl⟩ := List.mem_map.1 hv
        exact List.mem_map.2 ⟨_, hok.in_ s hs, rfl⟩
      rw [List.length_map, List.length_map] at h3
      exact Nat.le_trans h3 (proPr_len xs hg.1)
    · have h1 := hok.in_ x hx
      obtain ⟨r, hr, h2⟩ := List.mem_flatMap.1 h1
      have h3 := ruOk_short (hg.1 r hr).1
      unfold prOf rpr at h2
      rcases List.mem_cons.1 h2 with h4 | h4
      · have := congrArg Prod.snd h4
        simp only at this
        omega
      · obtain ⟨y, hy, h5⟩ := List.mem_flatMap.1 h4
        unfold lpr at h5
        split at h5
        · simp at h5
        · have := congrArg Prod.snd (List.mem_singleton.1 h5)
          simp only at this
          have := h3.2.2 y hy
          omega
theorem sg_at {w : World} {ps : Option Addr} {dd : List Sg} (h : SgMem w ps dd) {a : Nat} (ha : a < dd.length) : ∃ blk, ps = some ⟨blk, 0, none⟩ ∧ ∀ w', Below w.heap.size w w' →
    w'.cell? ⟨blk, a * 2, none⟩ = some (.string dd[a].name) ∧ w'.cell? ⟨blk, a * 2 + 1, none⟩ = some (.slice (some ⟨dd[a].cp, 0, none⟩) dd[a].cols.length dd[a].cols.length) ∧ ∀ k, (hk : k < dd[a].cols.length) → w'.cell? ⟨dd[a].cp, k, none⟩ = some (.int .i8 dd[a].cols[k]) := by
  rcases h.1 with h0 | ⟨blk, hp, hr⟩
  · omega
  · refine ⟨blk, hp, fun w' hb => ?_⟩
    have h1 := h.up hb
    rcases h1.1 with h0 | ⟨b2, hp2, hr2⟩
    · omega
    · rw [hp] at hp2
      obtain rfl : blk = b2 := by simpa using hp2
      refine ⟨(hr2.2 a ha).1, (hr2.2 a ha).2, fun k hk => ?_⟩
      rw [Lib.cell_of_heap (h1.2 _ (List.getElem_mem ha))]
      simp [hk]
theorem addr_add (a o j : Nat) : (⟨a, o, none⟩ : Addr).add j = ⟨a, o + j, none⟩ := by unfold Addr.add; split <;> simp_all
theorem infoPr : (Tryz.prog.info? 95).map (fun i => (i.zero, i.size, i.bytes)) = some (some (.agg #[.string ⟨#[]⟩, .string ⟨#[]⟩, .int .i8 0, .int .i64 0, .string ⟨#[]⟩]), 5, 64) := by kernel_rfl
end Go.Proofs.YtafjjececdhmjaaGreat
