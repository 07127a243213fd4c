/- One fact, said as a rule, has a column of numbers: the contract of known08. What is inferred of rules and of the same rules shuffled and renamed; rules that are renamed one by one in a row. The walk of TopUnlike: what is inferred of the rules and of the same rules shuffled and renamed is the same. Conditions: none. what is handed in lies in memory as it is told. -/
import Derived.Test.YtafjjececdhmjaaGreatMY54
import Derived.Test.YtafjjececdhmjaaGreatMY29
import Derived.Test.YtafjjececdhmjaaGreatMKl
import Derived.Test.YtafjjececdhmjaaGreatMY49
import Derived.Test.YtafjjececdhmjaaGreatMKq
import Derived.BigQuiet
import Derived.BigRegion
import Derived.RegionTactic
namespace Go.Proofs.YtafjjececdhmjaaGreat
open Go.RowKit

/-- The fact: q(1). -/
def ruQ (b : Nat) : Ru 0 := ⟨⟨#[113]⟩, some ⟨b, 0, none⟩, 1, [⟨0, ⟨⟨#[]⟩, ⟨1, 1, ⟨#[]⟩⟩⟩⟩], none, 0, []⟩
theorem q_cn (b : Nat) : proCn [ruQ b] = [Cn.say ⟨-1, ⟨#[113]⟩, 0⟩ 1] := by
  simp [proCn, idxd, ruCnI, ruCn, agCn, tmSr, joinSr, bl, ruQ]
theorem q_pr (b : Nat) : proPr [ruQ b] = [([113], 1)] := by simp [proPr, prOf, rpr, ruQ, bl]
theorem q_has {cs : List Cn} {p0 : Pl} {t : Int} {p : Pl} (h : Has cs t p) (e : cs = [Cn.say p0 1]) : t = 1 ∧ p = p0 := by
  induction h with
  | say h => rw [e] at h; simp at h; exact ⟨h.2, h.1⟩
  | left h _ _ => rw [e] at h; simp at h
  | right h _ _ => rw [e] at h; simp at h
theorem q_good (b : Nat) : Good [ruQ b] := by
  refine ⟨fun x hx => ?_, ?_, ?_⟩
  · rw [List.mem_singleton.1 hx]
    refine ⟨by show ruOk (d := 0) ⟨#[113]⟩ [⟨0, ⟨⟨#[]⟩, ⟨1, 1, ⟨#[]⟩⟩⟩⟩] [] = true; decide +kernel, fun v hv => ?_⟩
    have : varsL (ruTms (ruQ b).hs (ruQ b).bs) = [] := by show varsL (ruTms (d := 0) [⟨0, ⟨⟨#[]⟩, ⟨1, 1, ⟨#[]⟩⟩⟩⟩] []) = []; decide +kernel
    rw [this] at hv
    simp at hv
  · rw [q_pr]
    intro v n k h1 h2
    simp at h1 h2
    omega
  · rw [q_cn]
    rintro (h | ⟨p, h1, h2⟩)
    · simp at h
    · have := (q_has h2 rfl).1
      omega
theorem q_ruR (b : Nat) : RuB (ruQ b) := by
  refine ⟨⟨by show 1 ≤ maxLen; decide, by show 1 ≤ maxLen; decide, by show 0 ≤ maxLen; decide, fun a ha => ?_, fun y hy => by simp [ruQ] at hy⟩⟩
  have e : a = ⟨0, ⟨⟨#[]⟩, ⟨1, 1, ⟨#[]⟩⟩⟩⟩ := by simpa [ruQ] using ha
  subst e
  refine ⟨by decide, ⟨?_, by decide⟩⟩
  constructor <;> decide
/-- What is inferred of it. -/
theorem q_sig {b : Nat} {dd : List Sg} (h : SgOk (proPr [ruQ b]) dd) (ht : ∀ x ∈ dd, ∀ i, (hi : i < x.cols.length) → TyOf (proCn [ruQ b]) ⟨-1, x.name, i⟩ x.cols[i]) : ∃ s : Sg, dd = [s] ∧ s.cols = [1] := by
  have hin : ∀ x ∈ dd, bl x.name = [113] ∧ x.cols.length = 1 := fun x hx => by
    have := h.in_ x hx
    rw [q_pr] at this
    simpa using this
  obtain ⟨s, hs, hn⟩ := h.all [113] 1 (by rw [q_pr]; simp)
  have hone : dd.length = 1 := by
    by_cases h1 : dd.length ≤ 1
    · have : dd.length ≠ 0 := fun h0 => by rw [List.eq_nil_of_length_eq_zero h0] at hs; simp at hs
      omega
    · exfalso
      have h2 := h.so 0 1 (by omega) (by omega) (by omega)
      rw [(hin _ (List.getElem_mem _)).1, (hin _ (List.getElem_mem _)).1] at h2
      exact absurd h2 (List.lt_irrefl _)
  obtain ⟨x, rfl⟩ := List.length_eq_one_iff.1 hone
  refine ⟨x, rfl, ?_⟩
  obtain ⟨h1, h2⟩ := hin x (by simp)
  obtain ⟨t, hc⟩ := List.length_eq_one_iff.1 h2
  have h3 := ht x (by simp) 0 (by omega)
  have h4 : Has (proCn [ruQ b]) 1 ⟨-1, x.name, (0 : Nat)⟩ := by
    have e : x.name = ⟨#[113]⟩ := bl_inj h1
    rw [e, q_cn]
    exact .say (by simp)
  have h5 := h3.2 1 h4
  rw [hc]
  simp only [hc, List.getElem_cons_zero] at h5
  rw [h5]
set_option maxHeartbeats 4000000 in
set_option maxRecDepth 100000 in
theorem tKnown (w : World) : Calls Tryz.prog 9 #[] w fun e w' => e = .returned (.bool true) ∧ Below w.heap.size w w' := by
  obtain ⟨W, hW⟩ : ∃ W, W = ((w.alloc (.cells #[.int .i8 0, .string ⟨#[]⟩, .int .i8 1, .int .i64 1, .string ⟨#[]⟩] 99)).alloc (.cells #[.string ⟨#[113]⟩, .slice (some ⟨w.heap.size, 0, none⟩) 1 1, .slice none 0 0] 41)).alloc (.cells #[.string ⟨#[113]⟩, .slice (some ⟨w.heap.size, 0, none⟩) 1 1, .slice none 0 0] 41) := ⟨_, rfl⟩
  have HBW := Lib.hid (show Below w.heap.size w W by rw [hW]; exact ((below_alloc _ _).trans ((below_alloc _ _).mono (by simp))).trans ((below_alloc _ _).mono (by simp; omega)))
  have HX := Lib.hid (show RusAt W 0 (some ⟨w.heap.size + 1 + 1, 0, none⟩) [ruQ w.heap.size] by
    have hs : W.heap.size = w.heap.size + 1 + 1 + 1 := by rw [hW]; simp
    have h3 : W.heap[w.heap.size + 1 + 1]? = some (.cells #[.string ⟨#[113]⟩, .slice (some ⟨w.heap.size, 0, none⟩) 1 1, .slice none 0 0] 41 (0, 0)) := by rw [hW]; simpa using heap_alloc_new ((w.alloc _).alloc _) _
    have h1 : W.heap[w.heap.size]? = some (.cells #[.int .i8 0, .string ⟨#[]⟩, .int .i8 1, .int .i64 1, .string ⟨#[]⟩] 99 (0, 0)) := by
      rw [hW]
      exact ((below_alloc ((w.alloc _).alloc _) _).block _ (by simp; omega)).trans (((below_alloc (w.alloc _) _).block _ (by simp)).trans (heap_alloc_new w _))
    obtain ⟨c0, c1, c2⟩ := threeC h3
    refine ⟨.inr ⟨w.heap.size + 1 + 1, 0, rfl, by omega, fun i hi => ?_⟩, fun x hx => ?_⟩
    · obtain rfl : i = 0 := by simp at hi; omega
      exact ⟨c0, c1, c2⟩
    · rw [List.mem_singleton.1 hx]
      refine ⟨.inr ⟨w.heap.size, 0, rfl, by omega, fun i hi => ?_⟩, .inl rfl, fun y hy => by simp [ruQ] at hy⟩
      obtain rfl : i = 0 := by simp [ruQ] at hi; omega
      exact ⟨by rw [Lib.cell_of_heap h1]; rfl, by rw [Lib.cell_of_heap h1]; rfl, by rw [Lib.cell_of_heap h1]; rfl, by rw [Lib.cell_of_heap h1]; rfl, by rw [Lib.cell_of_heap h1]; rfl⟩)
  go_enter Tryz.func9, Tryz.ntmps9
  go_wp2_with fail
  rw [← hW]
  clear hW
  refine (tInfer 0 _ 1 [ruQ w.heap.size] W HX.out (fun x hx => by rw [List.mem_singleton.1 hx]; exact q_ruR _) (by show 1 ≤ 1048576; decide)).mono ?_
  rintro e w1 h
  rcases h with ⟨h, _⟩ | ⟨_, p, c, dd, rfl, hb, hok, hrow, hcol⟩
  · exact absurd (q_good _) h
  · have HB := Lib.hid (HBW.out.trans (hb.mono HBW.out.size))
    obtain ⟨s, rfl, hc⟩ := q_sig hok (fun x hx => (hcol x hx).2)
    rcases hrow with h | ⟨blk, rfl, _, hsr⟩
    · cases h
    · have k1 := (hsr.2 0 (by simp)).2
      obtain ⟨_, hcs⟩ := (hcol s (by simp)).1
      simp only [List.getElem_cons_zero, hc] at k1
      rw [hc] at hcs
      have k2 : w1.cell? ⟨s.cp, 0, none⟩ = some (.int .i8 1) := by rw [Lib.cell_of_heap hcs]; rfl
      clear hcs hsr hcol hok hb
      simp only [Nat.zero_mul, Nat.zero_add, List.length_cons, List.length_nil] at k1
      go_wp2_with fail
      go_ret
      exact ⟨rfl, HB.out⟩
end Go.Proofs.YtafjjececdhmjaaGreat

namespace Go.Proofs.YtafjjececdhmjaaGreat
open Go.RowKit

/-- Signatures in memory. -/
def SgMem (w : World) (ps : Option Addr) (dd : List Sg) : Prop := (dd.length = 0 ∨ ∃ blk, ps = some ⟨blk, 0, none⟩ ∧ SgRow w blk dd) ∧ ∀ x ∈ dd, w.heap[x.cp]? = some (.cells (x.cols.map fun c => Value.int .i8 c).toArray 48 (0, 0))
theorem SgMem.up {w w' : World} {ps : Option Addr} {dd : List Sg} (h : SgMem w ps dd) (hb : Below w.heap.size w w') : SgMem w' ps dd :=
  ⟨h.1.imp id fun ⟨blk, hp, hr⟩ => ⟨blk, hp, hr.off (hb.block blk hr.1) hb.size⟩, fun x hx => (hb.block x.cp (Array.getElem?_eq_some_iff.1 (h.2 x hx)).1).trans (h.2 x hx)⟩
/-- What an inference says. -/
def InfD {d : Nat} (xs : List (Ru d)) (c : Int) (dd : List Sg) : Prop := (c ≠ 0 ∧ ¬ Good xs ∧ dd = []) ∨ (c = 0 ∧ Good xs ∧ SgOk (proPr xs) dd ∧ ∀ x ∈ dd, ∀ i, (hi : i < x.cols.length) → TyOf (proCn xs) ⟨-1, x.name, i⟩ x.cols[i])
def InfU {d : Nat} (xs : List (Ru d)) (w : World) (e : Ending) (w' : World) : Prop :=
  ∃ (ps : Option Addr) (cs : Nat) (i c : Int) (dd : List Sg), e = .returned (.tuple #[.slice ps dd.length cs, .int .i64 i, .int .i64 c]) ∧ Below w.heap.size w w' ∧ SgMem w' ps dd ∧ InfD xs c dd
theorem infU_of {d : Nat} {xs : List (Ru d)} {w w' : World} {e : Ending} (h : (¬ Good xs ∧ InfBad w e w') ∨ (Good xs ∧ InfGood xs w e w')) : InfU xs w e w' := by
  rcases h with ⟨hg, i, c, rfl, hc, hb⟩ | ⟨hg, p, c, dd, rfl, hb, hok, hrow, hcol⟩
  · exact ⟨none, 0, i, c, [], rfl, hb, ⟨.inl rfl, fun x hx => by simp at hx⟩, .inl ⟨hc, hg, rfl⟩⟩
  · exact ⟨p, c, 0, 0, dd, rfl, hb, ⟨hrow.imp id fun ⟨blk, h1, _, h2⟩ => ⟨blk, h1, h2⟩, fun x hx => (hcol x hx).1.2⟩, .inr ⟨rfl, hg, hok, fun x hx => (hcol x hx).2⟩⟩
theorem infD_same {d : Nat} {xs ys : List (Ru d)} {c k : Int} {dd ee : List Sg} (h : InfD xs c dd) (g : InfD ys k ee) (hg : Good xs ↔ Good ys) (hp : ∀ v, v ∈ proPr xs ↔ v ∈ proPr ys) (hh : ∀ (n : ByteArray) (i : Nat) (t : Int), Has (proCn xs) t ⟨-1, n, i⟩ ↔ Has (proCn ys) t ⟨-1, n, i⟩) :
    (c = 0 ↔ k = 0) ∧ dd.length = ee.length ∧ ∀ i, (hi : i < dd.length) → (hj : i < ee.length) → dd[i].name = ee[i].name ∧ dd[i].cols = ee[i].cols := by
  rcases h with ⟨h1, h2, rfl⟩ | ⟨h1, h2, h3, h4⟩
  · rcases g with ⟨g1, g2, rfl⟩ | ⟨g1, g2, _⟩
    · exact ⟨⟨fun e => absurd e h1, fun e => absurd e g1⟩, rfl, fun i hi => absurd hi (by simp)⟩
    · exact absurd (hg.2 g2) h2
  · rcases g with ⟨g1, g2, _⟩ | ⟨g1, g2, g3, g4⟩
    · exact absurd (hg.1 h2) g2
    · exact ⟨⟨fun _ => g1, fun _ => h1⟩, sg_same h3 g3 hp h2.2.1 hh h4 g4⟩
/-! The rules of a row, renamed one by one. -/
/-- Where the rules' own lists lie that have been renamed: behind the row. -/
def Beh (v : Value) (a : Nat) : Prop := ∀ g, v.ownBlock = some g → g < a
structure CaR {d : Nat} (o : List (Ru d)) (W0 : World) (v : Value) (j : Nat) (ys : List (Ru d)) (wr : World) : Prop where
  len : ys.length = o.length
  row : wr.ownsRow W0.heap.size 41 3 v o.length (ruVs ys)
  old : ∀ i, j ≤ i → (h : i < ys.length) → (h' : i < o.length) → ys[i] = o[i]
  new : ∀ i, i < j → (h : i < ys.length) → (h' : i < o.length) → ∃ ρ, RnOf ρ o[i] ys[i] ∧ RuR ys[i].p ys[i].hs ys[i].bs ∧ (RuAt W0 ys[i] ∨ (RuAt wr ys[i] ∧ RuIn (Beh v) ys[i]))
  u_ : Below W0.heap.size W0 wr
theorem CaR.start {d : Nat} {o : List (Ru d)} {W0 : World} {v : Value} {w : World} (h : w.ownsRow W0.heap.size 41 3 v o.length (ruVs o)) (hb : Below W0.heap.size W0 w) : CaR o W0 v 0 o w :=
  ⟨rfl, h, fun _ _ _ _ => rfl, fun i hi => absurd hi (by omega), hb⟩
theorem CaR.skip {d : Nat} {o ys : List (Ru d)} {W0 : World} {v : Value} {j : Nat} {wr w2 : World} (h : CaR o W0 v j ys wr) (hb : Below wr.heap.size wr w2) (ha : ∀ x ∈ o, RuAt W0 x) (hr : ∀ x ∈ o, RuR x.p x.hs x.bs) : CaR o W0 v (j + 1) ys w2 := by
  refine ⟨h.len, ownR_up h.row hb, fun i hi h1 h2 => h.old i (by omega) h1 h2, fun i hi h1 h2 => ?_, h.u_.trans (hb.mono h.u_.size)⟩
  by_cases e : i < j
  · obtain ⟨ρ, h3, h4, h5⟩ := h.new i e h1 h2
    exact ⟨ρ, h3, h4, h5.imp id fun h6 => ⟨h6.1.up hb, h6.2⟩⟩
  · have e2 := h.old i (by omega) h1 h2
    rw [e2]
    exact ⟨_, RnOf.same _, hr _ (List.getElem_mem h2), .inl (ha _ (List.getElem_mem h2))⟩
theorem ruVs_set {d : Nat} (y : Ru d) : ∀ (ys : List (Ru d)) (j : Nat), j < ys.length → ruVs (ys.set j y) = (((ruVs ys).set (j * 3) (.string y.p)).set (j * 3 + 1) (.slice y.hp y.hs.length y.hc)).set (j * 3 + 2) (.slice y.bp y.bs.length y.bc)
  | x :: r, 0, _ => rfl
  | x :: r, j + 1, h => by
    have h0 : (j + 1) * 3 = j * 3 + 3 := by omega
    have h1 := ruVs_set y r j (by simpa using h)
    show x.cells ++ ruVs (r.set j y) = ((((x.cells ++ ruVs r).set ((j + 1) * 3) _).set ((j + 1) * 3 + 1) _).set ((j + 1) * 3 + 2) _)
    rw [h1, List.set_append_right _ _ (by rw [ru_len]; omega), List.set_append_right _ _ (by rw [ru_len]; omega), List.set_append_right _ _ (by rw [ru_len]; omega)]
    rw [ru_len, show (j + 1) * 3 - 3 = j * 3 by omega, show (j + 1) * 3 + 1 - 3 = j * 3 + 1 by omega, show (j + 1) * 3 + 2 - 3 = j * 3 + 2 by omega]
theorem own_put3 {w : World} {B g n c : Nat} {e : TypeId} {xs : List Value} (h : w.ownsRow B e 3 (.slice (some ⟨g, 0, none⟩) n c) n xs) (k : Nat) (a b z : Value) :
    (putL w g (k * 3) [a, b, z]).ownsRow B e 3 (.slice (some ⟨g, 0, none⟩) n c) n (((xs.set (k * 3) a).set (k * 3 + 1) b).set (k * 3 + 2) z) := by
  refine ⟨by simp [h.1], ?_⟩
  rcases h.2 with ⟨hv, _⟩ | ⟨g', cap, cur, hv, hB, hg, h1, h2, h3, h4⟩
  · cases hv
  · simp only [Value.slice.injEq, Option.some.injEq, Addr.mk.injEq, and_true, true_and] at hv
    obtain ⟨rfl, rfl⟩ := hv
    refine .inr ⟨g, c, ((cur.setIfInBounds (k * 3) a).setIfInBounds (k * 3 + 1) b).setIfInBounds (k * 3 + 2) z, rfl, hB, ?_, h1, h2, by simp [h3], ?_⟩
    · simp [putL, World.setCell, Array.getElem?_modify, hg]
    · rw [← h4]
      simp only [Array.toList_setIfInBounds, List.take_set]
theorem CaR.put {d : Nat} {o ys : List (Ru d)} {W0 : World} {g c j : Nat} {wr w3 : World} {y : Ru d} {ρ : ByteArray → ByteArray} (h : CaR o W0 (.slice (some ⟨g, 0, none⟩) o.length c) j ys wr) (hb : Below wr.heap.size wr w3) (hj : j < o.length) (hj2 : j < ys.length)
    (hy : RnOf ρ ys[j] y) (hyr : RuR y.p y.hs y.bs) (hya : RuAt w3 y) (hyi : RuIn (fun a => wr.heap.size ≤ a) y) :
    CaR o W0 (.slice (some ⟨g, 0, none⟩) o.length c) (j + 1) (ys.set j y) (putL w3 g (j * 3) [.string y.p, .slice y.hp y.hs.length y.hc, .slice y.bp y.bs.length y.bc]) := by
  have hg := ownR_lt h.row (g := g) rfl
  have hk : KpW (Beh (.slice (some ⟨g, 0, none⟩) o.length c)) w3 (putL w3 g (j * 3) [.string y.p, .slice y.hp y.hs.length y.hc, .slice y.bp y.bs.length y.bc]) :=
    ⟨Nat.le_of_eq (putL_size _ _ _).symm, fun a h1 _ => putL_block (by have := h1 g rfl; omega) _ _ _⟩
  refine ⟨by rw [List.length_set]; exact h.len, ?_, fun i hi h1 h2 => ?_, fun i hi h1 h2 => ?_, ?_⟩
  · rw [ruVs_set y ys j hj2]
    exact own_put3 (ownR_up h.row hb) j _ _ _
  · rw [List.getElem_set_ne (by omega)]
    exact h.old i (by omega) (by rwa [List.length_set] at h1) h2
  · by_cases e : i = j
    · subst e
      rw [List.getElem_set_self]
      have e2 := h.old i (Nat.le_refl _) hj2 h2
      rw [e2] at hy
      refine ⟨ρ, hy, hyr, .inr ⟨hya.keep hk (hyi.mono fun a h5 g' hg' => ?_), hyi.mono fun a h5 g' hg' => ?_⟩⟩
      · have : g = g' := by simpa [Value.ownBlock] using hg'
        omega
      · have : g = g' := by simpa [Value.ownBlock] using hg'
        omega
    · rw [List.getElem_set_ne (fun e2 => e e2.symm)]
      obtain ⟨r, h3, h4, h5⟩ := h.new i (by omega) (by rwa [List.length_set] at h1) h2
      exact ⟨r, h3, h4, h5.imp id fun h6 => ⟨(h6.1.up hb).keep hk h6.2, h6.2⟩⟩
  · exact putL_below (by omega) _ _ _ (h.u_.trans (hb.mono h.u_.size))
theorem rus_row {d : Nat} {w : World} {B c : Nat} {p : Option Addr} {l : List (Ru d)} (h : w.ownsRow B 41 3 (.slice p l.length c) l.length (ruVs l)) (ha : ∀ x ∈ l, RuAt w x) : RusAt w d p l := by
  refine ⟨?_, ha⟩
  rcases row_cells Ru.cells ru_len h with h0 | ⟨g, hp, _, hg, hc⟩
  · exact .inl h0
  · refine .inr ⟨g, 0, hp, hg, fun i hi => ?_⟩
    rw [Nat.zero_add]
    exact ⟨hc i hi 0 (by omega), hc i hi 1 (by omega), hc i hi 2 (by omega)⟩
theorem CaR.done {d : Nat} {o ys xs : List (Ru d)} {W0 : World} {p : Option Addr} {c : Nat} {wr : World} (h : CaR o W0 (.slice p o.length c) o.length ys wr) (hp : o.Perm xs) :
    RusAt wr d p ys ∧ (∀ x ∈ ys, RuB x) ∧ ys.length = xs.length ∧ (Good xs ↔ Good ys) ∧ (∀ v, v ∈ proPr xs ↔ v ∈ proPr ys) ∧ ∀ (n : ByteArray) (i : Nat) (t : Int), Has (proCn xs) t ⟨-1, n, i⟩ ↔ Has (proCn ys) t ⟨-1, n, i⟩ := by
  have hl := h.len
  have hnew := fun i (h1 : i < ys.length) => h.new i (by omega) h1 (by omega)
  have hrow := h.row
  rw [← hl] at hrow
  refine ⟨rus_row hrow fun x hx => ?_, fun x hx => ?_, by rw [hl, hp.length_eq], ?_⟩
  · obtain ⟨i, hi, rfl⟩ := List.getElem_of_mem hx
    obtain ⟨_, _, _, h5⟩ := hnew i hi
    rcases h5 with h5 | h5
    · exact h5.up h.u_
    · exact h5.1
  · obtain ⟨i, hi, rfl⟩ := List.getElem_of_mem hx
    obtain ⟨_, _, h4, _⟩ := hnew i hi
    exact ⟨h4⟩
  · have hch : ∀ k : Int, ∃ r : ByteArray → ByteArray, ∀ i : Nat, (i : Int) = k → (h1 : i < ys.length) → RnOf r (o[i]'(by omega)) ys[i] := fun k => by
      by_cases hk : k.toNat < ys.length
      · obtain ⟨r, h3, _⟩ := hnew k.toNat hk
        refine ⟨r, fun i e h1 => ?_⟩
        obtain rfl : i = k.toNat := by omega
        exact h3
      · exact ⟨fun v => v, fun i e h1 => absurd h1 (by omega)⟩
    exact alike_prog (ρ := fun k => Classical.choose (hch k)) hp hl fun j hz hy => Classical.choose_spec (hch j) j rfl hy
end Go.Proofs.YtafjjececdhmjaaGreat

namespace Go.Proofs.YtafjjececdhmjaaGreat
open Go.RowKit

theorem fourC {w : World} {b : Nat} {x0 x1 x2 x3 : Value} {t : TypeId} {fz : Nat × Nat} (h : w.heap[b]? = some (.cells #[x0, x1, x2, x3] t fz)) : w.cell? ⟨b, 0, none⟩ = some x0 ∧ w.cell? ⟨b, 1, none⟩ = some x1 :=
  ⟨by rw [Lib.cell_of_heap h]; rfl, by rw [Lib.cell_of_heap h]; rfl⟩
theorem nodup_len {α : Type} [DecidableEq α] : ∀ (l m : List α), l.Nodup → (∀ x ∈ l, x ∈ m) → l.length ≤ m.length
  | [], _, _, _ => by simp
  | x :: r, m, hn, hs => by
    obtain ⟨h1, h2⟩ := List.nodup_cons.1 hn
    have hx := hs x (by simp)
    have h3 := nodup_len r (m.erase x) h2 fun y hy => (List.mem_erase_of_ne (fun e => h1 (by rw [← e]; exact hy))).2 (hs y (by simp [hy]))
    rw [List.length_erase_of_mem hx] at h3
    have := List.length_pos_of_mem hx
    simp only [List.length_cons]
    omega
theorem proPr_len {d : Nat} : ∀ (xs : List (Ru d)), (∀ x ∈ xs, UseOk x) → (proPr xs).length ≤ 17 * xs.length
  | [], _ => by simp [proPr]
  | x :: r, h => by
    have h1 := proPr_len r fun y hy => h y (by simp [hy])
    have h2 := (ruOk_short (h x (by simp)).1).2.1
    have h3 : ∀ l : List (Lt d), (l.flatMap lpr).length ≤ l.length := by
      intro l
      induction l with
      | nil => simp
      | cons y t ih =>
        rw [List.flatMap_cons, List.length_append, List.length_cons]
        have : (lpr y).length ≤ 1 := by unfold lpr; split <;> simp
        omega
    have h4 := h3 x.bs
    unfold proPr at h1 ⊢
    rw [List.flatMap_cons, List.length_append, List.length_cons]
    have h5 : (prOf x).length = (x.bs.flatMap lpr).length + 1 := by unfold prOf rpr; rw [List.length_cons]
    omega
/-- Signatures that are inferred are not many, and not wide. -/
theorem infD_len {d : Nat} {xs : List (Ru d)} {c : Int} {dd : List Sg} (h : InfD xs c dd) : dd.length ≤ 17 * xs.length ∧ ∀ x ∈ dd, x.cols.length ≤ 24 := by
  rcases h with ⟨_, _, rfl⟩ | ⟨_, hg, hok, _⟩
  · exact ⟨by simp, fun x hx => by simp at hx⟩
  · refine ⟨?_, fun x hx => ?_⟩
    · have h1 : (dd.map fun s => bl s.name).Nodup := by
        rw [List.Nodup, List.pairwise_iff_getElem]
        intro i j hi hj hij e
        have h2 := hok.so i j (by simpa using hi) (by simpa using hj) hij
        simp only [List.getElem_map] at e
        rw [e] at h2
        exact absurd h2 (List.lt_irrefl _)
      have h3 := nodup_len _ ((proPr xs).map Prod.fst) h1 fun v hv => by
        obtain ⟨s, hs, rfl⟩ := List.mem_map.1 hv
        exact List.mem_map.2 ⟨_, hok.in_ s hs, rfl⟩
      rw [List.length_map, List.length_map] at h3
      exact Nat.le_trans h3 (proPr_len xs hg.1)
    · have h1 := hok.in_ x hx
      obtain ⟨r, hr, h2⟩ := List.mem_flatMap.1 h1
      have h3 := ruOk_short (hg.1 r hr).1
      unfold prOf rpr at h2
      rcases List.mem_cons.1 h2 with h4 | h4
      · have := congrArg Prod.snd h4
        simp only at this
        omega
      · obtain ⟨y, hy, h5⟩ := List.mem_flatMap.1 h4
        unfold lpr at h5
        split at h5
        · simp at h5
        · have := congrArg Prod.snd (List.mem_singleton.1 h5)
          simp only at this
          have := h3.2.2 y hy
          omega
theorem sg_at {w : World} {ps : Option Addr} {dd : List Sg} (h : SgMem w ps dd) {a : Nat} (ha : a < dd.length) : ∃ blk, ps = some ⟨blk, 0, none⟩ ∧ ∀ w', Below w.heap.size w w' →
    w'.cell? ⟨blk, a * 2, none⟩ = some (.string dd[a].name) ∧ w'.cell? ⟨blk, a * 2 + 1, none⟩ = some (.slice (some ⟨dd[a].cp, 0, none⟩) dd[a].cols.length dd[a].cols.length) ∧ ∀ k, (hk : k < dd[a].cols.length) → w'.cell? ⟨dd[a].cp, k, none⟩ = some (.int .i8 dd[a].cols[k]) := by
  rcases h.1 with h0 | ⟨blk, hp, hr⟩
  · omega
  · refine ⟨blk, hp, fun w' hb => ?_⟩
    have h1 := h.up hb
    rcases h1.1 with h0 | ⟨b2, hp2, hr2⟩
    · omega
    · rw [hp] at hp2
      obtain rfl : blk = b2 := by simpa using hp2
      refine ⟨(hr2.2 a ha).1, (hr2.2 a ha).2, fun k hk => ?_⟩
      rw [Lib.cell_of_heap (h1.2 _ (List.getElem_mem ha))]
      simp [hk]
set_option maxRecDepth 100000 in
set_option maxHeartbeats 16000000 in
theorem topUnlike (d : Nat) (xs : List (Ru d)) (p : Option Addr) (cap : Nat) (fs : List Fc) (q : Option Addr) (cap2 : Nat) (s0 : ByteArray) (s1 : Value) (p2 : Option Addr) (on oc : Nat) (w : World) (hx : RusAt w d p xs) (hr : ∀ x ∈ xs, RuX x) (hf : FcsAt w q fs) (hfr : ∀ f ∈ fs, FcR f)
    (hn : fs.length ≤ 4398046511104) (ho : IntsAt w p2 on) :
    Calls Tryz.prog 3 #[.agg #[.slice p xs.length cap, .slice q fs.length cap2, .string s0, s1], .slice p2 on oc] w fun e w' => e = .returned (.bool true) ∧ Below w.heap.size w w' := by
  obtain ⟨V, hV⟩ : ∃ V, V = w.alloc (.cells #[.slice p xs.length cap, .slice q fs.length cap2, .string s0, s1] 28) := ⟨_, rfl⟩
  have HBV := Lib.hid (show Below w.heap.size w V by rw [hV]; exact below_alloc _ _)
  have HSV := Lib.hid (show V.heap.size = w.heap.size + 1 by rw [hV]; simp)
  have HB1 := Lib.hid (show V.heap[w.heap.size]? = some (.cells #[.slice p xs.length cap, .slice q fs.length cap2, .string s0, s1] 28 (0, 0)) by rw [hV]; exact heap_alloc_new w _)
  have hbk : w.heap.size < V.heap.size := by rw [HSV.out]; omega
  have HX := Lib.hid (hx.up HBV.out); clear hx
  have HF := Lib.hid (hf.up HBV.out); clear hf
  have HO := Lib.hid (show IntsAt V p2 on from ho.imp id fun ⟨a, o, h1, h2, h3⟩ => ⟨a, o, h1, Nat.lt_of_lt_of_le h2 HBV.out.size, fun i hi => by
    obtain ⟨k, h4, h5⟩ := h3 i hi
    exact ⟨k, (HBV.out.cell (p := ⟨a, o + i, none⟩) h2).trans h4, h5⟩⟩); clear ho
  have HXR := Lib.hid hr; clear hr
  have HBJ := Lib.hid (beyondJob d xs p cap fs q cap2 V HX.out HXR.out HF.out hfr hn)
  clear hfr hn
  obtain ⟨x0, x1⟩ := fourC HB1.out
  rw [hV] at x0 x1
  go_enter Tryz.func3, Tryz.ntmps3
  go_wp2_with fail
  rw [← hV]
  clear hV x0 x1
  refine HBJ.out.mono ?_
  rintro e w1 ⟨b, rfl, hb, hb1⟩
  have Hb1 := Lib.hid (show Below V.heap.size V w1 from hb1); clear hb1 HBJ
  cases b
  case true =>
    go_wp2_with fail
    go_ret
    exact ⟨rfl, HBV.out.trans (Hb1.out.mono HBV.out.size)⟩
  case false =>
    have hxn := (hb rfl).1
    clear hb
    obtain ⟨x0, x1⟩ := fourC ((Hb1.out.block w.heap.size hbk).trans HB1.out)
    go_wp2_with fail
    refine (tInfer d p cap xs w1 (HX.out.up Hb1.out) (fun x hx => ⟨(HXR.out x hx).r_⟩) hxn).mono ?_
    rintro e w2 hi
    obtain ⟨ps, cs, i1, c1, dd, rfl, hb2, hsm, hid⟩ := infU_of hi
    have HSM := Lib.hid hsm; clear hsm
    obtain ⟨hdn, hcn⟩ := infD_len hid
    have HCW := Lib.hid hcn; clear hcn
    have HID := Lib.hid hid; clear hid hi
    have Hb2 := Lib.hid (Hb1.out.trans (hb2.mono Hb1.out.size)); clear hb2 Hb1 x0 x1
    obtain ⟨x0, x1⟩ := fourC ((Hb2.out.block w.heap.size hbk).trans HB1.out)
    go_wp2_with fail
    refine (tShuffled d xs p cap p2 on oc w2 (HX.out.up Hb2.out) hxn (HO.out.imp id fun ⟨a, o, h1, h2, h3⟩ => ⟨a, o, h1, Nat.lt_of_lt_of_le h2 Hb2.out.size, fun i hi => by
      obtain ⟨k, h4, h5⟩ := h3 i hi
      exact ⟨k, (Hb2.out.cell (p := ⟨a, o + i, none⟩) h2).trans h4, h5⟩⟩)).mono ?_
    rintro e w3 ⟨po, co, o, rfl, hpe, hro, hb3⟩
    have HPE := Lib.hid hpe; clear hpe
    have hon : o.length ≤ 1048576 := by rw [HPE.out.length_eq]; exact hxn
    have HOA := Lib.hid (show ∀ x ∈ o, RuAt w2 x from fun x hx => ((HX.out.2 x (HPE.out.mem_iff.1 hx)).up Hb2.out))
    have HOR := Lib.hid (show ∀ x ∈ o, RuR x.p x.hs x.bs from fun x hx => (HXR.out x (HPE.out.mem_iff.1 hx)).r_)
    have HCA := Lib.hid (CaR.start hro hb3)
    clear hro hb3 x0 x1
    go_wp2_with fail
    go_loopw [9, 10, 11] (fun i _ _ wr => ∃ (j : Nat) (ys : List (Ru d)), j ≤ o.length ∧ i = .int .i64 j ∧ CaR o w2 (.slice po o.length co) j ys wr) (fun i _ _ _ => o.length - (intOf i).toNat)
    case atStart => exact ⟨0, _, by omega, rfl, HCA.out⟩
    case round =>
      clear HCA
      obtain ⟨j, ys, hj, rfl, hca⟩ := hrel
      have HR := Lib.hid hca; clear hca
      rename World => wr
      by_cases hlt : j < o.length
      · obtain ⟨g, rfl, hoc, hcm, hgl⟩ := ownR_cap HR.out.row (by omega)
        have hys : j < ys.length := by rw [HR.out.len]; exact hlt
        have hck := ru_cell HR.out.row HR.out.len j hys
        have hol := HR.out.old j (Nat.le_refl _) hys hlt
        have HYA := Lib.hid (show RuAt wr ys[j] by rw [hol]; exact (HOA.out _ (List.getElem_mem hlt)).up HR.out.u_)
        have HYR := Lib.hid (show RuR ys[j].p ys[j].hs ys[j].bs by rw [hol]; exact HOR.out _ (List.getElem_mem hlt))
        clear hol
        have HPUT := Lib.hid (fun (w3 : World) (y : Ru d) (ρ : ByteArray → ByteArray) hb hy hyr hya hyi => HR.out.put (w3 := w3) (y := y) (ρ := ρ) hb hlt hys hy hyr hya hyi)
        obtain ⟨x, hx⟩ : ∃ x, x = ys[j] := ⟨_, rfl⟩
        rw [← hx] at hck HYA HYR HPUT
        clear hx
        obtain ⟨k0, k1, k2⟩ := hck
        have HCN := Lib.hid (rCanon d x wr HYA.out HYR.out)
        have hk0 : (0 : Int) ≤ (j : Int) := by omega
        have hki : (j : Int) < (o.length : Int) := by omega
        go_wp2_with fail
        refine HCN.out.mono ?_
        rintro e w4 hcp
        rcases hcp with ⟨_, rfl, hb4⟩ | ⟨y, ρ, hy, hyr, rfl, hya, hyi, hb4⟩
        · have HF2 := Lib.hid (HR.out.skip (hb4.alloc hb4.size (.cells #[.string ⟨#[]⟩, .slice none 0 0, .slice none 0 0] 41)) HOA.out HOR.out)
          clear hb4
          go_wp2_with fail
          go_roundw
          case rel => exact ⟨j + 1, _, by omega, by go_num, HF2.out⟩
          case measure => simp [intOf]; omega
        · have HF2 := Lib.hid (HPUT.out (w4.alloc (.cells #[.string y.p, .slice y.hp y.hs.length y.hc, .slice y.bp y.bs.length y.bc] 41)) y ρ (hb4.alloc hb4.size _) hy hyr (hya.up (below_alloc _ _)) (hyi.mono fun a h => h.1))
          have hb5 := hb4.alloc hb4.size (.cells #[.string y.p, .slice y.hp y.hs.length y.hc, .slice y.bp y.bs.length y.bc] 41)
          have m0 := (hb5.cell (p := ⟨g, j * 3, none⟩) hgl).trans k0
          have m1 := (hb5.cell (p := ⟨g, j * 3 + 1, none⟩) hgl).trans k1
          have m2 := (hb5.cell (p := ⟨g, j * 3 + 2, none⟩) hgl).trans k2
          have hfr : ∀ q : Nat, wr.frozen? ⟨g, q, none⟩ = false := fun q => by
            rcases HR.out.row.2 with ⟨hv, _⟩ | ⟨g', cap', cur, hv, _, hg', _⟩
            · cases hv
            · simp only [Value.slice.injEq, Option.some.injEq, Addr.mk.injEq, and_true, true_and] at hv
              obtain ⟨rfl, rfl⟩ := hv
              exact Lib.frozen_of_heap hg' q
          have f0 := (hb5.frozen (p := ⟨g, j * 3, none⟩) hgl).trans (hfr (j * 3))
          have f1 := (hb5.frozen (p := ⟨g, j * 3 + 1, none⟩) hgl).trans (hfr (j * 3 + 1))
          have f2 := (hb5.frozen (p := ⟨g, j * 3 + 2, none⟩) hgl).trans (hfr (j * 3 + 2))
          clear hfr hb5 hb4 hy hyr hya hyi k0 k1 k2
          go_wp2_with fail
          go_roundw
          case rel => exact ⟨j + 1, _, by omega, by go_num, HF2.out⟩
          case measure => simp [intOf]; omega
      · obtain rfl : j = o.length := by omega
        obtain ⟨hra, hrb, hyl, hgg, hpp, hhh⟩ := HR.out.done HPE.out
        have Hwr := Lib.hid (Hb2.out.trans (HR.out.u_.mono Hb2.out.size))
        have HSW := Lib.hid (HSM.out.up HR.out.u_)
        have HINF := Lib.hid (show Calls Tryz.prog 6 #[.agg #[.slice po o.length co]] wr (InfU ys wr) by
          rw [← HR.out.len]
          exact (tInfer d po co ys wr hra hrb (by rw [hyl]; exact hxn)).mono fun e w' h => infU_of h)
        have HAL := Lib.hid (fun (k : Int) (ee : List Sg) (h : InfD ys k ee) => infD_same HID.out h hgg hpp hhh)
        clear hra hrb hyl hgg hpp hhh
        go_wp2_with fail
        refine HINF.out.mono ?_
        rintro e w5 ⟨pe, ce, i2, c2, ee, rfl, hb5, hse, hie⟩
        obtain ⟨hcc, hle, hall⟩ := HAL.out c2 ee hie
        have HSE := Lib.hid hse; clear hse hie HAL HINF
        have HSD := Lib.hid (HSW.out.up hb5); clear HSW
        have HALL := Lib.hid hall; clear hall
        have Hb5 := Lib.hid (HBV.out.trans ((Hwr.out.mono HBV.out.size).trans (hb5.mono (by have := HBV.out.size; have := Hwr.out.size; omega)))); clear hb5
        rw [← hle]
        have HLE := Lib.hid hle; clear hle
        clear HR HID HSM HOA HOR HPE
        have q1 : c1 ≠ 0 → ((c1 == 0) = false ∧ (c2 == 0) = false ∧ decide (c1 = 0) = false ∧ decide (c2 = 0) = false) := fun h => by
          have h2 : ¬ c2 = 0 := fun h3 => h (hcc.2 h3)
          simp [h, h2]
        by_cases hc1 : c1 = 0
        case' pos =>
          have hc2 := hcc.1 hc1
          subst hc1
          subst hc2
        case' neg =>
          obtain ⟨q2, q3, q4, q5⟩ := q1 hc1
        all_goals
          clear hcc q1
          go_wp2_with fail
          go_loopw [15, 16] (fun i _ wm => ∃ a : Nat, a ≤ dd.length ∧ i = .int .i64 a ∧ Below w5.heap.size w5 wm) (fun i _ _ => dd.length - (intOf i).toNat)
          case atStart => exact ⟨0, by omega, rfl, Below.refl _ _⟩
          case round =>
            obtain ⟨a, ha, rfl, hbm⟩ := hrel
            have HM := Lib.hid hbm; clear hbm
            rename World => wm
            by_cases hlt : a < dd.length
            · have ha2 : a < ee.length := by rw [← HLE.out]; exact hlt
              obtain ⟨b1, hps, hk1⟩ := sg_at HSD.out hlt
              obtain ⟨b2, hpe, hk2⟩ := sg_at HSE.out ha2
              subst hps
              subst hpe
              obtain ⟨hnm, hcl⟩ := HALL.out a hlt ha2
              have HK1 := Lib.hid hk1; clear hk1
              have HK2 := Lib.hid (show ∀ w', Below w5.heap.size w5 w' → w'.cell? ⟨b2, a * 2, none⟩ = some (.string dd[a].name) ∧ w'.cell? ⟨b2, a * 2 + 1, none⟩ = some (.slice (some ⟨ee[a].cp, 0, none⟩) dd[a].cols.length dd[a].cols.length) ∧ ∀ k, (hk : k < dd[a].cols.length) → w'.cell? ⟨ee[a].cp, k, none⟩ = some (.int .i8 dd[a].cols[k]) from fun w' hb => by
                obtain ⟨h1, h2, h3⟩ := hk2 w' hb
                rw [hnm]
                simp only [hcl]
                exact ⟨h1, h2, h3⟩)
              have hL24 := HCW.out _ (List.getElem_mem hlt)
              clear hk2 hnm hcl
              generalize dd[a].cols = L at HK1 HK2 hL24
              generalize dd[a].name = nm at HK1 HK2
              generalize dd[a].cp = e1 at HK1 HK2
              generalize ee[a].cp = e2 at HK1 HK2
              clear ha2
              obtain ⟨k0, k1, _⟩ := HK1.out wm HM.out
              obtain ⟨k2, k3, _⟩ := HK2.out wm HM.out
              have hi0 : (0 : Int) ≤ (a : Int) := by omega
              have hi1 : (a : Int) < (dd.length : Int) := by omega
              go_wp2_with fail
              go_quiet (fail)
              go_wp2_with fail
              clear k0 k1 k2 k3
              go_loopw [16] (fun i wq => ∃ b : Nat, b ≤ L.length ∧ i = .int .i64 b ∧ Below w5.heap.size w5 wq) (fun i _ => L.length - (intOf i).toNat)
              case atStart => exact ⟨0, by omega, rfl, below_drewN HM.out _⟩
              case round =>
                obtain ⟨b, hb, rfl, hbq⟩ := hrel
                have HQ := Lib.hid hbq; clear hbq
                rename World => wq
                obtain ⟨k0, k1, h1⟩ := HK1.out wq HQ.out
                obtain ⟨k2, k3, h2⟩ := HK2.out wq HQ.out
                by_cases hlt2 : b < L.length
                · have k4 := h1 b hlt2
                  have k5 := h2 b hlt2
                  clear h1 h2
                  generalize L[b] = z at k4 k5
                  have hj0 : (0 : Int) ≤ (b : Int) := by omega
                  have hj1 : (b : Int) < (L.length : Int) := by omega
                  go_wp2_with fail
                  go_quiet (fail)
                  go_wp2_with fail
                  go_roundw
                  case rel => exact ⟨b + 1, by omega, by go_num, below_drewN HQ.out _⟩
                  case measure => simp [intOf]; omega
                · clear h1 h2
                  go_wp2_with fail
                  go_roundw
                  case rel => exact ⟨a + 1, by omega, by go_num, HQ.out⟩
                  case measure => simp [intOf]; omega
            · go_wp2_with fail
              refine (tKnown _).mono ?_
              rintro e w9 ⟨rfl, hb9⟩
              have HB9 := Lib.hid (Hb5.out.trans ((HM.out.mono (by have := Hb5.out.size; omega)).trans (hb9.mono (by have := Hb5.out.size; have := HM.out.size; omega)))); clear hb9
              go_wp2_with fail
              go_ret
              exact ⟨rfl, HB9.out⟩
end Go.Proofs.YtafjjececdhmjaaGreat
