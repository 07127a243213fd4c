/- The contract of check.Rule. Rules in a row of memory; what a list of rules says; what is inferred of it. Conditions: the rule lies in memory as it is told. as told. -/
import Derived.Test.YtafjjececdhmjaaGreatNY26
import Derived.Deep.RegionHeld3
import Derived.Test.YtafjjececdhmjaaGreatNY12
import Derived.Test.YtafjjececdhmjaaGreatNKd
namespace Go.Proofs.YtafjjececdhmjaaGreat
open Go.RowKit Go.Maps

/-- Is each variable of a rule one that its body limits? -/
def Safe {d : Nat} (hs : List Ag) (bs : List (Lt d)) : Prop := ∀ v ∈ varsL (ruTms hs bs), Lim bs v
theorem Fnd.weak {B B' : Nat} {own : Nat → Prop} {b : Nat} {acc : List (List UInt8)} {w : World} (h : Fnd B own b acc w) (hB : B' ≤ B) : Fnd B' own b acc w := by
  obtain ⟨bm, D, sv, h1, h2, h3, h4, h5, h6⟩ := h.st
  refine ⟨fun k hk => ⟨Nat.le_trans hB (h.lo k hk).1, (h.lo k hk).2⟩, Nat.le_trans hB h.base, h.ob, bm, D, sv, h1, h2, h3, h4, ⟨h5.1, ?_⟩, h6⟩
  rcases h5.2 with h8 | ⟨g, cap, cur, fz, hv, hg, h9⟩
  · exact .inl h8
  · exact .inr ⟨g, cap, cur, fz, hv, Nat.le_trans hB hg, h9⟩
/-- What holds between the calls that ask what is limited and which variables there are: which of them have been. -/
def G4 {d : Nat} (V : World) (bs : List (Lt d)) (l : List (List UInt8)) (lv : Option Nat) (sv : Option (Option Addr)) (w : World) : Prop :=
  ∃ own F, Below V.heap.size V w ∧ (∀ k, own k → k < w.heap.size) ∧ (∀ b, lv = some b → Fnd V.heap.size own b F w ∧ ∀ v, v ∈ F ↔ Lim bs v) ∧ (lv = none → ∀ k, ¬ own k) ∧ ∀ p, sv = some p → SsOff own w p l
section
variable {d : Nat} {V w : World} {bs : List (Lt d)} {l : List (List UInt8)} {lv : Option Nat} {sv : Option (Option Addr)}
theorem G4.below (h : G4 V bs l lv sv w) : Below V.heap.size V w := by
  obtain ⟨_, _, h1, _⟩ := h
  exact h1
theorem G4.lim {e : Ending} {w' : World} (h : G4 V bs l none sv w) (hp : LmPost bs w e w') : ∃ b, e = .returned (.pointer (some ⟨b, 0, none⟩)) ∧ G4 V bs l (some b) sv w' := by
  obtain ⟨own, F, h1, h2, _, h4, h5⟩ := h
  obtain ⟨b, own2, F2, rfl, hb, hf, hF⟩ := hp
  refine ⟨b, rfl, own2, F2, h1.trans (hb.mono h1.size), fun k hk => (hf.lo k hk).2, fun b' hb' => ?_, (fun h => nomatch h), fun p hp => ?_⟩
  · cases hb'
    exact ⟨hf.weak h1.size, hF⟩
  · rcases h5 p hp with h0 | ⟨a, o, h6, h7, ha, hc⟩
    · exact .inl h0
    · exact .inr ⟨a, o, h6, fun h8 => by have := (hf.lo a h8).1; omega, Nat.lt_of_lt_of_le ha hb.size, fun i hi => (hb.cell (p := ⟨a, o + i, none⟩) ha).trans (hc i hi)⟩
theorem G4.vars {e : Ending} {w' : World} (h : G4 V bs l lv none w) (hp : VlPost l w e w') : ∃ p c, e = .returned (.slice p l.length c) ∧ G4 V bs l lv (some p) w' := by
  obtain ⟨own, F, h1, h2, h3, h4, _⟩ := h
  obtain ⟨p, c, rfl, hb, hss⟩ := hp
  refine ⟨p, c, rfl, own, F, h1.trans (hb.mono h1.size), fun k hk => Nat.lt_of_lt_of_le (h2 k hk) hb.size, fun b' hb' => ⟨(h3 b' hb').1.below hb, (h3 b' hb').2⟩, h4, fun p' hp' => ?_⟩
  cases hp'
  exact hss.offOf h2
theorem G4.all {b : Nat} {p : Option Addr} {c : Nat} (h : G4 V bs l (some b) (some p) w) (hl : l.length ≤ 10000) (hv : ∀ v ∈ l, v.length ≤ maxLen) :
    Calls Tryz.prog 39 #[.pointer (some ⟨b, 0, none⟩), .slice p l.length c] w (fun e w' => ∃ r : Bool, e = .returned (.bool r) ∧ (r = true ↔ ∀ v ∈ l, Lim bs v) ∧ w' = w) := by
  obtain ⟨own, F, _, _, h3, _, h5⟩ := h
  obtain ⟨hf, hF⟩ := h3 b rfl
  refine (tAllF hf p c l (h5 p rfl) hl hv).mono ?_
  rintro e w' ⟨rfl, rfl⟩
  refine ⟨_, rfl, ?_, rfl⟩
  rw [List.all_eq_true]
  constructor
  · intro h v hv
    exact (hF v).1 (List.contains_iff_mem.1 (h v hv))
  · intro h v hv
    exact List.contains_iff_mem.2 ((hF v).2 (h v hv))
end
/-- What check.Rule answers. -/
def CkPost {d : Nat} (p : ByteArray) (hs : List Ag) (bs : List (Lt d)) (w : World) (e : Ending) (w' : World) : Prop :=
  ∃ c : Int, e = .returned (.int .i64 c) ∧ Below w.heap.size w w' ∧ (c = 0 ↔ ruOk p hs bs = true ∧ Safe hs bs)
theorem flat16 {d : Nat} {bs : List (Lt d)} (h2 : bs.length ≤ 16) (h : ∀ x ∈ bs, ltOk x = true) : (bs.flatMap ltTms).length ≤ 9600 := by
  have h3 : ∀ l : List (Lt d), (∀ x ∈ l, ltOk x = true) → (l.flatMap ltTms).length ≤ 600 * l.length := by
    intro l
    induction l with
    | nil => intro _; simp
    | cons x r ih =>
      intro hl
      have h4 := ltTms_len (hl x (by simp))
      have h5 := ih (fun y hy => hl y (by simp [hy]))
      rw [List.flatMap_cons, List.length_append, List.length_cons]
      omega
  have := h3 bs h
  omega
theorem ruTms_small {d : Nat} {p : ByteArray} {hs : List Ag} {bs : List (Lt d)} (hr : RuR p hs bs) : ∀ t ∈ ruTms hs bs, t.v.size ≤ maxLen := by
  intro t ht
  unfold ruTms at ht
  rcases List.mem_append.1 ht with h1 | h1
  · obtain ⟨a, ha, rfl⟩ := List.mem_map.1 h1
    exact (hr.h_ a ha).2.v0
  · obtain ⟨x, hx, h2⟩ := List.mem_flatMap.1 h1
    have hx' := hr.b_ x hx
    unfold ltTms at h2
    rcases List.mem_append.1 h2 with h3 | h3
    · exact (hx'.ts_ t h3).v0
    · rcases List.mem_append.1 h3 with h4 | h4
      · exact exTms_small d _ hx'.l_ t h4
      · exact exTms_small d _ hx'.g_ t h4
set_option maxHeartbeats 8000000 in
set_option maxRecDepth 100000 in
theorem tRuleCk (d : Nat) (p : ByteArray) (hp : Option Addr) (hc : Nat) (hs : List Ag) (bp : Option Addr) (bc : Nat) (bs : List (Lt d)) (w : World) (hh : AgsAt w hp hs) (hb : LtsAt w d bp bs) (hr : RuR p hs bs) :
    Calls Tryz.prog 16 #[.agg #[.string p, .slice hp hs.length hc, .slice bp bs.length bc]] w (CkPost p hs bs w) := by
  obtain ⟨W, hW⟩ : ∃ W, W = w.alloc (.cells #[.string p, .slice hp hs.length hc, .slice bp bs.length bc] 41) := ⟨_, rfl⟩
  have HBW := Lib.hid (show Below w.heap.size w W by rw [hW]; exact below_alloc _ _)
  have HSW := Lib.hid (show W.heap.size = w.heap.size + 1 by rw [hW]; simp)
  have HX := Lib.hid (three (show W.heap[w.heap.size]? = some (.cells #[.string p, .slice hp hs.length hc, .slice bp bs.length bc] 41 (0, 0)) by rw [hW]; exact heap_alloc_new w _))
  have HCK := Lib.hid (tCheckRule d p hp hc hs bp bc bs W (hh.up HBW.out) (hb.up HBW.out) hr)
  have HH := Lib.hid (hh.up HBW.out); clear hh
  have HB := Lib.hid (hb.up HBW.out); clear hb
  have HR := Lib.hid hr; clear hr
  rcases hok : ruOk p hs bs with _ | _
  · have HP := Lib.hid (show ∀ w', Below w.heap.size w w' → CkPost p hs bs w (.returned (.int .i64 40)) w' from fun w' h => ⟨40, rfl, h, by simp [hok]⟩)
    rw [hok] at HCK
    unfold okCode at HCK
    simp only [Bool.false_eq_true, if_false] at HCK
    clear hok
    go_enter Tryz.func16, Tryz.ntmps16
    go_wp2_with fail
    rw [← hW]
    clear hW
    refine HCK.out.mono ?_
    rintro e w1 ⟨rfl, hb1⟩
    have HBB := Lib.hid (HBW.out.trans (hb1.mono HBW.out.size))
    clear hb1
    go_wp2_with fail
    go_ret
    exact HP.out _ HBB.out
  · have HP := Lib.hid (show ∀ (r : Bool) (c : Int) w', Below w.heap.size w w' → (r = true ↔ ∀ v ∈ varsL (ruTms hs bs), Lim bs v) → c = (if r = true then 0 else 73) → CkPost p hs bs w (.returned (.int .i64 c)) w' from fun r c w' h1 h2 h3 => ⟨c, rfl, h1, by
      rw [h3]
      constructor
      · intro h4
        exact ⟨hok, h2.1 (Classical.byContradiction fun h5 => by rw [if_neg h5] at h4; omega)⟩
      · rintro ⟨_, h4⟩
        rw [if_pos (h2.2 h4)]⟩)
    have hok2 := hok
    unfold ruOk at hok2
    simp only [Bool.and_eq_true, decide_eq_true_eq, List.all_eq_true] at hok2
    have HBL := Lib.hid (show bs.length ≤ 16 from hok2.1.1.1.2)
    have HT9 := Lib.hid (flat16 hok2.1.1.1.2 hok2.1.2)
    have HTT := Lib.hid (ruTms_len hok2.1.1.1.1.2 hok2.1.1.1.2 hok2.1.2)
    have HV24 := Lib.hid (show (varsL (ruTms hs bs)).length ≤ 10000 by have := hok2.2; omega)
    have HVS := Lib.hid (vars_small (ruTms_small HR.out))
    rw [hok] at HCK
    unfold okCode at HCK
    simp only [if_true] at HCK
    clear hok hok2
    obtain ⟨l, hl⟩ : ∃ l, l = varsL (ruTms hs bs) := ⟨_, rfl⟩
    have HRV : Hid (∀ W2, Below W.heap.size W W2 → Calls Tryz.prog 40 #[.agg #[.string p, .slice hp hs.length hc, .slice bp bs.length bc]] W2 (VlPost l W2)) := Lib.hid fun W2 h => by rw [hl]; exact tRuleVarsL d p hp hc hs bp bc bs W2 (HH.out.up h) (HB.out.up h) HR.out HTT.out
    have HLM : Hid (∀ W2, Below W.heap.size W W2 → Calls Tryz.prog 38 #[.slice bp bs.length bc] W2 (LmPost bs W2)) := Lib.hid fun W2 h => tLimits d bp bc bs W2 (HB.out.up h) HR.out.b_ HBL.out HT9.out
    rw [← hl] at HP HV24 HVS
    clear hl
    obtain ⟨n, hnn⟩ : ∃ n, n = l.length := ⟨_, rfl⟩
    have HNN := Lib.hid hnn; clear hnn
    go_enter Tryz.func16, Tryz.ntmps16
    go_wp2_with fail
    rw [← hW]
    clear hW
    refine HCK.out.mono ?_
    rintro e w1 ⟨rfl, hb1⟩
    have HB1 := Lib.hid hb1; clear hb1
    obtain ⟨x0, x1, x2⟩ := HX.out
    have hlt : w.heap.size < W.heap.size := by have := HSW.out; omega
    have x0 := (HB1.out.cell (p := ⟨w.heap.size, 0, none⟩) hlt).trans x0
    have x1 := (HB1.out.cell (p := ⟨w.heap.size, 1, none⟩) hlt).trans x1
    have x2 := (HB1.out.cell (p := ⟨w.heap.size, 2, none⟩) hlt).trans x2
    have HLT := Lib.hid (show w.heap.size < w1.heap.size by have := HB1.out.size; omega)
    clear hlt
    have HS := Lib.hid (show G4 w1 bs l none none w1.drew from ⟨fun _ => False, [], (Below.refl _ _).drew, fun k h => h.elim, fun b h => (nomatch h), fun _ _ h => h, fun p h => (nomatch h)⟩)
    go_wp2_with fail
    go_region_held3 (fun w' => w'.cell? ⟨w.heap.size, 0, none⟩ = w1.cell? ⟨w.heap.size, 0, none⟩ ∧ w'.cell? ⟨w.heap.size, 1, none⟩ = w1.cell? ⟨w.heap.size, 1, none⟩ ∧ w'.cell? ⟨w.heap.size, 2, none⟩ = w1.cell? ⟨w.heap.size, 2, none⟩)
      (exact ⟨HS.out.below.cell HLT.out, HS.out.below.cell HLT.out, HS.out.below.cell HLT.out⟩)
      (first
        | (go_at_call 38
           refine (HLM.out _ (HB1.out.trans (HS.out.below.mono HB1.out.size))).mono ?_
           intro e w2 hp2
           obtain ⟨b, rfl, hs2⟩ := HS.out.lim hp2
           have HS := Lib.hid hs2
           clear hs2 hp2)
        | (go_at_call 40
           refine (HRV.out _ (HB1.out.trans (HS.out.below.mono HB1.out.size))).mono ?_
           intro e w2 hp2
           obtain ⟨pv, cv, rfl, hs2⟩ := HS.out.vars hp2
           have HS := Lib.hid hs2
           clear hs2 hp2
           rw [← HNN.out])
        | (go_at_call 39
           rw [HNN.out]
           refine (HS.out.all HV24.out HVS.out).mono ?_
           rintro e w2 ⟨r, rfl, hiff, hw2⟩
           rw [hw2]
           have HI := Lib.hid hiff
           clear hiff hw2))
    all_goals
      have HBB := Lib.hid (HBW.out.trans ((HB1.out.trans (HS.out.below.mono HB1.out.size)).mono HBW.out.size))
      clear x0 x1 x2
      cases r with
      | false =>
        have HE := Lib.hid (HP.out false 73 _ HBB.out HI.out rfl)
        go_wp2_with fail
        go_ret
        exact HE.out
      | true =>
        have HE := Lib.hid (HP.out true 0 _ HBB.out HI.out rfl)
        go_wp2_with fail
        go_ret
        exact HE.out
end Go.Proofs.YtafjjececdhmjaaGreat

namespace Go.Proofs.YtafjjececdhmjaaGreat
open Go.RowKit Go.Maps

/-- A rule: its name, its arguments, its literals, and where these lie. -/
structure Ru (D : Nat) where
  p : ByteArray
  hp : Option Addr
  hc : Nat
  hs : List Ag
  bp : Option Addr
  bc : Nat
  bs : List (Lt D)
def Ru.cells {D : Nat} (x : Ru D) : List Value := [.string x.p, .slice x.hp x.hs.length x.hc, .slice x.bp x.bs.length x.bc]
structure RuAt {D : Nat} (w : World) (x : Ru D) : Prop where
  h_ : AgsAt w x.hp x.hs
  b_ : LtsAt w D x.bp x.bs
theorem RuAt.up {D : Nat} {w w' : World} {x : Ru D} (h : RuAt w x) (hb : Below w.heap.size w w') : RuAt w' x := ⟨h.h_.up hb, h.b_.up hb⟩
/-- A rule within the bounds of a reading. -/
structure RuB {D : Nat} (x : Ru D) : Prop where
  r_ : RuR x.p x.hs x.bs
/-- A rule's cells in a row. -/
structure RuCell (w : World) (a o : Nat) {D : Nat} (x : Ru D) : Prop where
  c0 : w.cell? ⟨a, o, none⟩ = some (.string x.p)
  c1 : w.cell? ⟨a, o + 1, none⟩ = some (.slice x.hp x.hs.length x.hc)
  c2 : w.cell? ⟨a, o + 2, none⟩ = some (.slice x.bp x.bs.length x.bc)
theorem RuCell.up {w w' : World} {B a o D : Nat} {x : Ru D} (h : RuCell w a o x) (hb : Below B w w') (ha : a < B) : RuCell w' a o x :=
  ⟨(hb.cell (p := ⟨a, o, none⟩) ha).trans h.c0, (hb.cell (p := ⟨a, o + 1, none⟩) ha).trans h.c1, (hb.cell (p := ⟨a, o + 2, none⟩) ha).trans h.c2⟩
/-- Rules in a row of memory. -/
def RusAt (w : World) (d : Nat) (p : Option Addr) (xs : List (Ru d)) : Prop :=
  (xs.length = 0 ∨ ∃ a o, p = some ⟨a, o, none⟩ ∧ a < w.heap.size ∧ ∀ i, (h : i < xs.length) → RuCell w a (o + i * 3) xs[i]) ∧ ∀ x ∈ xs, RuAt w x
theorem RusAt.up {w w' : World} {d : Nat} {p : Option Addr} {xs : List (Ru d)} (h : RusAt w d p xs) (hb : Below w.heap.size w w') : RusAt w' d p xs :=
  ⟨h.1.imp id fun ⟨a, o, hp, ha, hc⟩ => ⟨a, o, hp, Nat.lt_of_lt_of_le ha hb.size, fun i hi => (hc i hi).up hb ha⟩, fun x hx => (h.2 x hx).up hb⟩
/-- What a rule tells of arities, what rules say of places. -/
def prOf {d : Nat} (x : Ru d) : List (List UInt8 × Nat) := rpr x.p x.hs x.bs
def proPr {d : Nat} (xs : List (Ru d)) : List (List UInt8 × Nat) := xs.flatMap prOf
def ruCnI {d : Nat} (i : Nat) (x : Ru d) : List Cn := ruCn i x.p x.hs x.bs
def proCn {d : Nat} (xs : List (Ru d)) : List Cn := idxd ruCnI 0 xs
/-- May a rule be used? -/
def UseOk {d : Nat} (x : Ru d) : Prop := ruOk x.p x.hs x.bs = true ∧ Safe x.hs x.bs
theorem ruOk_short {d : Nat} {p : ByteArray} {hs : List Ag} {bs : List (Lt d)} (h : ruOk p hs bs = true) : hs.length ≤ 24 ∧ bs.length ≤ 16 ∧ ∀ f ∈ bs, f.ts.length ≤ 24 := by
  unfold ruOk at h
  simp only [Bool.and_eq_true, decide_eq_true_eq, List.all_eq_true] at h
  refine ⟨h.1.1.1.1.2, h.1.1.1.2, fun f hf => ?_⟩
  have h1 := h.1.2 f hf
  unfold ltOk at h1
  split at h1
  · simp only [Bool.and_eq_true] at h1
    have h2 := h1.1.1.1
    unfold atOk at h2
    simp only [Bool.and_eq_true, decide_eq_true_eq, Bool.not_eq_true'] at h2
    exact h2.1.2
  · split at h1
    · simp only [Bool.and_eq_true, decide_eq_true_eq] at h1
      have h2 := h1.1.1.1.1.2
      omega
    · cases h1
/-- May the types of rules be inferred? -/
def Good {d : Nat} (xs : List (Ru d)) : Prop := (∀ x ∈ xs, UseOk x) ∧ Cns (proPr xs) ∧ ¬ Torn (proCn xs)
/-- The places that rules' columns are. -/
def KnP (prs : List (List UInt8 × Nat)) (p : Pl) : Prop := p.rule < 0 → p.rule = -1 ∧ ∃ n, (bl p.name, n) ∈ prs ∧ 0 ≤ p.col ∧ p.col < n
theorem KnP.kv (prs : List (List UInt8 × Nat)) : KnV (KnP prs) := fun p hp hr => absurd hr (by omega)
theorem knp_head {d : Nat} {xs : List (Ru d)} {x : Ru d} (hx : x ∈ xs) : ∀ i : Nat, i < x.hs.length → KnP (proPr xs) ⟨-1, x.p, i⟩ :=
  fun i hi _ => ⟨rfl, x.hs.length, List.mem_flatMap.2 ⟨x, hx, by unfold prOf rpr; simp⟩, by simp, by simpa using hi⟩
theorem knp_body {d : Nat} {xs : List (Ru d)} {x : Ru d} (hx : x ∈ xs) {y : Lt d} (hy : y ∈ x.bs) (h3 : y.k ≠ 3) : ∀ i : Nat, i < y.ts.length → KnP (proPr xs) ⟨-1, y.p, i⟩ :=
  fun i hi _ => ⟨rfl, y.ts.length, List.mem_flatMap.2 ⟨x, hx, by
    unfold prOf rpr
    refine List.mem_cons_of_mem _ (List.mem_flatMap.2 ⟨y, hy, ?_⟩)
    unfold lpr
    rw [if_neg h3]
    simp⟩, by simp, by simpa using hi⟩
/-- A signature: a name, its columns' types, and where these lie. -/
structure Sg where
  name : ByteArray
  cp : Nat
  cols : List Int
/-- A signature's columns in memory, in a block of their own. -/
def SgCols (w : World) (B : Nat) (s : Sg) : Prop := B ≤ s.cp ∧ w.heap[s.cp]? = some (.cells (s.cols.map fun c => Value.int .i8 c).toArray 48 (0, 0))
def Sg.cells (s : Sg) : List Value := [.string s.name, .slice (some ⟨s.cp, 0, none⟩) s.cols.length s.cols.length]
end Go.Proofs.YtafjjececdhmjaaGreat
