/- The contracts of types.arities and of its closure. The contract of types.arities. Conditions: the map and the rule lie in memory as they are told. -/
import Derived.Test.YtafjjececdhmjaaGreatNS6
namespace Go.Proofs.YtafjjececdhmjaaGreat
open Go.RowKit Go.Maps

/-- What a map of arities says. -/
structure SeenD (D : DataW Unit) (prs : List (List UInt8 × Nat)) : Prop where
  yes : ∀ v n, (v, n) ∈ prs → ∀ z, D.atKey (.string v) z = .lit (.int .i64 n)
  no : ∀ v, (∀ n, (v, n) ∉ prs) → ∀ z, D.atKey (.string v) z = z
/-- No name has two arities. -/
def Cns (prs : List (List UInt8 × Nat)) : Prop := ∀ v n k, (v, n) ∈ prs → (v, k) ∈ prs → n = k
/-- What a map of arities is once the pairs have been told it, ok or not. -/
def Ar (prs : List (List UInt8 × Nat)) (ok : Bool) (D : DataW Unit) : Prop := Maps.IsMap D ∧ (ok = true → SeenD D prs) ∧ (ok = true ↔ Cns prs)
theorem Ar.nil : Ar [] true (.map []) := ⟨⟨[], rfl⟩, fun _ => ⟨fun v n h => by simp at h, fun v _ z => rfl⟩, ⟨fun _ v n k h => by simp at h, fun _ => rfl⟩⟩
theorem Ar.one {prs : List (List UInt8 × Nat)} {ok : Bool} {D : DataW Unit} {v : List UInt8} {c : Int} {there : Bool} (h : Ar prs ok D) (hl : (there = false ∧ ∀ z, D.atKey (.string v) z = z) ∨ (there = true ∧ ∀ z, D.atKey (.string v) z = .lit (.int .i64 c))) (k : Nat) :
    Ar (prs ++ [(v, k)]) (ok && (!there || (c == (k : Int)))) (D.put (.string v) (.lit (.int .i64 k))) := by
  have hk : WideAt.IsKeyLit (.string v) := trivial
  obtain ⟨hm, hs, hc⟩ := h
  have hcase : ok = true → ((there = false ∧ ∀ n, (v, n) ∉ prs) ∨ (there = true ∧ ∃ n : Nat, (v, n) ∈ prs ∧ c = n)) := fun ho => by
    have S := hs ho
    rcases hl with ⟨h1, h2⟩ | ⟨h1, h2⟩
    · refine .inl ⟨h1, fun n hn => ?_⟩
      have h3 := S.yes v n hn (.lit (.bool true))
      rw [h2] at h3
      cases h3
    · refine .inr ⟨h1, ?_⟩
      by_cases hx : ∃ n, (v, n) ∈ prs
      · obtain ⟨n, hn⟩ := hx
        have h3 := S.yes v n hn (.lit (.bool true))
        rw [h2] at h3
        injection h3 with h4
        injection h4 with _ h5
        exact ⟨n, hn, h5⟩
      · have h3 := S.no v (fun n hn => hx ⟨n, hn⟩) (.lit (.bool true))
        rw [h2] at h3
        cases h3
  have hiff : (ok && (!there || (c == (k : Int)))) = true ↔ Cns (prs ++ [(v, k)]) := by
    constructor
    · intro ho
      rw [Bool.and_eq_true] at ho
      have hC := hc.1 ho.1
      have hnew : ∀ n, (v, n) ∈ prs → n = k := fun n hn => by
        rcases hcase ho.1 with ⟨_, h2⟩ | ⟨h1, m, hm', hcm⟩
        · exact absurd hn (h2 n)
        · have h3 := ho.2
          rw [h1] at h3
          simp only [Bool.not_true, Bool.false_or, beq_iff_eq] at h3
          have := hC v n m hn hm'
          omega
      intro u n m h1 h2
      rcases List.mem_append.1 h1 with k1 | k1 <;> rcases List.mem_append.1 h2 with k2 | k2
      · exact hC u n m k1 k2
      · simp only [List.mem_singleton, Prod.mk.injEq] at k2
        rw [k2.2]
        exact hnew n (by rw [← k2.1]; exact k1)
      · simp only [List.mem_singleton, Prod.mk.injEq] at k1
        rw [k1.2]
        exact (hnew m (by rw [← k1.1]; exact k2)).symm
      · simp only [List.mem_singleton, Prod.mk.injEq] at k1 k2
        rw [k1.2, k2.2]
    · intro hC
      have ho : ok = true := hc.2 fun u n m h1 h2 => hC u n m (List.mem_append_left _ h1) (List.mem_append_left _ h2)
      rw [ho, Bool.true_and]
      rcases hcase ho with ⟨h1, _⟩ | ⟨h1, m, hm', hcm⟩
      · rw [h1]; rfl
      · have := hC v m k (List.mem_append_left _ hm') (List.mem_append_right _ (by simp))
        rw [h1, hcm, this]
        simp
  refine ⟨?_, fun ho => ?_, hiff⟩
  · obtain ⟨es, rfl⟩ := hm
    exact ⟨_, rfl⟩
  · have hC := hiff.1 ho
    have S := hs (by rw [Bool.and_eq_true] at ho; exact ho.1)
    refine ⟨fun u n hu z => ?_, fun u hu z => ?_⟩
    · by_cases he : u = v
      · subst he
        have : n = k := hC u n k hu (List.mem_append_right _ (by simp))
        rw [this]
        exact Maps.atKey_put_same hm hk _ z
      · rw [Maps.atKey_put_other (fun h9 => he (by simpa using h9))]
        refine S.yes u n ?_ z
        rcases List.mem_append.1 hu with h1 | h1
        · exact h1
        · simp at h1; exact absurd h1.1 he
    · have h2 : u ≠ v := fun h9 => hu k (by rw [h9]; simp)
      rw [Maps.atKey_put_other (fun h9 => h2 (by simpa using h9))]
      exact S.no u (fun n hn => hu n (List.mem_append_left _ hn)) z
/-- What the map answers, asked with the second result. -/
theorem look2 {w : World} {bm n : Nat} {D : DataW Unit} (hm : w.ownsMap Tryz.prog 9 (plainElem Tryz.prog 3) bm n D) (v : ByteArray) (hv : v.size ≤ maxLen) :
    ∃ (c : Int) (there : Bool), ((there = false ∧ ∀ z, D.atKey (.string (bl v)) z = z) ∨ (there = true ∧ ∀ z, D.atKey (.string (bl v)) z = .lit (.int .i64 c))) ∧
      (Instr.lookup 61 (.map (some bm)) (.string v) true).run Tryz.prog w = .ok (.tuple #[.int .i64 c, .bool there]) w := by
  have hk := WideMaps.keyOf_string_mk Tryz.underlying9 hv
  obtain ⟨es, clock, hb, F, _, rfl⟩ := hm
  rcases Maps.fit_look true law_str Tryz.underlying61 (zero_int w) hb F hk with ⟨hrun, _, hat⟩ | ⟨e0, y, _, _, hrun, hRv, hat, _⟩
  · exact ⟨0, false, .inl ⟨rfl, hat⟩, hrun⟩
  · obtain ⟨c, hc, hy, _⟩ := plainElem_int_inv Tryz.underlying3 hRv
    rw [hc] at hrun
    refine ⟨c, true, .inr ⟨rfl, fun z => ?_⟩, hrun⟩
    rw [hat z, hy]
/-- The state of the work on arities. -/
structure ArS (w0 : World) (bm bt bo n : Nat) (prs : List (List UInt8 × Nat)) (ok : Bool) (w : World) : Prop where
  grow : w0.grownBy w (some bm)
  lt : bm < w0.heap.size
  bt_ : bm ≠ bt
  bo_ : w0.heap.size ≤ bo
  ne_ : bt ≠ bo
  ct : w.heap[bt]? = some (.cells #[.map (some bm)] 61 (0, 0))
  co : w.heap[bo]? = some (.cells #[.bool ok] 4 (0, 0))
  map_ : ∃ D, w.ownsMap Tryz.prog 9 (plainElem Tryz.prog 3) bm n D ∧ Ar prs ok D
set_option maxHeartbeats 4000000 in
set_option maxRecDepth 100000 in
theorem tOne (w0 : World) (bm bt bo n : Nat) (prs : List (List UInt8 × Nat)) (ok : Bool) (v : ByteArray) (k : Nat) (w : World) (h : ArS w0 bm bt bo n prs ok w) (hn : n ≤ 1000000000000) (hk : k ≤ 1000000000000) (hv : v.size ≤ maxLen) :
    Calls Tryz.prog 41 #[.string v, .int .i64 k, .pointer (some ⟨bt, 0, none⟩), .pointer (some ⟨bo, 0, none⟩)] w (fun e w' => e = .returned (.tuple #[]) ∧ ∃ ok', ArS w0 bm bt bo (n + 1) (prs ++ [(bl v, k)]) ok' w') := by
  obtain ⟨D, hm, hA⟩ := h.map_
  obtain ⟨c, there, hl, hlk⟩ := look2 hm v hv
  have hA2 := hA.one hl k
  have hlt := hm.lt
  have c1 : w.cell? ⟨bt, 0, none⟩ = some (.map (some bm)) := by rw [Lib.cell_of_heap h.ct]; rfl
  have c2 : w.cell? ⟨bo, 0, none⟩ = some (.bool ok) := by rw [Lib.cell_of_heap h.co]; rfl
  have f2 : w.frozen? ⟨bo, 0, none⟩ = false := Lib.frozen_of_heap h.co 0
  have hne : bm ≠ bo := by have h1 := h.lt; have h2 := h.bo_; omega
  have hnt : bm ≠ bt := h.bt_
  obtain ⟨ok', hok⟩ : ∃ ok', ok' = (ok && (!there || (c == (k : Int)))) := ⟨_, rfl⟩
  rw [← hok] at hA2
  have hup : ∃ w', (Instr.mapUpdate 61 (.map (some bm)) (.string v) (.int .i64 k)).run Tryz.prog (w.setCell ⟨bo, 0, none⟩ (.bool ok')) = .ok () w' ∧ ArS w0 bm bt bo (n + 1) (prs ++ [(bl v, k)]) ok' w' := by
    obtain ⟨w', h1, h2, h3⟩ := (hm.setCell (a := ⟨bo, 0, none⟩) hne (.bool ok')).update law_str Tryz.underlying61 (by unfold maxLen; omega) (WideMaps.keyOf_string_mk Tryz.underlying9 hv) (plainElem_int Tryz.underlying3 (WalkArith.wf_i64 (n := (k : Int)) (by omega)))
    have hb1 : bt < w.heap.size := (Array.getElem?_eq_some_iff.1 h.ct).1
    have hb2 : bo < w.heap.size := (Array.getElem?_eq_some_iff.1 h.co).1
    have hsz : (w.setCell ⟨bo, 0, none⟩ (.bool ok')).heap.size = w.heap.size := by simp [World.setCell]
    have hoff : ∀ k, k ≠ bo → k ≠ bm → k < w.heap.size → w'.heap[k]? = w.heap[k]? := fun i hi hj hl => (h3.block i (by omega) (fun e => hj (by simpa using e))).trans (Below.heap_setCell w ⟨bo, 0, none⟩ _ i hi)
    refine ⟨w', h1, ⟨⟨h3.os.trans h.grow.os, h3.tape.trans h.grow.tape, h3.output.trans h.grow.output, ?_, fun i hi hj => ?_⟩, h.lt, h.bt_, h.bo_, h.ne_, ?_, ?_, ⟨_, h2, hA2⟩⟩⟩
    · have := h.grow.size; have := h3.size; omega
    · have h5 := h.grow.size
      have h6 := h.bo_
      exact (hoff i (by omega) (fun e => hj (by rw [e])) (by omega)).trans (h.grow.block i hi hj)
    · exact (hoff bt h.ne_ (Ne.symm hnt) hb1).trans h.ct
    · refine (h3.block bo (by omega) (fun e => hne (by simpa using e.symm))).trans ?_
      have h7 := h.co
      simp [World.setCell, Array.getElem?_modify, h7]
  obtain ⟨w', hrun, hS⟩ := hup
  have HS := Lib.hid hS; clear hS
  have HNE := Lib.hid h.ne_
  have c1' : (w.setCell ⟨bo, 0, none⟩ (.bool ok')).cell? ⟨bt, 0, none⟩ = some (.map (some bm)) := by rw [World.cell?_of_block (w := w) (a := ⟨bt, 0, none⟩) (Below.heap_setCell w ⟨bo, 0, none⟩ _ bt h.ne_)]; exact c1
  clear h hm hA hl hA2 hlt hne hnt hn hk hv
  cases ok with
  | false =>
    obtain rfl : ok' = false := by simpa using hok
    clear hok
    go_enter Tryz.func41, Tryz.ntmps41
    go_wp2_with fail
    go_end0
    exact ⟨rfl, _, HS.out⟩
  | true =>
    cases there with
    | false =>
      obtain rfl : ok' = true := by simpa using hok
      clear hok
      go_enter Tryz.func41, Tryz.ntmps41
      go_wp2_with fail
      go_end0
      exact ⟨rfl, _, HS.out⟩
    | true =>
      rcases hq : (c == (k : Int)) with _ | _
      · obtain rfl : ok' = false := by rw [hok, hq]; rfl
        clear hok
        go_enter Tryz.func41, Tryz.ntmps41
        go_wp2_with fail
        go_end0
        exact ⟨rfl, _, HS.out⟩
      · obtain rfl : ok' = true := by rw [hok, hq]; rfl
        clear hok
        go_enter Tryz.func41, Tryz.ntmps41
        go_wp2_with fail
        go_end0
        exact ⟨rfl, _, HS.out⟩
end Go.Proofs.YtafjjececdhmjaaGreat

namespace Go.Proofs.YtafjjececdhmjaaGreat
open Go.RowKit Go.Maps

/-- What a literal tells of arities. -/
def lpr {d : Nat} (x : Lt d) : List (List UInt8 × Nat) := if x.k = 3 then [] else [(bl x.p, x.ts.length)]
/-- What a rule tells of arities. -/
def rpr {d : Nat} (p : ByteArray) (hs : List Ag) (bs : List (Lt d)) : List (List UInt8 × Nat) := (bl p, hs.length) :: bs.flatMap lpr
theorem flat_snoc' {α β : Type} (f : α → List β) (l : List α) (k : Nat) (h : k < l.length) (cs : List β) : (cs ++ (l.take k).flatMap f) ++ f l[k] = cs ++ (l.take (k + 1)).flatMap f := by
  rw [List.take_succ_eq_append_getElem h, List.flatMap_append, List.append_assoc]
  simp
def ArPost (bm n : Nat) (prs : List (List UInt8 × Nat)) (w : World) (e : Ending) (w' : World) : Prop :=
  ∃ ok : Bool, e = .returned (.bool ok) ∧ w.grownBy w' (some bm) ∧ ∃ D, w'.ownsMap Tryz.prog 9 (plainElem Tryz.prog 3) bm n D ∧ Ar prs ok D
theorem enterOne (args : Array Value) (w : World) : (callFunc 41 args).run Tryz.prog w = .ok (.enter 41 args) w := by kernel_rfl
theorem ArS.mono {w0 : World} {bm bt bo n n' : Nat} {prs : List (List UInt8 × Nat)} {ok : Bool} {w : World} (h : ArS w0 bm bt bo n prs ok w) (hn : n ≤ n') : ArS w0 bm bt bo n' prs ok w :=
  { h with map_ := by obtain ⟨D, h1, h2⟩ := h.map_; exact ⟨D, h1.mono hn, h2⟩ }
theorem ArS.alloc {w0 : World} {bm bt bo n : Nat} {prs : List (List UInt8 × Nat)} {ok : Bool} {w : World} (h : ArS w0 bm bt bo n prs ok w) (o : Obj) : ArS w0 bm bt bo n prs ok (w.alloc o) :=
  ⟨⟨h.grow.os, h.grow.tape, h.grow.output, by have := h.grow.size; simp; omega, fun k hk hne => (Lib.alloc_old w o k (by have := h.grow.size; omega)).trans (h.grow.block k hk hne)⟩, h.lt, h.bt_, h.bo_, h.ne_,
    (Lib.alloc_old w o bt (Array.getElem?_eq_some_iff.1 h.ct).1).trans h.ct, (Lib.alloc_old w o bo (Array.getElem?_eq_some_iff.1 h.co).1).trans h.co, by obtain ⟨D, h1, h2⟩ := h.map_; exact ⟨D, h1.alloc o, h2⟩⟩
/-- A cell of a block that was there stands. -/
theorem ArS.cell {w0 : World} {bm bt bo n : Nat} {prs : List (List UInt8 × Nat)} {ok : Bool} {w : World} (h : ArS w0 bm bt bo n prs ok w) {a : Nat} (ha : a < w0.heap.size) (hne : a ≠ bm) (o : Nat) : w.cell? ⟨a, o, none⟩ = w0.cell? ⟨a, o, none⟩ :=
  World.cell?_of_block (w := w0) (a := ⟨a, o, none⟩) (h.grow.block a ha (fun e => hne (by simpa using e)))
theorem map_cell {w : World} {bm n : Nat} {D : DataW Unit} (h : w.ownsMap Tryz.prog 9 (plainElem Tryz.prog 3) bm n D) (o : Nat) : w.cell? ⟨bm, o, none⟩ = none := by
  obtain ⟨es, clock, hb, _⟩ := h
  simp [World.cell?, hb]
set_option maxHeartbeats 8000000 in
set_option maxRecDepth 100000 in
theorem tArities (d : Nat) (p : ByteArray) (hp : Option Addr) (hc : Nat) (hs : List Ag) (bp : Option Addr) (bc : Nat) (bs : List (Lt d)) (bm n : Nat) (prs : List (List UInt8 × Nat)) (D : DataW Unit) (w : World)
    (hm : w.ownsMap Tryz.prog 9 (plainElem Tryz.prog 3) bm n D) (hA : Ar prs true D) (hbs : LtsAt w d bp bs) (hr : RuR p hs bs) (hn : n ≤ 500000000000) (hl1 : hs.length ≤ 1000000000000) (hl2 : bs.length ≤ 400000000000) (hlt : ∀ x ∈ bs, x.ts.length ≤ 1000000000000) :
    Calls Tryz.prog 17 #[.map (some bm), .agg #[.string p, .slice hp hs.length hc, .slice bp bs.length bc]] w (ArPost bm (n + 1 + bs.length) (prs ++ rpr p hs bs) w) := by
  have hlt0 := hm.lt
  obtain ⟨V, hV⟩ : ∃ V, V = (w.alloc (.cells #[.map (some bm)] 61)).alloc (.cells #[.string p, .slice hp hs.length hc, .slice bp bs.length bc] 41) := ⟨_, rfl⟩
  have hsV : V.heap.size = w.heap.size + 2 := by rw [hV]; simp
  have hgV : w.grownBy V (some bm) := by
    rw [hV]
    exact ⟨rfl, rfl, rfl, by simp; omega, fun k hk _ => by rw [Lib.alloc_old _ _ _ (by simp; omega), Lib.alloc_old _ _ _ hk]⟩
  obtain ⟨W, hW⟩ : ∃ W, W = V.alloc (.cells #[.bool true] 4) := ⟨_, rfl⟩
  have hS : ArS V bm w.heap.size (w.heap.size + 2) n prs true W := by
    rw [hW]
    refine ⟨⟨rfl, rfl, rfl, by simp, fun k hk _ => Lib.alloc_old _ _ _ hk⟩, by omega, by omega, by omega, by omega, ?_, ?_, D, ?_, hA⟩
    · rw [Lib.alloc_old _ _ _ (by omega), hV, Lib.alloc_old _ _ _ (by simp)]
      exact heap_alloc_new w _
    · rw [← hsV]
      exact heap_alloc_new V _
    · refine World.ownsMap.alloc ?_ _
      rw [hV]
      exact (hm.alloc _).alloc _
  have hbx : V.heap[w.heap.size + 1]? = some (.cells #[.string p, .slice hp hs.length hc, .slice bp bs.length bc] 41 (0, 0)) := by
    rw [hV]
    have h := heap_alloc_new (w.alloc (.cells #[.map (some bm)] 61)) (.cells #[.string p, .slice hp hs.length hc, .slice bp bs.length bc] 41)
    simpa using h
  obtain ⟨x0, x1, x2⟩ := three hbx
  have HX0 := Lib.hid x0
  have HX1 := Lib.hid x1
  have HX2 := Lib.hid x2
  have HB0 := Lib.hid (show w.heap.size + 1 < V.heap.size by omega)
  have HBM := Lib.hid (show w.heap.size + 1 ≠ bm by omega)
  have y0 := (hS.cell HB0.out HBM.out 0).trans x0
  have y1 := (hS.cell HB0.out HBM.out 1).trans x1
  have HS := Lib.hid hS; clear hS hbx hsV
  have HGV := Lib.hid hgV; clear hgV
  have hrl1 := hr.hl
  have hrl2 := hr.bl
  unfold maxLen at hrl1 hrl2
  have HR := Lib.hid hr; clear hr
  have HBS := Lib.hid hbs; clear hbs
  have HLT := Lib.hid hlt; clear hlt
  have HN := Lib.hid hn; clear hn
  have HL1 := Lib.hid hl1; clear hl1
  have HL2 := Lib.hid hl2; clear hl2
  have HM0 := Lib.hid hm; clear hm
  clear hA hlt0 x0 x1 x2
  have hmf := makeFn'
  have hF := enterOne
  rw [hW, hV] at y0 y1
  go_enter Tryz.func17, Tryz.ntmps17
  go_wp2_with fail
  rw [← hV, ← hW]
  clear hmf hV y0 y1 hW
  have HX : Hid (∀ ok n' wr prs', ArS V bm w.heap.size (w.heap.size + 2) n' prs' ok wr → n' ≤ n + 1 + bs.length → prs' = prs ++ rpr p hs bs → ArPost bm (n + 1 + bs.length) (prs ++ rpr p hs bs) w (.returned (.bool ok)) wr) := Lib.hid (by
    rintro ok n' wr prs' h h2 rfl
    have hg := HGV.out
    have hg2 := h.grow
    refine ⟨ok, rfl, ⟨hg2.os.trans hg.os, hg2.tape.trans hg.tape, hg2.output.trans hg.output, Nat.le_trans hg.size hg2.size, fun k hk hne => ?_⟩, (h.mono h2).map_⟩
    exact (hg2.block k (by have := hg.size; omega) hne).trans (hg.block k hk hne))
  obtain ⟨pz, hpz⟩ : ∃ pz, pz = prs ++ rpr p hs bs := ⟨_, rfl⟩
  rw [← hpz] at HX ⊢
  have HPZ := Lib.hid (show pz = (prs ++ [(bl p, hs.length)]) ++ bs.flatMap lpr by rw [hpz]; unfold rpr; simp)
  have HPY := Lib.hid hpz; clear hpz
  refine (tOne V bm w.heap.size (w.heap.size + 2) n prs true p hs.length W HS.out (by have := HN.out; omega) HL1.out HR.out.p_).mono ?_
  rintro e w1 ⟨rfl, ok1, hs1⟩
  have y2 := (hs1.cell HB0.out HBM.out 2).trans HX2.out
  have HS1 := Lib.hid hs1; clear hs1 HS
  obtain ⟨p1, hp1⟩ : ∃ p1, p1 = prs ++ [(bl p, hs.length)] := ⟨_, rfl⟩
  rw [← hp1] at HS1 HPZ
  clear hp1
  go_wp2_with fail
  clear y2
  go_loopw [8, 20] (fun _ i wr => ∃ k : Nat, k ≤ bs.length ∧ i = .int .i64 k ∧ ∃ ok, ArS V bm w.heap.size (w.heap.size + 2) (n + 1 + k) (p1 ++ (bs.take k).flatMap lpr) ok wr) (fun _ i _ => bs.length - (intOf i).toNat)
  case atStart => exact ⟨0, by omega, rfl, ok1, by simpa using HS1.out⟩
  case round =>
    obtain ⟨k, hk, rfl, ok, hrel⟩ := hrel
    have HSK := Lib.hid hrel; clear hrel
    by_cases hlt : k < bs.length
    · rcases HBS.out.1 with h0 | ⟨a2, o2, rfl, ha2, hck⟩
      · omega
      · have hk0 : (0 : Int) ≤ (k : Int) := by omega
        have hki : (k : Int) < (bs.length : Int) := by omega
        have hne2 : a2 ≠ bm := fun e => by
          have h1 := (hck 0 (by omega)).c0
          rw [e, map_cell HM0.out] at h1
          cases h1
        have hck' := hck k hlt
        have HXA := Lib.hid (HBS.out.2 _ (List.getElem_mem hlt))
        have HLk := Lib.hid (HLT.out _ (List.getElem_mem hlt))
        have HRk := Lib.hid (HR.out.b_ _ (List.getElem_mem hlt)).p_
        have HQ := Lib.hid (flat_snoc' lpr bs k hlt p1)
        clear hck
        obtain ⟨x, hx⟩ : ∃ x, x = bs[k] := ⟨_, rfl⟩
        rw [← hx] at hck' HQ HXA HLk HRk
        clear hx
        have hgr : ∀ o, wr.cell? ⟨a2, o, none⟩ = w.cell? ⟨a2, o, none⟩ := fun o => by
          have h1 := HSK.out.cell (a := a2) (by have := HB0.out; omega) hne2 o
          exact h1.trans (World.cell?_of_block (w := w) (a := ⟨a2, o, none⟩) (HGV.out.block a2 ha2 (fun e => hne2 (by simpa using e))))
        obtain ⟨y0, y1, y2, y3, y4, y5, y6, y7, y8, y9, y10, y11, y12, y13, y14, y15⟩ := hck'
        rw [← hgr] at y0 y1 y2 y3 y4 y5 y6 y7 y8 y9 y10 y11 y12 y13 y14 y15
        obtain ⟨q, cq, hsv, hm, hts⟩ := HXA.out.at_
        unfold maxLen at hm
        rw [hsv] at y2
        clear hsv hts hgr
        obtain ⟨pl, cl, hsl⟩ := ex_sl2 HXA.out.l_
        obtain ⟨pg, cg, hsg⟩ := ex_sl2 HXA.out.g_
        rw [hsl] at y9
        rw [hsg] at y15
        clear hsl hsg
        obtain ⟨U, hU⟩ : ∃ U, U = wr.alloc (.cells #[.int .i8 x.k, .string x.p, .slice q x.ts.length cq, .int .i8 x.r, .int .i8 (exOp d x.l), .string (exTm d x.l).v, .int .i8 (exTm d x.l).x.k, .int .i64 (exTm d x.l).x.n, .string (exTm d x.l).x.t, .slice pl (exLen d x.l) cl, .int .i8 (exOp d x.g), .string (exTm d x.g).v, .int .i8 (exTm d x.g).x.k, .int .i64 (exTm d x.g).x.n, .string (exTm d x.g).x.t, .slice pg (exLen d x.g) cg] 114) := ⟨_, rfl⟩
        obtain ⟨v0, v1, v2, v3, v4, v5, v6, v7, v8, v9, v10, v11, v12, v13, v14, v15⟩ := sixteen (show U.heap[wr.heap.size]? = some (.cells #[.int .i8 x.k, .string x.p, .slice q x.ts.length cq, .int .i8 x.r, .int .i8 (exOp d x.l), .string (exTm d x.l).v, .int .i8 (exTm d x.l).x.k, .int .i64 (exTm d x.l).x.n, .string (exTm d x.l).x.t, .slice pl (exLen d x.l) cl, .int .i8 (exOp d x.g), .string (exTm d x.g).v, .int .i8 (exTm d x.g).x.k, .int .i64 (exTm d x.g).x.n, .string (exTm d x.g).x.t, .slice pg (exLen d x.g) cg] 114 (0, 0)) by rw [hU]; exact heap_alloc_new wr _)
        have HSU := Lib.hid (show ArS V bm w.heap.size (w.heap.size + 2) (n + 1 + k) (p1 ++ (bs.take k).flatMap lpr) ok U by rw [hU]; exact HSK.out.alloc _)
        clear v3 v4 v5 v6 v7 v8 v9 v10 v11 v12 v13 v14 v15
        rw [hU] at v0 v1 v2
        rcases q3 : (x.k == 3) with _ | _
        · have HL : Hid (lpr x = [(bl x.p, x.ts.length)]) := Lib.hid (by unfold lpr; rw [if_neg (by simpa using q3)])
          go_wp2_with fail
          rw [← hU]
          clear hU v0 v1 v2 y0 y1 y2 y3 y4 y5 y6 y7 y8 y9 y10 y11 y12 y13 y14 y15
          refine (tOne V bm w.heap.size (w.heap.size + 2) _ _ ok x.p x.ts.length U HSU.out (by have := HN.out; have := HL2.out; omega) HLk.out HRk.out).mono ?_
          rintro e w2 ⟨rfl, ok2, hs2⟩
          have HR2 : Hid (ArS V bm w.heap.size (w.heap.size + 2) (n + 1 + (k + 1)) (p1 ++ (bs.take (k + 1)).flatMap lpr) ok2 w2) := Lib.hid (by rw [← HQ.out, HL.out]; exact hs2.mono (by omega))
          clear hs2
          go_wp2_with fail
          go_roundw
          case rel => exact ⟨k + 1, by omega, by go_num, ok2, HR2.out⟩
          case measure => simp [intOf]; omega
        · have HL : Hid (lpr x = []) := Lib.hid (by unfold lpr; rw [if_pos (by simpa using q3)])
          go_wp2_with fail
          rw [← hU]
          clear hU v0 v1 v2 y0 y1 y2 y3 y4 y5 y6 y7 y8 y9 y10 y11 y12 y13 y14 y15
          have HR2 : Hid (ArS V bm w.heap.size (w.heap.size + 2) (n + 1 + (k + 1)) (p1 ++ (bs.take (k + 1)).flatMap lpr) ok U) := Lib.hid (by rw [← HQ.out, HL.out, List.append_nil]; exact HSU.out.mono (by omega))
          go_roundw
          case rel => exact ⟨k + 1, by omega, by go_num, ok, HR2.out⟩
          case measure => simp [intOf]; omega
    · obtain rfl : k = bs.length := by omega
      have c1 : wr.cell? ⟨w.heap.size + 2, 0, none⟩ = some (.bool ok) := by rw [Lib.cell_of_heap HSK.out.co]; rfl
      have HE := Lib.hid (HX.out ok _ wr _ HSK.out (by omega) (by rw [HPZ.out, List.take_of_length_le (Nat.le_refl _)]))
      go_wp2_with fail
      go_ret
      rw [← HPY.out]
      exact HE.out
end Go.Proofs.YtafjjececdhmjaaGreat
