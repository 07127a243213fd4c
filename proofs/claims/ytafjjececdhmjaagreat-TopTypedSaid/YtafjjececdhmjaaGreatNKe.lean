/- The variables of atoms, expressions, rules, as lists in memory: the contracts of term.AtomVars, ExprVars, RuleVars. What a body limits, as it is found: the contracts of found.has, found.all, found.add. The contract of found.add. Conditions: the thing lies in memory as it is told; at most 10000 terms. the list and the map lie in memory as they are told. -/
import Derived.Test.YtafjjececdhmjaaGreatNS6
namespace Go.Proofs.YtafjjececdhmjaaGreat
open Go.RowKit Go.Maps

/-- A list of texts that lies in memory, in a block not below B. -/
def SsAt (w : World) (B : Nat) (p : Option Addr) (l : List (List UInt8)) : Prop :=
  l.length = 0 ∨ ∃ a o, p = some ⟨a, o, none⟩ ∧ B ≤ a ∧ a < w.heap.size ∧ ∀ i, (h : i < l.length) → w.cell? ⟨a, o + i, none⟩ = some (.string ⟨l[i].toArray⟩)
theorem SsAt.up {w w' : World} {B : Nat} {p : Option Addr} {l : List (List UInt8)} (h : SsAt w B p l) (hb : Below w.heap.size w w') : SsAt w' B p l := by
  rcases h with h0 | ⟨a, o, hp, hB, ha, hc⟩
  · exact .inl h0
  · exact .inr ⟨a, o, hp, hB, Nat.lt_of_lt_of_le ha hb.size, fun i hi => (hb.cell (p := ⟨a, o + i, none⟩) ha).trans (hc i hi)⟩
theorem ss_own {w : World} {B : Nat} {p : Option Addr} {n c : Nat} {l : List (List UInt8)} (h : w.ownsRowF B 9 1 (.slice p n c) l.length (strVs l)) : SsAt w B p l := by
  rcases h.2 with ⟨_, hn⟩ | ⟨g, cap, cur, fz, hv, hB, hg, _, h1, _, h2, h3⟩
  · exact .inl hn
  · injection hv with hv _ _
    refine .inr ⟨g, 0, hv, hB, (Array.getElem?_eq_some_iff.1 hg).1, fun i hi => ?_⟩
    rw [Lib.cell_of_heap hg]
    have e1 : (cur.toList.take (l.length * 1))[i]? = (strVs l)[i]? := by rw [h3]
    rw [List.getElem?_take_of_lt (by omega)] at e1
    simp only [strVs, List.getElem?_map, List.getElem?_eq_getElem hi, Option.map_some] at e1
    show cur[0 + i]? = _
    rw [Nat.zero_add, ← Array.getElem?_toList]
    exact e1
/-- What a call leaves that gathers variables. -/
def VlPost (l : List (List UInt8)) (w : World) (e : Ending) (w' : World) : Prop := ∃ p c, e = .returned (.slice p l.length c) ∧ Below w.heap.size w w' ∧ SsAt w' w.heap.size p l
set_option maxHeartbeats 8000000 in
set_option maxRecDepth 100000 in
theorem tVarsL (x : Value) (ts : List Tm) (w : World) (hx : ∀ bt bl' W, VS w bt bl' [] W → Calls Tryz.prog 107 #[x, gath bt bl'] W (WkPost w bt bl' (varsL ts))) :
    Calls Tryz.prog 77 #[x] w (VlPost (varsL ts) w) := by
  have hmm := @run_makeMap Tryz.prog
  have hmf := makeFn'
  obtain ⟨l, hl⟩ : ∃ l, l = varsL ts := ⟨_, rfl⟩
  rw [← hl] at hx ⊢
  have HX := Lib.hid hx; clear hx hl
  obtain ⟨n, hnn⟩ : ∃ n, n = l.length := ⟨_, rfl⟩
  have HNN := Lib.hid hnn; clear hnn
  go_enter Tryz.func77, Tryz.ntmps77
  go_wp2_with fail
  clear hmm hmf
  have HS := Lib.hid (vs_start w)
  obtain ⟨W, hW⟩ : ∃ W, W = (((w.alloc (.cells #[.slice none 0 0] 85)).alloc (.map #[] 0)).alloc (.cells #[.map (some (w.heap.size + 1))] 61)) := ⟨_, rfl⟩
  rw [← hW] at HS ⊢
  clear hW
  refine (HX.out _ _ W HS.out).mono ?_
  rintro e w1 ⟨rfl, hv⟩
  obtain ⟨sv, hl, ho⟩ := hv.list
  have HV := Lib.hid hv.below; clear hv
  obtain ⟨ps, cs, rfl⟩ := own_slice1 ho
  have HO := Lib.hid (ss_own ho)
  have y0 : w1.cell? ⟨w.heap.size, 0, none⟩ = some (.slice ps l.length cs) := by rw [Lib.cell_of_heap hl]; rfl
  clear hl ho
  rw [← HNN.out] at y0
  go_wp2_with fail
  go_ret
  exact ⟨ps, cs, by rw [HNN.out]; rfl, HV.out, HO.out⟩
set_option maxHeartbeats 4000000 in
theorem tRuleVarsL (d : Nat) (p : ByteArray) (hp : Option Addr) (hc : Nat) (hs : List Ag) (bp : Option Addr) (bc : Nat) (bs : List (Lt d)) (w : World)
    (hh : AgsAt w hp hs) (hb : LtsAt w d bp bs) (hr : RuR p hs bs) (hn : (ruTms hs bs).length ≤ 10000) :
    Calls Tryz.prog 40 #[.agg #[.string p, .slice hp hs.length hc, .slice bp bs.length bc]] w (VlPost (varsL (ruTms hs bs)) w) := by
  obtain ⟨W, hW⟩ : ∃ W, W = w.alloc (.cells #[.string p, .slice hp hs.length hc, .slice bp bs.length bc] 41) := ⟨_, rfl⟩
  have HBW := Lib.hid (show Below w.heap.size w W by rw [hW]; exact below_alloc _ _)
  have hsW : W.heap.size = w.heap.size + 1 := by rw [hW]; simp
  have HCALL := Lib.hid (tVarsL (.iface 165 (.pointer (some ⟨w.heap.size, 0, none⟩))) (ruTms hs bs) W fun bt bl' W2 hv => wRule W bt bl' d p hp hc hs bp bc bs w.heap.size W2 hv (by rw [hW]; exact heap_alloc_new w _) (hh.up HBW.out) (hb.up HBW.out) hr hn)
  clear hh hb hr hn
  obtain ⟨l, hl⟩ : ∃ l, l = varsL (ruTms hs bs) := ⟨_, rfl⟩
  rw [← hl] at HCALL ⊢
  clear hl
  go_enter Tryz.func40, Tryz.ntmps40
  go_wp2_with fail
  rw [← hW]
  clear hW
  refine HCALL.out.mono ?_
  rintro e w1 ⟨ps, cs, rfl, hb, hss⟩
  have HB := Lib.hid hb; clear hb
  have HSS := Lib.hid (show SsAt w1 w.heap.size ps l by
    rcases hss with h0 | ⟨a, o, h1, h2, h3⟩
    · exact .inl h0
    · exact .inr ⟨a, o, h1, by omega, h3⟩)
  clear hss
  obtain ⟨n, hnn⟩ : ∃ n, n = l.length := ⟨_, rfl⟩
  rw [← hnn]
  have HNN := Lib.hid hnn; clear hnn
  go_wp2_with fail
  go_ret
  exact ⟨ps, cs, by rw [HNN.out]; rfl, HBW.out.trans (HB.out.mono (by omega)), HSS.out⟩
set_option maxHeartbeats 4000000 in
theorem tAtomVarsL (p : ByteArray) (sv : Value) (ts : List Tm) (w : World) (hts : TmSl w sv ts) (hr : TmsR ts) (hn : ts.length ≤ 10000) :
    Calls Tryz.prog 71 #[.agg #[.string p, sv]] w (VlPost (varsL ts) w) := by
  obtain ⟨q, cap, hsv, hm, hat⟩ := hts
  subst hsv
  obtain ⟨W, hW⟩ : ∃ W, W = w.alloc (.cells #[.string p, .slice q ts.length cap] 26) := ⟨_, rfl⟩
  have HBW := Lib.hid (show Below w.heap.size w W by rw [hW]; exact below_alloc _ _)
  have hsW : W.heap.size = w.heap.size + 1 := by rw [hW]; simp
  have hbx : W.heap[w.heap.size]? = some (.cells #[.string p, .slice q ts.length cap] 26 (0, 0)) := by rw [hW]; exact heap_alloc_new w _
  have HCALL := Lib.hid (tVarsL (.iface 190 (.pointer (some ⟨w.heap.size, 0, none⟩))) ts W fun bt bl' W2 hv => wAtom W bt bl' [] ts (.slice q ts.length cap) w.heap.size 0 W2 hv (by rw [Lib.cell_of_heap hbx]; rfl) (by omega) ((show TmSl w (.slice q ts.length cap) ts from ⟨q, cap, rfl, hm, hat⟩).up HBW.out) hr (by simpa using hn))
  clear hm hat hr hn hbx
  obtain ⟨l, hl⟩ : ∃ l, l = varsL ts := ⟨_, rfl⟩
  rw [← hl] at HCALL ⊢
  clear hl
  go_enter Tryz.func71, Tryz.ntmps71
  go_wp2_with fail
  rw [← hW]
  clear hW
  refine HCALL.out.mono ?_
  rintro e w1 ⟨ps, cs, rfl, hb, hss⟩
  have HB := Lib.hid hb; clear hb
  have HSS := Lib.hid (show SsAt w1 w.heap.size ps l by
    rcases hss with h0 | ⟨a, o, h1, h2, h3⟩
    · exact .inl h0
    · exact .inr ⟨a, o, h1, by omega, h3⟩)
  clear hss
  obtain ⟨n, hnn⟩ : ∃ n, n = l.length := ⟨_, rfl⟩
  rw [← hnn]
  have HNN := Lib.hid hnn; clear hnn
  go_wp2_with fail
  go_ret
  exact ⟨ps, cs, by rw [HNN.out]; rfl, HBW.out.trans (HB.out.mono (by omega)), HSS.out⟩
set_option maxHeartbeats 4000000 in
theorem tExprVarsL (d : Nat) (x : Ex d) (w : World) (hat : ExAt w d x) (hr : ExR d x) (hn : (exTms d x).length ≤ 10000) :
    Calls Tryz.prog 73 #[.agg #[.int .i8 (exOp d x), .string (exTm d x).v, .int .i8 (exTm d x).x.k, .int .i64 (exTm d x).x.n, .string (exTm d x).x.t, exSl d x]] w (VlPost (varsL (exTms d x)) w) := by
  obtain ⟨px, cx, hsl⟩ := ex_sl2 hat
  obtain ⟨W, hW⟩ : ∃ W, W = w.alloc (.cells #[.int .i8 (exOp d x), .string (exTm d x).v, .int .i8 (exTm d x).x.k, .int .i64 (exTm d x).x.n, .string (exTm d x).x.t, .slice px (exLen d x) cx] 112) := ⟨_, rfl⟩
  have HBW := Lib.hid (show Below w.heap.size w W by rw [hW]; exact below_alloc _ _)
  have hsW : W.heap.size = w.heap.size + 1 := by rw [hW]; simp
  have hbx : W.heap[w.heap.size]? = some (.cells #[.int .i8 (exOp d x), .string (exTm d x).v, .int .i8 (exTm d x).x.k, .int .i64 (exTm d x).x.n, .string (exTm d x).x.t, .slice px (exLen d x) cx] 112 (0, 0)) := by rw [hW]; exact heap_alloc_new w _
  have hcell : ExCell W w.heap.size 0 (exOp d x) (exTm d x) (exSl d x) := by
    rw [hsl]
    exact ⟨by rw [Lib.cell_of_heap hbx]; rfl, by rw [Lib.cell_of_heap hbx]; rfl, by rw [Lib.cell_of_heap hbx]; rfl, by rw [Lib.cell_of_heap hbx]; rfl, by rw [Lib.cell_of_heap hbx]; rfl, by rw [Lib.cell_of_heap hbx]; rfl⟩
  have HCALL := Lib.hid (tVarsL (.iface 191 (.pointer (some ⟨w.heap.size, 0, none⟩))) (exTms d x) W fun bt bl' W2 hv => wExpr W bt bl' d x [] w.heap.size 0 W2 hv hcell (by omega) (ExAt.up HBW.out d x hat) hr (by simpa using hn))
  clear hr hn hbx hcell hat
  rw [hsl]
  clear hsl
  obtain ⟨l, hl⟩ : ∃ l, l = varsL (exTms d x) := ⟨_, rfl⟩
  rw [← hl] at HCALL ⊢
  clear hl
  go_enter Tryz.func73, Tryz.ntmps73
  go_wp2_with fail
  rw [← hW]
  clear hW
  refine HCALL.out.mono ?_
  rintro e w1 ⟨ps, cs, rfl, hb, hss⟩
  have HB := Lib.hid hb; clear hb
  have HSS := Lib.hid (show SsAt w1 w.heap.size ps l by
    rcases hss with h0 | ⟨a, o, h1, h2, h3⟩
    · exact .inl h0
    · exact .inr ⟨a, o, h1, by omega, h3⟩)
  clear hss
  obtain ⟨n, hnn⟩ : ∃ n, n = l.length := ⟨_, rfl⟩
  rw [← hnn]
  have HNN := Lib.hid hnn; clear hnn
  go_wp2_with fail
  go_ret
  exact ⟨ps, cs, by rw [HNN.out]; rfl, HBW.out.trans (HB.out.mono (by omega)), HSS.out⟩
end Go.Proofs.YtafjjececdhmjaaGreat

namespace Go.Proofs.YtafjjececdhmjaaGreat
open Go.RowKit Go.Maps

/-- What work on blocks of its own leaves. -/
structure Ofr (own own' : Nat → Prop) (w w' : World) : Prop where
  os : w'.os = w.os
  tape : w'.tape = w.tape
  output : w'.output = w.output
  size : w.heap.size ≤ w'.heap.size
  block : ∀ k, k < w.heap.size → ¬ own k → w'.heap[k]? = w.heap[k]?
  grow : ∀ k, own' k → own k ∨ w.heap.size ≤ k
theorem Ofr.refl (own : Nat → Prop) (w : World) : Ofr own own w w := ⟨rfl, rfl, rfl, Nat.le_refl _, fun _ _ _ => rfl, fun _ h => .inl h⟩
theorem Ofr.trans {o o1 o2 : Nat → Prop} {a b c : World} (h : Ofr o o1 a b) (k : Ofr o1 o2 b c) : Ofr o o2 a c :=
  ⟨k.os.trans h.os, k.tape.trans h.tape, k.output.trans h.output, Nat.le_trans h.size k.size, fun i hi hn => by
    have h1 : ¬ o1 i := fun h1 => by
      rcases h.grow i h1 with h2 | h2
      · exact hn h2
      · omega
    have := h.size
    exact (k.block i (by omega) h1).trans (h.block i hi hn), fun i hi => by
    have := h.size
    rcases k.grow i hi with h1 | h1
    · exact h.grow i h1
    · exact .inr (by omega)⟩
theorem Ofr.of_below {own : Nat → Prop} {w w' : World} (h : Below w.heap.size w w') : Ofr own own w w' := ⟨h.os, h.tape, h.output, h.size, fun k hk _ => h.block k hk, fun _ h => .inl h⟩
theorem Ofr.off {own own' : Nat → Prop} {w w' : World} (h : Ofr own own' w w') {a : Nat} (ha : a < w.heap.size) (hn : ¬ own a) : ¬ own' a ∧ w'.heap[a]? = w.heap[a]? :=
  ⟨fun h1 => by
    rcases h.grow a h1 with h2 | h2
    · exact hn h2
    · omega, h.block a ha hn⟩
theorem Ofr.below {own own' : Nat → Prop} {w w' : World} {B : Nat} (h : Ofr own own' w w') (hB : B ≤ w.heap.size) (hl : ∀ k, own k → B ≤ k) : Below B w w' :=
  ⟨h.os, h.tape, h.output, h.size, fun k hk => h.block k (by omega) fun hn => by have := hl k hn; omega⟩
/-- A list of texts that lies in blocks of others. -/
def SsOff (own : Nat → Prop) (w : World) (p : Option Addr) (l : List (List UInt8)) : Prop :=
  l.length = 0 ∨ ∃ a o, p = some ⟨a, o, none⟩ ∧ ¬ own a ∧ a < w.heap.size ∧ ∀ i, (h : i < l.length) → w.cell? ⟨a, o + i, none⟩ = some (.string ⟨l[i].toArray⟩)
theorem SsOff.step {own own' : Nat → Prop} {w w' : World} {p : Option Addr} {l : List (List UInt8)} (h : SsOff own w p l) (k : Ofr own own' w w') : SsOff own' w' p l := by
  rcases h with h0 | ⟨a, o, hp, hB, ha, hc⟩
  · exact .inl h0
  · obtain ⟨h1, h2⟩ := k.off ha hB
    exact .inr ⟨a, o, hp, h1, Nat.lt_of_lt_of_le ha k.size, fun i hi => (World.cell?_of_block (w := w) (a := ⟨a, o + i, none⟩) h2).trans (hc i hi)⟩
theorem SsAt.offOf {own : Nat → Prop} {w : World} {B : Nat} {p : Option Addr} {l : List (List UInt8)} (h : SsAt w B p l) (hl : ∀ k, own k → k < B) : SsOff own w p l := by
  rcases h with h0 | ⟨a, o, hp, hB, ha, hc⟩
  · exact .inl h0
  · exact .inr ⟨a, o, hp, fun h1 => by have := hl a h1; omega, ha, hc⟩
/-- What has been found: a list, a map of numbers, both in blocks of their own. -/
structure Fnd (B : Nat) (own : Nat → Prop) (b : Nat) (acc : List (List UInt8)) (w : World) : Prop where
  lo : ∀ k, own k → B ≤ k ∧ k < w.heap.size
  base : B ≤ w.heap.size
  ob : own b
  st : ∃ bm D sv, w.heap[b]? = some (.cells #[sv, .map (some bm)] 153 (0, 0)) ∧ own bm ∧ w.ownsMap Tryz.prog 9 (plainElem Tryz.prog 3) bm acc.length D ∧ ThereD D acc ∧ w.ownsRowF B 9 1 sv acc.length (strVs acc) ∧ ∀ g, sv.ownBlock = some g → own g
theorem Fnd.off {B : Nat} {own : Nat → Prop} {b : Nat} {acc : List (List UInt8)} {w w' : World} (h : Fnd B own b acc w) (hs : w.heap.size ≤ w'.heap.size) (hb : ∀ k, own k → w'.heap[k]? = w.heap[k]?) : Fnd B own b acc w' := by
  obtain ⟨bm, D, sv, h1, h2, ⟨es, clock, h3, h4⟩, h5, h6, h7⟩ := h.st
  refine ⟨fun k hk => ⟨(h.lo k hk).1, Nat.lt_of_lt_of_le (h.lo k hk).2 hs⟩, Nat.le_trans h.base hs, h.ob, bm, D, sv, (hb b h.ob).trans h1, h2, ⟨es, clock, (hb bm h2).trans h3, h4⟩, h5, ⟨h6.1, ?_⟩, h7⟩
  rcases h6.2 with h8 | ⟨g, cap, cur, fz, hv, hB, hg, h9⟩
  · exact .inl h8
  · exact .inr ⟨g, cap, cur, fz, hv, hB, (hb g (h7 g (by rw [hv]; rfl))).trans hg, h9⟩
theorem Fnd.below {B : Nat} {own : Nat → Prop} {b : Nat} {acc : List (List UInt8)} {w w' : World} (h : Fnd B own b acc w) (hb : Below w.heap.size w w') : Fnd B own b acc w' := h.off hb.size fun k hk => hb.block k (h.lo k hk).2
set_option maxHeartbeats 2000000 in
theorem tHas {B : Nat} {own : Nat → Prop} {b : Nat} {acc : List (List UInt8)} {w : World} (h : Fnd B own b acc w) (v : ByteArray) (hv : v.size ≤ maxLen) :
    Calls Tryz.prog 76 #[.pointer (some ⟨b, 0, none⟩), .string v] w (fun e w' => e = .returned (.bool (acc.contains (bl v))) ∧ w' = w) := by
  obtain ⟨bm, D, sv, h1, h2, h3, h4, h5, h6⟩ := h.st
  obtain ⟨c, hcd, hlk⟩ := look_c h3 h4 v hv
  have hlk := hlk 0
  have c1 : w.cell? ⟨b, 1, none⟩ = some (.map (some bm)) := by rw [Lib.cell_of_heap h1]; rfl
  have hlk' : (Instr.lookup 61 (.map (some bm)) (.string v) false).run Tryz.prog w = .ok (.int .i64 c) w := hlk
  clear h h1 h2 h3 h4 h5 h6 hlk hv
  have HD := Lib.hid hcd; clear hcd
  go_enter Tryz.func76, Tryz.ntmps76
  go_wp2_with fail
  go_ret
  exact ⟨ret_bool HD.out, rfl⟩
set_option maxHeartbeats 4000000 in
set_option maxRecDepth 100000 in
theorem tAllF {B : Nat} {own : Nat → Prop} {b : Nat} {acc : List (List UInt8)} {w : World} (h : Fnd B own b acc w) (p : Option Addr) (c : Nat) (l : List (List UInt8)) (hs : SsOff own w p l) (hl : l.length ≤ 10000) (hv : ∀ v ∈ l, v.length ≤ maxLen) :
    Calls Tryz.prog 39 #[.pointer (some ⟨b, 0, none⟩), .slice p l.length c] w (fun e w' => e = .returned (.bool (l.all acc.contains)) ∧ w' = w) := by
  have HF := Lib.hid h; clear h
  have HS := Lib.hid hs; clear hs
  have HV := Lib.hid hv; clear hv
  obtain ⟨r, hr⟩ : ∃ r, r = l.all acc.contains := ⟨_, rfl⟩
  rw [← hr]
  have HR := Lib.hid hr; clear hr
  go_enter Tryz.func39, Tryz.ntmps39
  go_wp2_with fail
  go_loopw [6, 9] (fun _ i wr => ∃ k : Nat, k ≤ l.length ∧ i = .int .i64 k ∧ wr = w ∧ (l.take k).all acc.contains = true) (fun _ i _ => l.length - (intOf i).toNat)
  case atStart => exact ⟨0, by omega, rfl, rfl, rfl⟩
  case round =>
    obtain ⟨k, hk, rfl, rfl, hall⟩ := hrel
    have HA := Lib.hid hall; clear hall
    by_cases hlt : k < l.length
    · rcases HS.out with h0 | ⟨a, o, rfl, hna, ha, hck⟩
      · omega
      · have hk0 : (0 : Int) ≤ (k : Int) := by omega
        have hki : (k : Int) < (l.length : Int) := by omega
        have y0 := hck k hlt
        have HC := Lib.hid (tHas HF.out ⟨l[k].toArray⟩ (by simpa [ByteArray.size] using HV.out _ (List.getElem_mem hlt)))
        have HT := Lib.hid (show ∀ x, x = acc.contains (bl ⟨l[k].toArray⟩) → (l.take (k + 1)).all acc.contains = x from fun x hx => by
          have h9 := HA.out
          rw [List.take_succ_eq_append_getElem hlt, List.all_append, h9, hx]
          simp [bl])
        obtain ⟨x, hx⟩ : ∃ x, x = acc.contains (bl ⟨l[k].toArray⟩) := ⟨_, rfl⟩
        have HT1 := Lib.hid (HT.out x hx)
        rw [← hx] at HC
        clear hck hx HT
        cases x with
        | false =>
          go_wp2_with fail
          refine HC.out.mono ?_
          rintro e w1 ⟨rfl, rfl⟩
          go_wp2_with fail
          go_ret
          refine ⟨ret_bool ?_, rfl⟩
          rw [HR.out]
          have h9 := HT1.out
          symm
          rw [Bool.eq_false_iff] at h9 ⊢
          exact fun h8 => h9 (List.all_eq_true.2 fun u hu => List.all_eq_true.1 h8 u (List.mem_of_mem_take hu))
        | true =>
          go_wp2_with fail
          refine HC.out.mono ?_
          rintro e w1 ⟨rfl, rfl⟩
          go_wp2_with fail
          go_roundw
          case rel => exact ⟨k + 1, by omega, by go_num, by first | exact rfl | trivial, HT1.out⟩
          case measure => simp [intOf]; omega
    · obtain rfl : k = l.length := by omega
      go_wp2_with fail
      go_ret
      refine ⟨ret_bool ?_, rfl⟩
      rw [HR.out]
      have h9 := HA.out
      rw [List.take_of_length_le (Nat.le_refl _)] at h9
      exact h9.symm
end Go.Proofs.YtafjjececdhmjaaGreat

namespace Go.Proofs.YtafjjececdhmjaaGreat
open Go.RowKit Go.Maps

def addN (acc : List (List UInt8)) (v : List UInt8) : List (List UInt8) := if acc.contains v then acc else acc ++ [v]
def addL (acc l : List (List UInt8)) : List (List UInt8) := l.foldl addN acc
theorem addN_len (acc : List (List UInt8)) (v : List UInt8) : acc.length ≤ (addN acc v).length ∧ (addN acc v).length ≤ acc.length + 1 := by
  unfold addN
  split <;> simp
theorem addL_len (l : List (List UInt8)) : ∀ acc, acc.length ≤ (addL acc l).length ∧ (addL acc l).length ≤ acc.length + l.length := by
  induction l with
  | nil => intro acc; simp [addL]
  | cons v r ih =>
    intro acc
    have h1 := addN_len acc v
    have h2 := ih (addN acc v)
    simp only [addL, List.foldl_cons, List.length_cons] at h2 ⊢
    omega
theorem addL_take (acc l : List (List UInt8)) (k : Nat) (h : k < l.length) : addL acc (l.take (k + 1)) = addN (addL acc (l.take k)) l[k] := by
  unfold addL
  rw [List.take_succ_eq_append_getElem h, List.foldl_append]
  rfl
/-- The list's row has grown. -/
theorem fnd_row {B : Nat} {own : Nat → Prop} {b bm n : Nat} {w w2 : World} {sv v' : Value} {v : ByteArray} {xs ys : List Value} {D : DataW Unit} (hlo : ∀ k, own k → B ≤ k ∧ k < w.heap.size) (hob : own b) (h1 : w.heap[b]? = some (.cells #[sv, .map (some bm)] 153 (0, 0))) (h2 : own bm)
    (h3 : w.ownsMap Tryz.prog 9 (plainElem Tryz.prog 3) bm n D) (h5 : w.ownsRowF B 9 1 sv n xs) (h6 : ∀ g, sv.ownBlock = some g → own g)
    (hg : (w.alloc (.cells #[.string v] 9)).grownBy w2 sv.ownBlock) (hown : w2.ownsRowF B 9 1 v' (n + 1) ys) (hpl : ∀ g, v'.ownBlock = some g → sv.ownBlock = some g ∨ w.heap.size + 1 ≤ g) :
    w2.heap[b]? = some (.cells #[sv, .map (some bm)] 153 (0, 0)) ∧ (w2.setCell ⟨b, 0, none⟩ v').heap[b]? = some (.cells #[v', .map (some bm)] 153 (0, 0)) ∧ (w2.setCell ⟨b, 0, none⟩ v').ownsMap Tryz.prog 9 (plainElem Tryz.prog 3) bm n D ∧
      (w2.setCell ⟨b, 0, none⟩ v').ownsRowF B 9 1 v' (n + 1) ys ∧ b ≠ bm ∧ (∀ g, v'.ownBlock = some g → g ≠ bm ∧ g ≠ b ∧ (own g ∨ (w.heap.size ≤ g ∧ g < w2.heap.size))) ∧ Ofr own (fun k => own k ∨ (w.heap.size ≤ k ∧ k < w2.heap.size)) w (w2.setCell ⟨b, 0, none⟩ v') := by
  have hsz : (w.alloc (.cells #[.string v] 9)).heap.size = w.heap.size + 1 := by simp
  have hsz2 := hg.size
  have hbs := (hlo b hob).2
  have hms := (hlo bm h2).2
  have hneb : ∀ k, k = b → some k ≠ sv.ownBlock := fun k e1 e => Lib.ownBlock_neF h5 h1 (by decide) (by rw [← e, e1])
  obtain ⟨es, clock, hm, hrest⟩ := h3
  have hnem : some bm ≠ sv.ownBlock := by
    intro e
    rcases h5.2 with ⟨hv, _⟩ | ⟨g, cap, cur, fz, hv, _, hg2, _⟩
    · rw [hv] at e; cases e
    · rw [hv] at e
      obtain rfl : bm = g := by simpa [Value.ownBlock] using e
      rw [hm] at hg2
      cases hg2
  have hbm : b ≠ bm := by
    rintro rfl
    rw [hm] at h1
    cases h1
  have ha : ∀ k, k < w.heap.size → some k ≠ sv.ownBlock → w2.heap[k]? = w.heap[k]? := fun k hk hne => (hg.block k (by omega) hne).trans (Lib.alloc_old w _ k hk)
  have hb2 := (ha b hbs (hneb b rfl)).trans h1
  have hm2 := (ha bm hms hnem).trans hm
  have hset : ∀ k, k ≠ b → (w2.setCell ⟨b, 0, none⟩ v').heap[k]? = w2.heap[k]? := fun k hk => Below.heap_setCell w2 ⟨b, 0, none⟩ _ k hk
  have hvb : v'.ownBlock ≠ some b := Lib.ownBlock_neF hown hb2 (by decide)
  have hplace : ∀ g, v'.ownBlock = some g → g ≠ bm ∧ g ≠ b ∧ (own g ∨ (w.heap.size ≤ g ∧ g < w2.heap.size)) := by
    intro g hgv
    refine ⟨?_, ?_, ?_⟩
    · rintro rfl
      rcases hown.2 with ⟨hv, _⟩ | ⟨g', cap, cur, fz, hv, _, hg2, _⟩
      · rw [hv] at hgv; cases hgv
      · rw [hv] at hgv
        obtain rfl : g' = g := by simpa [Value.ownBlock] using hgv
        rw [hm2] at hg2
        cases hg2
    · rintro rfl
      exact hvb hgv
    · rcases hpl g hgv with h8 | h8
      · exact .inl (h6 g h8)
      · refine .inr ⟨by omega, ?_⟩
        rcases hown.2 with ⟨hv, _⟩ | ⟨g', cap, cur, fz, hv, _, hg2, _⟩
        · rw [hv] at hgv; cases hgv
        · rw [hv] at hgv
          obtain rfl : g' = g := by simpa [Value.ownBlock] using hgv
          exact (Array.getElem?_eq_some_iff.1 hg2).1
  refine ⟨hb2, ?_, ⟨es, clock, (hset bm (Ne.symm hbm)).trans hm2, hrest⟩, ⟨hown.1, ?_⟩, hbm, hplace, ⟨hg.os, hg.tape, hg.output, ?_, fun k hk hn => ?_, fun k hk => hk.imp id fun h => h.1⟩⟩
  · simp [World.setCell, Array.getElem?_modify, hb2]
  · rcases hown.2 with h8 | ⟨g, cap, cur, fz, hv, hB, hg2, h9⟩
    · exact .inl h8
    · exact .inr ⟨g, cap, cur, fz, hv, hB, (hset g (hplace g (by rw [hv]; rfl)).2.1).trans hg2, h9⟩
  · have : (w2.setCell ⟨b, 0, none⟩ v').heap.size = w2.heap.size := by simp [World.setCell]
    omega
  · have h8 : k ≠ b := fun e => hn (e ▸ hob)
    refine (hset k h8).trans (ha k hk fun e => ?_)
    exact hn (h6 k e.symm)
/-- The map has been told the new name. -/
theorem fnd_done {B : Nat} {own own' : Nat → Prop} {b bm : Nat} {w w3 w4 : World} {v' : Value} {v : ByteArray} {acc : List (List UInt8)} {D : DataW Unit} (hB : B ≤ w.heap.size) (hlo : ∀ k, own' k → B ≤ k ∧ k < w3.heap.size) (hob : own' b) (h2 : own' bm) (hs : w.heap.size ≤ w3.heap.size)
    (h1 : w3.heap[b]? = some (.cells #[v', .map (some bm)] 153 (0, 0))) (h5 : w3.ownsRowF B 9 1 v' (acc.length + 1) (strVs acc ++ [.string v])) (hne : b ≠ bm) (hpl : ∀ g, v'.ownBlock = some g → g ≠ bm ∧ own' g) (ho : Ofr own own' w w3) (htd : ThereD D acc)
    (hob2 : ∀ k, ¬ own k → k < w.heap.size → k ≠ bm)
    (hom4 : w4.ownsMap Tryz.prog 9 (plainElem Tryz.prog 3) bm (acc.length + 1) (D.put (.string (bl v)) (.lit (.int .i64 ((acc.length : Int) + 1))))) (hg : w3.grownBy w4 (some bm)) : Fnd B own' b (acc ++ [bl v]) w4 ∧ Ofr own own' w w4 := by
  have hk : ∀ k X, w3.heap[k]? = some X → k ≠ bm → w4.heap[k]? = some X := fun k X hX hne => (hg.block k (Array.getElem?_eq_some_iff.1 hX).1 (fun e => hne (by simpa using e))).trans hX
  have hlen : (acc ++ [bl v]).length = acc.length + 1 := by simp
  have hsz := hg.size
  have he : strVs (acc ++ [bl v]) = strVs acc ++ [.string v] := by simp [strVs]
  refine ⟨⟨fun k hk => ⟨(hlo k hk).1, Nat.lt_of_lt_of_le (hlo k hk).2 hsz⟩, by omega, hob, bm, _, v', hk _ _ h1 hne, h2, by rw [hlen]; exact hom4, htd.snoc (bl v) (by omega), ?_, fun g hg' => (hpl g hg').2⟩, ⟨hg.os.trans ho.os, hg.tape.trans ho.tape, hg.output.trans ho.output, by omega, fun k hk' hn => ?_, ho.grow⟩⟩
  · rw [hlen, he]
    refine ⟨h5.1, ?_⟩
    rcases h5.2 with h8 | ⟨g, cap, cur, fz, hv, hB, hg2, h9⟩
    · exact .inl h8
    · exact .inr ⟨g, cap, cur, fz, hv, hB, hk _ _ hg2 (hpl g (by rw [hv]; rfl)).1, h9⟩
  · exact (hg.block k (by omega) (fun e => hob2 k hn hk' (by simpa using e))).trans (ho.block k hk' hn)
def FPost (B : Nat) (own : Nat → Prop) (b : Nat) (acc : List (List UInt8)) (w w' : World) : Prop := ∃ own', Fnd B own' b acc w' ∧ Ofr own own' w w'
set_option maxHeartbeats 8000000 in
set_option maxRecDepth 100000 in
theorem tAdd {B : Nat} {own : Nat → Prop} {b : Nat} {acc : List (List UInt8)} {w : World} (h : Fnd B own b acc w) (p : Option Addr) (c : Nat) (l : List (List UInt8)) (hs : SsOff own w p l) (hl : acc.length + l.length ≤ 10000) (hv : ∀ v ∈ l, v.length ≤ maxLen) :
    Calls Tryz.prog 70 #[.pointer (some ⟨b, 0, none⟩), .slice p l.length c] w (fun e w' => e = .returned (.tuple #[]) ∧ FPost B own b (addL acc l) w w') := by
  have HF := Lib.hid h; clear h
  have HS := Lib.hid hs; clear hs
  have HV := Lib.hid hv; clear hv
  have HL := Lib.hid hl
  have hll : l.length ≤ 10000 := by omega
  clear hl
  obtain ⟨r, hr⟩ : ∃ r, r = addL acc l := ⟨_, rfl⟩
  rw [← hr]
  have HR := Lib.hid hr; clear hr
  obtain ⟨i0, hi, hzz⟩ := Option.map_eq_some_iff.1 infoStr
  simp only [Prod.mk.injEq] at hzz
  obtain ⟨hz0, hz1, hz2⟩ := hzz
  have HI := Lib.hid hi; clear hi
  have HZ0 := Lib.hid hz0; clear hz0
  have HZ1 := Lib.hid hz1; clear hz1
  have HZ2 := Lib.hid hz2; clear hz2
  go_enter Tryz.func70, Tryz.ntmps70
  go_wp2_with fail
  go_loopw [5, 8] (fun _ i wr => ∃ k : Nat, k ≤ l.length ∧ i = .int .i64 k ∧ FPost B own b (addL acc (l.take k)) w wr) (fun _ i _ => l.length - (intOf i).toNat)
  case atStart => exact ⟨0, by omega, rfl, own, HF.out, Ofr.refl _ _⟩
  case round =>
    obtain ⟨k, hk, rfl, own', hf, ho⟩ := hrel
    have HFK := Lib.hid hf; clear hf
    have HO := Lib.hid ho; clear ho
    by_cases hlt : k < l.length
    · have HSK := HS.out.step HO.out
      rcases HSK with h0 | ⟨a, o, rfl, hna, ha, hck⟩
      · omega
      · have hk0 : (0 : Int) ≤ (k : Int) := by omega
        have hki : (k : Int) < (l.length : Int) := by omega
        have y0 := hck k hlt
        have hvs : (⟨l[k].toArray⟩ : ByteArray).size ≤ maxLen := by simpa [ByteArray.size] using HV.out _ (List.getElem_mem hlt)
        have HT := Lib.hid (addL_take acc l k hlt)
        have hal := (addL_len (l.take k) acc).2
        rw [List.length_take] at hal
        have hlen := HL.out
        have HAL := Lib.hid (show (addL acc (l.take k)).length ≤ 10000 by omega)
        clear hal hlen
        obtain ⟨acc1, hacc⟩ : ∃ acc1, acc1 = addL acc (l.take k) := ⟨_, rfl⟩
        rw [← hacc] at HFK HT HAL
        clear hacc
        obtain ⟨v, hvv⟩ : ∃ v : ByteArray, v = ⟨l[k].toArray⟩ := ⟨_, rfl⟩
        rw [← hvv] at y0 hvs
        have HTT := Lib.hid (show addL acc (l.take (k + 1)) = addN acc1 (bl v) by rw [HT.out, hvv])
        have HVS := Lib.hid hvs
        have HC := Lib.hid (tHas HFK.out v hvs)
        clear hck hvv HT hvs
        rcases hq : acc1.contains (bl v) with _ | _
        · have HA := Lib.hid (show addN acc1 (bl v) = acc1 ++ [bl v] by unfold addN; rw [hq]; rfl)
          rw [hq] at HC
          clear hq
          obtain ⟨bm, D, sv, h1, h2, h3, h4, h5, h6⟩ := HFK.out.st
          obtain ⟨ps, cs, rfl⟩ := own_slice1 h5
          have c0 : wr.cell? ⟨b, 0, none⟩ = some (.slice ps acc1.length cs) := by rw [Lib.cell_of_heap h1]; rfl
          have H1 := Lib.hid h1; clear h1
          have H2 := Lib.hid h2; clear h2
          have H3 := Lib.hid h3; clear h3
          have H4 := Lib.hid h4; clear h4
          have H5 := Lib.hid h5; clear h5
          have H6 := Lib.hid h6; clear h6
          go_wp2_with fail
          refine HC.out.mono ?_
          rintro e w1 ⟨rfl, rfl⟩
          have hbase := HFK.out.base
          have hbs := (HFK.out.lo b HFK.out.ob).2
          have hal := HAL.out
          obtain ⟨wb, rfl⟩ : ∃ wb, wb = w1 := ⟨_, rfl⟩
          go_wp2_with (at_builtin; refine wpApp_row rfl _ _ 85 rfl B 9 i0 _ 1 16 Tryz.underlying85 HI.out HZ0.out HZ1.out HZ2.out rfl (by decide) _ _ _ rfl (H5.out.alloc _) ⟨wb.heap.size, 0, none⟩ 1 1 [.string v] rfl rfl (new_cells wb [.string v] 9) (one_str v) ?c2 ?c3 ?c4 ?_)
          case c2 => unfold maxLen; omega
          case c3 => omega
          case c4 => simp; omega
          intro v' w2 hown hgrow _ hpl
          have HROW := Lib.hid (fnd_row HFK.out.lo HFK.out.ob H1.out H2.out H3.out H5.out H6.out hgrow hown hpl)
          have hk1 : w2.cell? ⟨b, 0, none⟩ = some (.slice ps acc1.length cs) := by rw [Lib.cell_of_heap HROW.out.1]; rfl
          have hfz : w2.frozen? ⟨b, 0, none⟩ = false := Lib.frozen_of_heap HROW.out.1 0
          obtain ⟨p2, c2, rfl⟩ := own_slice1 hown
          have HSZ := Lib.hid (show wb.heap.size ≤ w2.heap.size by have h8 := hgrow.size; simp at h8; omega)
          clear hown hgrow hpl hbase hbs hal y0 c0
          go_wp2_with fail
          obtain ⟨w3, hw3⟩ : ∃ w3, w3 = w2.setCell ⟨b, 0, none⟩ (.slice p2 (acc1.length + 1) c2) := ⟨_, rfl⟩
          rw [← hw3] at HROW ⊢
          have HS3 := Lib.hid (show w3.heap.size = w2.heap.size by rw [hw3]; simp [World.setCell])
          clear hw3 hk1 hfz
          obtain ⟨_, hb3, hm3, hr3, hne, hpl3, ho3⟩ := HROW.out
          have z0 : w3.cell? ⟨b, 0, none⟩ = some (.slice p2 (acc1.length + 1) c2) := by rw [Lib.cell_of_heap hb3]; rfl
          have z1 : w3.cell? ⟨b, 1, none⟩ = some (.map (some bm)) := by rw [Lib.cell_of_heap hb3]; rfl
          have HKEY := Lib.hid (WideMaps.keyOf_string_mk (P := Tryz.prog) Tryz.underlying9 HVS.out)
          have HB3 := Lib.hid hb3; clear hb3
          have HM3 := Lib.hid hm3; clear hm3
          have HR3 := Lib.hid hr3; clear hr3
          have HNE := Lib.hid hne; clear hne
          have HPL := Lib.hid hpl3; clear hpl3
          have HO3 := Lib.hid ho3; clear ho3
          have HAL2 := Lib.hid (show acc1.length < maxLen by have := HAL.out; unfold maxLen; omega)
          clear HROW
          go_still_tail 10, (by kernel_rfl)
          change wpList _ _ _ _ _ w3.drew
          have HMd := Lib.hid (show w3.drew.ownsMap Tryz.prog 9 (plainElem Tryz.prog 3) bm acc1.length D from HM3.out)
          refine wpList_mapUpdate_own _ rfl _ _ _ 61 rfl 9 3 law_str Tryz.underlying61 _ bm acc1.length _ rfl HMd.out HAL2.out _ _ _ rfl rfl HKEY.out (.lit (.int .i64 ((acc1.length : Int) + 1))) [] (plainElem_int Tryz.underlying3 (WalkArith.wf_i64 (n := (acc1.length : Int) + 1) (by have := HAL.out; omega))) ?_
          intro w4 hom4 hgrow4
          have HP := Lib.hid (show FPost B own b (addN acc1 (bl v)) w w4 from by
            rw [HA.out]
            have hg4 : w3.grownBy w4 (some bm) := ⟨hgrow4.os, hgrow4.tape, hgrow4.output, hgrow4.size, hgrow4.block⟩
            obtain ⟨j1, j2⟩ := fnd_done (v := v) HFK.out.base (own' := fun k => own' k ∨ (wb.heap.size ≤ k ∧ k < w2.heap.size)) (fun k hk => by
              have h7 := HS3.out; have h8 := HSZ.out; have h9 := HFK.out.base
              rcases hk with h6 | h6
              · have := HFK.out.lo k h6; exact ⟨this.1, by omega⟩
              · exact ⟨by omega, by omega⟩) (.inl HFK.out.ob) (.inl H2.out) (by have h7 := HS3.out; have h8 := HSZ.out; omega) HB3.out HR3.out HNE.out (fun g hg => ⟨(HPL.out g hg).1, (HPL.out g hg).2.2⟩) HO3.out H4.out (fun k h8 _ e => h8 (e ▸ H2.out)) hom4 hg4
            exact ⟨_, j1, HO.out.trans j2⟩)
          clear hom4 hgrow4 z0 z1
          go_wp2_with fail
          go_roundw
          case rel =>
            obtain ⟨o2, j1, j2⟩ := HP.out
            exact ⟨k + 1, by omega, by go_num, o2, by rw [HTT.out]; exact j1, j2⟩
          case measure => simp [intOf]; omega
        · have HA := Lib.hid (show addN acc1 (bl v) = acc1 by unfold addN; rw [hq]; rfl)
          rw [hq] at HC
          clear hq
          go_wp2_with fail
          refine HC.out.mono ?_
          rintro e w1 ⟨rfl, rfl⟩
          go_wp2_with fail
          go_roundw
          case rel => exact ⟨k + 1, by omega, by go_num, own', by rw [HTT.out, HA.out]; exact HFK.out, HO.out⟩
          case measure => simp [intOf]; omega
    · obtain rfl : k = l.length := by omega
      have HE := Lib.hid (show (l.take l.length) = l from List.take_of_length_le (Nat.le_refl _))
      have HP := Lib.hid (show FPost B own b r w wr from ⟨own', by rw [HR.out]; have h9 := HFK.out; rw [HE.out] at h9; exact h9, HO.out⟩)
      go_wp2_with fail
      go_end0
      exact ⟨rfl, HP.out⟩
end Go.Proofs.YtafjjececdhmjaaGreat
