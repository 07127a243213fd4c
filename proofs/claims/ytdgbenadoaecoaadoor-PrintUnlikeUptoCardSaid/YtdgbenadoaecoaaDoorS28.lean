/- An argument of a head that reads as data. A list of arguments that reads as data. A list of literals that reads as data. A rule that reads as data. Conditions: the reading is whole. the reading is whole, no weight is beyond reach. -/
import Derived.Test.YtdgbenadoaecoaaDoorMH
import Derived.Test.YtdgbenadoaecoaaDoorRy
import Derived.Test.YtdgbenadoaecoaaDoorS4
import Derived.Test.YtdgbenadoaecoaaDoorS22
namespace Go.Proofs.YtdgbenadoaecoaaDoor
open Go.RowKit

theorem cellsAg : Tryd.prog.cellsOf 53 = 1 := by kernel_rfl
theorem cellsAr : Tryd.prog.cellsOf 55 = 5 := by kernel_rfl
theorem bytesAr : Tryd.prog.bytesOf 55 = 56 := by kernel_rfl
theorem trod_arg {H : Type} {enc : TypeId × Value → H} {w : World} {base : Nat} {sp : Nat → Bool} {held : Bool} {fuel : Nat} {cs : List Value} {x : DataW H × List MemPlace} (h : DataW.trod enc Tryd.prog w base sp held fuel 55 cs = some x) :
    ∃ g v k n t, cs = [.int .i8 g, .string v, .int .i8 k, .int .i64 n, .string t] ∧ (-128 ≤ g ∧ g ≤ 127) ∧ (-128 ≤ k ∧ k ≤ 127) ∧ TmR v k n t := by
  obtain ⟨ys, m, _, rfl, hl, hn, hf⟩ := DataW.trod_struct Tryd.underlying55 h
  rw [cellsAr] at hl
  obtain ⟨y0, y1, rfl⟩ := list2 (show ys.length = 2 from hn)
  have h0 : DataW.trod enc Tryd.prog w base sp held m 53 ((cs.drop 0).take (Tryd.prog.cellsOf 53)) = some y0 := hf 0 _ rfl
  have h1 : DataW.trod enc Tryd.prog w base sp held m 52 ((cs.drop 1).take (Tryd.prog.cellsOf 52)) = some y1 := hf 1 _ rfl
  rw [cellsAg] at h0
  rw [cellsT] at h1
  obtain ⟨g, e0, _, wg⟩ := DataW.trod_int Tryd.underlying53 h0
  obtain ⟨v, k, n, t, e1, hk, hr, _⟩ := trod_term h1
  clear h h0 h1 hf
  have hc : cs = cs.take 1 ++ (cs.drop 1).take 4 := by
    have e2 : (cs.drop 1).take 4 = cs.drop 1 := List.take_of_length_le (by rw [List.length_drop, hl]; decide)
    rw [e2, List.take_append_drop]
  rw [List.drop_zero] at e0
  rw [hc, e0, e1]
  exact ⟨g, v, k, n, t, rfl, bounds_i8 wg, hk, hr⟩
open Go.RowKit

theorem trod_args {H : Type} {enc : TypeId × Value → H} {w : World} {base : Nat} {sp : Nat → Bool} {held : Bool} {fuel : Nat} {cs : List Value} {x : DataW H × List MemPlace}
    (h : DataW.trod enc Tryd.prog w base sp held fuel 22 cs = some x) (hw : ∀ n ∈ x.1.weights Tryd.prog 22, n ≤ reachBytes) :
    ∃ (p : Option Addr) (hs : List Ag) (cap : Nat), cs = [.slice p hs.length cap] ∧ hs.length ≤ maxLen ∧ AgsAt w p hs ∧ (∀ a ∈ hs, (-128 ≤ a.g ∧ a.g ≤ 127) ∧ TmR a.t.v a.t.x.k a.t.x.n a.t.x.t) ∧ hs.length ≤ 2932031007317 := by
  obtain ⟨p, hs, cap, rfl, hm, hb, hrow, hR⟩ := open_list (α := Ag) Tryd.underlying22 cellsAr (by decide) bytesAr (by decide) Ag.cells (fun a => (-128 ≤ a.g ∧ a.g ≤ 127) ∧ TmR a.t.v a.t.x.k a.t.x.n a.t.x.t) (fun t => by simp [Ag.cells]) h hw (fun f cs' y _ hy _ => by
    obtain ⟨g, v, k, n, t, rfl, hg, _, hr⟩ := trod_arg hy
    exact ⟨⟨g, v, ⟨k, n, t⟩⟩, rfl, hg, hr⟩)
  refine ⟨p, hs, cap, rfl, hm, ?_, hR, by unfold reachBytes at hb; omega⟩
  rcases hrow with h0 | ⟨a, o, hp, ha, hc⟩
  · exact .inl h0
  · exact .inr ⟨a, o, hp, ha, fun i hi => ⟨hc i hi 0 (by omega), ⟨hc i hi 1 (by omega), hc i hi 2 (by omega), hc i hi 3 (by omega), hc i hi 4 (by omega)⟩⟩⟩
open Go.RowKit

theorem cellsLi : Tryd.prog.cellsOf 94 = 16 := by kernel_rfl
theorem bytesLi : Tryd.prog.bytesOf 94 = 216 := by kernel_rfl
theorem trod_lits {H : Type} {enc : TypeId × Value → H} {w : World} {base : Nat} {sp : Nat → Bool} {held : Bool} {fuel : Nat} {cs : List Value} {x : DataW H × List MemPlace}
    (h : DataW.trod enc Tryd.prog w base sp held fuel 23 cs = some x) (hw : ∀ n ∈ x.1.weights Tryd.prog 23, n ≤ reachBytes) :
    ∃ (p : Option Addr) (bs : List (Lt fuel)) (cap : Nat), cs = [.slice p bs.length cap] ∧ bs.length ≤ maxLen ∧ LtsAt w fuel p bs ∧ (∀ x ∈ bs, LtR x) ∧ (∀ x ∈ bs, LtB x) ∧ bs.length ≤ 1000000000000 := by
  obtain ⟨p, bs, cap, rfl, hm, hb, hrow, hR⟩ := open_list (α := Lt fuel) Tryd.underlying23 cellsLi (by decide) bytesLi (by decide) (ltCells fuel) (fun y => LtAt w y ∧ LtR y ∧ LtB y) (fun t => by simp [ltCells]) h hw (fun f cs' y hf hy hwy => by
    obtain ⟨y, rfl, h1, h2, h3⟩ := trod_lit (D := fuel) (by omega) hy hwy
    exact ⟨y, rfl, h1, h2, h3⟩)
  refine ⟨p, bs, cap, rfl, hm, ⟨?_, fun y hy => (hR y hy).1⟩, fun y hy => (hR y hy).2.1, fun y hy => (hR y hy).2.2, by unfold reachBytes at hb; omega⟩
  rcases hrow with h0 | ⟨a, o, hp, ha, hc⟩
  · exact .inl h0
  · exact .inr ⟨a, o, hp, ha, fun i hi => VsAt.lt (fun k hk => hc i hi k (by simpa [ltVs] using hk))⟩
open Go.RowKit Go.ChangeShapes Go.WideShapes

/-- A rule: its name, its arguments, its literals, and where these lie. -/
structure Ru (D : Nat) where
  p : ByteArray
  hp : Option Addr
  hc : Nat
  hs : List Ag
  bp : Option Addr
  bc : Nat
  bs : List (Lt D)
def Ru.cells {D : Nat} (x : Ru D) : List Value := [.string x.p, .slice x.hp x.hs.length x.hc, .slice x.bp x.bs.length x.bc]
/-- A rule that lies in memory as it is told, within the bounds of a reading. -/
structure RuAt {D : Nat} (w : World) (x : Ru D) : Prop where
  h_ : AgsAt w x.hp x.hs
  b_ : LtsAt w D x.bp x.bs
structure RuB {D : Nat} (x : Ru D) : Prop where
  r_ : RuR x.p x.hs x.bs
  hn : x.hs.length ≤ 2932031007317
  bb : ∀ f ∈ x.bs, LtB f
  bn : x.bs.length ≤ 1000000000000
theorem RuAt.up {D : Nat} {w w' : World} {x : Ru D} (h : RuAt w x) (hb : Below w.heap.size w w') : RuAt w' x := ⟨h.h_.up hb, h.b_.up hb⟩
theorem cellsRu : Tryd.prog.cellsOf 25 = 3 := by kernel_rfl
theorem bytesRu : Tryd.prog.bytesOf 25 = 64 := by kernel_rfl
theorem cellsAgs : Tryd.prog.cellsOf 22 = 1 := by kernel_rfl
theorem cellsLts : Tryd.prog.cellsOf 23 = 1 := by kernel_rfl
section
variable {H : Type} {enc : TypeId × Value → H} {w : World} {base : Nat} {sp : Nat → Bool} {held : Bool}
theorem weights_ru (y0 y1 y2 : DataW H) : (DataW.agg [y0, y1, y2]).weights Tryd.prog 25 = y0.weights Tryd.prog 9 ++ (y1.weights Tryd.prog 22 ++ (y2.weights Tryd.prog 23 ++ [])) := by
  simp [DataW.weights, Tryd.underlying25, DataW.weightsEach]
/-- A list of literals, told at any depth that holds it. -/
theorem trod_litsD {D fuel : Nat} (hD : fuel ≤ D) {cs : List Value} {x : DataW H × List MemPlace}
    (h : DataW.trod enc Tryd.prog w base sp held fuel 23 cs = some x) (hw : ∀ n ∈ x.1.weights Tryd.prog 23, n ≤ reachBytes) :
    ∃ (p : Option Addr) (bs : List (Lt D)) (cap : Nat), cs = [.slice p bs.length cap] ∧ bs.length ≤ maxLen ∧ LtsAt w D p bs ∧ (∀ x ∈ bs, LtR x) ∧ (∀ x ∈ bs, LtB x) ∧ bs.length ≤ 1000000000000 := by
  obtain ⟨p, bs, cap, rfl, hm, hb, hrow, hR⟩ := open_list (α := Lt D) Tryd.underlying23 cellsLi (by decide) bytesLi (by decide) (ltCells D) (fun y => LtAt w y ∧ LtR y ∧ LtB y) (fun t => by simp [ltCells]) h hw (fun f cs' y hf hy hwy => by
    obtain ⟨y, rfl, h1, h2, h3⟩ := trod_lit (D := D) (by omega) hy hwy
    exact ⟨y, rfl, h1, h2, h3⟩)
  refine ⟨p, bs, cap, rfl, hm, ⟨?_, fun y hy => (hR y hy).1⟩, fun y hy => (hR y hy).2.1, fun y hy => (hR y hy).2.2, by unfold reachBytes at hb; omega⟩
  rcases hrow with h0 | ⟨a, o, hp, ha, hc⟩
  · exact .inl h0
  · exact .inr ⟨a, o, hp, ha, fun i hi => VsAt.lt (fun k hk => hc i hi k (by simpa [ltVs] using hk))⟩
/-- A rule that reads as data. -/
theorem trod_rule {D fuel : Nat} (hD : fuel ≤ D) {cs : List Value} {x : DataW H × List MemPlace} (h : DataW.trod enc Tryd.prog w base sp held fuel 25 cs = some x) (hw : ∀ n ∈ x.1.weights Tryd.prog 25, n ≤ reachBytes) :
    ∃ y : Ru D, cs = y.cells ∧ RuAt w y ∧ RuB y := by
  obtain ⟨ys, m, rfl, rfl, hl, hn, hfs⟩ := DataW.trod_struct Tryd.underlying25 h
  rw [cellsRu] at hl
  obtain ⟨y0, y1, y2, rfl⟩ := list3 (show ys.length = 3 from hn)
  have h0 : DataW.trod enc Tryd.prog w base sp held m 9 ((cs.drop 0).take (Tryd.prog.cellsOf 9)) = some y0 := hfs 0 _ rfl
  have h1 : DataW.trod enc Tryd.prog w base sp held m 22 ((cs.drop 1).take (Tryd.prog.cellsOf 22)) = some y1 := hfs 1 _ rfl
  have h2 : DataW.trod enc Tryd.prog w base sp held m 23 ((cs.drop 2).take (Tryd.prog.cellsOf 23)) = some y2 := hfs 2 _ rfl
  rw [cellsS] at h0
  rw [cellsAgs] at h1
  rw [cellsLts] at h2
  have hwa : ∀ q, q ∈ y1.1.weights Tryd.prog 22 ∨ q ∈ y2.1.weights Tryd.prog 23 → q ≤ reachBytes := by
    intro q hq
    refine hw q ?_
    show q ∈ (DataW.agg [y0.1, y1.1, y2.1]).weights Tryd.prog 25
    rw [weights_ru]
    simp only [List.mem_append]
    rcases hq with hq | hq
    · exact .inr (.inl hq)
    · exact .inr (.inr (.inl hq))
  obtain ⟨p, e0, _, s0⟩ := DataW.trod_string Tryd.underlying9 h0
  obtain ⟨hp, hs, hc, e1, hm, hat, hr, hn1⟩ := trod_args h1 (fun q hq => hwa q (.inl hq))
  obtain ⟨bp, bs, bc, e2, bm, bat, br, bb, bn⟩ := trod_litsD (D := D) (by omega) h2 (fun q hq => hwa q (.inr hq))
  refine ⟨⟨p, hp, hc, hs, bp, bc, bs⟩, ?_, ⟨hat, bat⟩, ⟨⟨s0, hm, bm, hr, br⟩, hn1, bb, bn⟩⟩
  have e0' : cs.take 1 = [.string p] := by simpa using e0
  rw [← List.take_append_drop 1 cs, ← List.take_append_drop 1 (cs.drop 1), List.drop_drop, e0', e1, take1 hl e2]
  rfl
set_option maxRecDepth 100000 in
theorem open_rule {r : Reach} {b0 : Nat} {v : Value} {x : DataW H} {ps : List MemPlace} (hval : Value.okWide Tryd.prog w r b0 25 v) (hd : DataW.Trod enc Tryd.prog w base sp held 25 v x ps) (hw : ∀ n ∈ x.weights Tryd.prog 25, n ≤ reachBytes) :
    ∃ (d : Nat) (y : Ru d), v = .agg ⟨y.cells⟩ ∧ RuAt w y ∧ RuB y := by
  obtain ⟨cs, rfl, _⟩ := okWide_struct Tryd.underlying25 hval
  obtain ⟨n, hn⟩ := hd
  obtain ⟨y, hc, ht⟩ := trod_rule (D := n) (Nat.le_refl _) hn hw
  refine ⟨n, y, ?_, ht⟩
  have h3 : cs = ⟨y.cells⟩ := by
    have h2 : cs.toList = y.cells := hc
    rw [← h2]
  rw [h3]
end
end Go.Proofs.YtdgbenadoaecoaaDoor
