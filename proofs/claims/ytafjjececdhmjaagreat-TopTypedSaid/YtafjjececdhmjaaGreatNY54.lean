/- Rules that read as data; the contract of BeyondRules, BeyondFacts, BeyondJob. Conditions: the reading is whole, no weight is beyond reach; what is handed in lies in memory as it is told. -/
import Derived.Test.YtafjjececdhmjaaGreatNMH
import Derived.Test.YtafjjececdhmjaaGreatNKt
import Derived.Test.YtafjjececdhmjaaGreatNKi
namespace Go.Proofs.YtafjjececdhmjaaGreat
open Go.RowKit Go.ChangeShapes Go.WideShapes

theorem cellsAg : Tryz.prog.cellsOf 97 = 1 := by kernel_rfl
theorem cellsAr : Tryz.prog.cellsOf 99 = 5 := by kernel_rfl
theorem bytesAr : Tryz.prog.bytesOf 99 = 56 := by kernel_rfl
theorem trod_arg {H : Type} {enc : TypeId × Value → H} {w : World} {base : Nat} {sp : Nat → Bool} {held : Bool} {fuel : Nat} {cs : List Value} {x : DataW H × List MemPlace} (h : DataW.trod enc Tryz.prog w base sp held fuel 99 cs = some x) :
    ∃ g v k n t, cs = [.int .i8 g, .string v, .int .i8 k, .int .i64 n, .string t] ∧ (-128 ≤ g ∧ g ≤ 127) ∧ (-128 ≤ k ∧ k ≤ 127) ∧ TmR v k n t := by
  obtain ⟨ys, m, _, rfl, hl, hn, hf⟩ := DataW.trod_struct Tryz.underlying99 h
  rw [cellsAr] at hl
  obtain ⟨y0, y1, rfl⟩ := list2 (show ys.length = 2 from hn)
  have h0 : DataW.trod enc Tryz.prog w base sp held m 97 ((cs.drop 0).take (Tryz.prog.cellsOf 97)) = some y0 := hf 0 _ rfl
  have h1 : DataW.trod enc Tryz.prog w base sp held m 93 ((cs.drop 1).take (Tryz.prog.cellsOf 93)) = some y1 := hf 1 _ rfl
  rw [cellsAg] at h0
  rw [cellsT] at h1
  obtain ⟨g, e0, _, wg⟩ := DataW.trod_int Tryz.underlying97 h0
  obtain ⟨v, k, n, t, e1, hk, hr, _⟩ := trod_term h1
  clear h h0 h1 hf
  have hc : cs = cs.take 1 ++ (cs.drop 1).take 4 := by
    have e2 : (cs.drop 1).take 4 = cs.drop 1 := List.take_of_length_le (by rw [List.length_drop, hl]; decide)
    rw [e2, List.take_append_drop]
  rw [List.drop_zero] at e0
  rw [hc, e0, e1]
  exact ⟨g, v, k, n, t, rfl, bounds_i8 wg, hk, hr⟩
open Go.RowKit

theorem trod_args {H : Type} {enc : TypeId × Value → H} {w : World} {base : Nat} {sp : Nat → Bool} {held : Bool} {fuel : Nat} {cs : List Value} {x : DataW H × List MemPlace}
    (h : DataW.trod enc Tryz.prog w base sp held fuel 38 cs = some x) (hw : ∀ n ∈ x.1.weights Tryz.prog 38, n ≤ reachBytes) :
    ∃ (p : Option Addr) (hs : List Ag) (cap : Nat), cs = [.slice p hs.length cap] ∧ hs.length ≤ maxLen ∧ AgsAt w p hs ∧ (∀ a ∈ hs, (-128 ≤ a.g ∧ a.g ≤ 127) ∧ TmR a.t.v a.t.x.k a.t.x.n a.t.x.t) ∧ hs.length ≤ 2932031007317 := by
  obtain ⟨p, hs, cap, rfl, hm, hb, hrow, hR⟩ := open_list (α := Ag) Tryz.underlying38 cellsAr (by decide) bytesAr (by decide) Ag.cells (fun a => (-128 ≤ a.g ∧ a.g ≤ 127) ∧ TmR a.t.v a.t.x.k a.t.x.n a.t.x.t) (fun t => by simp [Ag.cells]) h hw (fun f cs' y _ hy _ => by
    obtain ⟨g, v, k, n, t, rfl, hg, _, hr⟩ := trod_arg hy
    exact ⟨⟨g, v, ⟨k, n, t⟩⟩, rfl, hg, hr⟩)
  refine ⟨p, hs, cap, rfl, hm, ?_, hR, by unfold reachBytes at hb; omega⟩
  rcases hrow with h0 | ⟨a, o, hp, ha, hc⟩
  · exact .inl h0
  · exact .inr ⟨a, o, hp, ha, fun i hi => ⟨hc i hi 0 (by omega), ⟨hc i hi 1 (by omega), hc i hi 2 (by omega), hc i hi 3 (by omega), hc i hi 4 (by omega)⟩⟩⟩
open Go.RowKit

theorem cellsLi : Tryz.prog.cellsOf 114 = 16 := by kernel_rfl
theorem bytesLi : Tryz.prog.bytesOf 114 = 216 := by kernel_rfl
theorem trod_lits {H : Type} {enc : TypeId × Value → H} {w : World} {base : Nat} {sp : Nat → Bool} {held : Bool} {fuel : Nat} {cs : List Value} {x : DataW H × List MemPlace}
    (h : DataW.trod enc Tryz.prog w base sp held fuel 39 cs = some x) (hw : ∀ n ∈ x.1.weights Tryz.prog 39, n ≤ reachBytes) :
    ∃ (p : Option Addr) (bs : List (Lt fuel)) (cap : Nat), cs = [.slice p bs.length cap] ∧ bs.length ≤ maxLen ∧ LtsAt w fuel p bs ∧ (∀ x ∈ bs, LtR x) ∧ (∀ x ∈ bs, LtB x) ∧ bs.length ≤ 1000000000000 := by
  obtain ⟨p, bs, cap, rfl, hm, hb, hrow, hR⟩ := open_list (α := Lt fuel) Tryz.underlying39 cellsLi (by decide) bytesLi (by decide) (ltCells fuel) (fun y => LtAt w y ∧ LtR y ∧ LtB y) (fun t => by simp [ltCells]) h hw (fun f cs' y hf hy hwy => by
    obtain ⟨y, rfl, h1, h2, h3⟩ := trod_lit (D := fuel) (by omega) hy hwy
    exact ⟨y, rfl, h1, h2, h3⟩)
  refine ⟨p, bs, cap, rfl, hm, ⟨?_, fun y hy => (hR y hy).1⟩, fun y hy => (hR y hy).2.1, fun y hy => (hR y hy).2.2, by unfold reachBytes at hb; omega⟩
  rcases hrow with h0 | ⟨a, o, hp, ha, hc⟩
  · exact .inl h0
  · exact .inr ⟨a, o, hp, ha, fun i hi => ltCells_cell (fun q hq => hc i hi q hq)⟩
open Go.RowKit Go.ChangeShapes Go.WideShapes

/-- A rule within the bounds of a reading. -/
structure RuX {D : Nat} (x : Ru D) : Prop where
  r_ : RuR x.p x.hs x.bs
  hn : x.hs.length ≤ 2932031007317
  bb : ∀ f ∈ x.bs, LtB f
  bn : x.bs.length ≤ 1000000000000
theorem cellsRu : Tryz.prog.cellsOf 41 = 3 := by kernel_rfl
theorem bytesRu : Tryz.prog.bytesOf 41 = 64 := by kernel_rfl
theorem cellsAgs : Tryz.prog.cellsOf 38 = 1 := by kernel_rfl
theorem cellsLts : Tryz.prog.cellsOf 39 = 1 := by kernel_rfl
section
variable {H : Type} {enc : TypeId × Value → H} {w : World} {base : Nat} {sp : Nat → Bool} {held : Bool}
theorem weights_ru (y0 y1 y2 : DataW H) : (DataW.agg [y0, y1, y2]).weights Tryz.prog 41 = y0.weights Tryz.prog 9 ++ (y1.weights Tryz.prog 38 ++ (y2.weights Tryz.prog 39 ++ [])) := by
  simp [DataW.weights, Tryz.underlying41, DataW.weightsEach]
/-- A list of literals, told at any depth that holds it. -/
theorem trod_litsD {D fuel : Nat} (hD : fuel ≤ D) {cs : List Value} {x : DataW H × List MemPlace}
    (h : DataW.trod enc Tryz.prog w base sp held fuel 39 cs = some x) (hw : ∀ n ∈ x.1.weights Tryz.prog 39, n ≤ reachBytes) :
    ∃ (p : Option Addr) (bs : List (Lt D)) (cap : Nat), cs = [.slice p bs.length cap] ∧ bs.length ≤ maxLen ∧ LtsAt w D p bs ∧ (∀ x ∈ bs, LtR x) ∧ (∀ x ∈ bs, LtB x) ∧ bs.length ≤ 1000000000000 := by
  obtain ⟨p, bs, cap, rfl, hm, hb, hrow, hR⟩ := open_list (α := Lt D) Tryz.underlying39 cellsLi (by decide) bytesLi (by decide) (ltCells D) (fun y => LtAt w y ∧ LtR y ∧ LtB y) (fun t => by simp [ltCells]) h hw (fun f cs' y hf hy hwy => by
    obtain ⟨y, rfl, h1, h2, h3⟩ := trod_lit (D := D) (by omega) hy hwy
    exact ⟨y, rfl, h1, h2, h3⟩)
  refine ⟨p, bs, cap, rfl, hm, ⟨?_, fun y hy => (hR y hy).1⟩, fun y hy => (hR y hy).2.1, fun y hy => (hR y hy).2.2, by unfold reachBytes at hb; omega⟩
  rcases hrow with h0 | ⟨a, o, hp, ha, hc⟩
  · exact .inl h0
  · exact .inr ⟨a, o, hp, ha, fun i hi => ltCells_cell (fun q hq => hc i hi q hq)⟩
/-- A rule that reads as data. -/
theorem trod_rule {D fuel : Nat} (hD : fuel ≤ D) {cs : List Value} {x : DataW H × List MemPlace} (h : DataW.trod enc Tryz.prog w base sp held fuel 41 cs = some x) (hw : ∀ n ∈ x.1.weights Tryz.prog 41, n ≤ reachBytes) :
    ∃ y : Ru D, cs = y.cells ∧ RuAt w y ∧ RuX y := by
  obtain ⟨ys, m, rfl, rfl, hl, hn, hfs⟩ := DataW.trod_struct Tryz.underlying41 h
  rw [cellsRu] at hl
  obtain ⟨y0, y1, y2, rfl⟩ := list3 (show ys.length = 3 from hn)
  have h0 : DataW.trod enc Tryz.prog w base sp held m 9 ((cs.drop 0).take (Tryz.prog.cellsOf 9)) = some y0 := hfs 0 _ rfl
  have h1 : DataW.trod enc Tryz.prog w base sp held m 38 ((cs.drop 1).take (Tryz.prog.cellsOf 38)) = some y1 := hfs 1 _ rfl
  have h2 : DataW.trod enc Tryz.prog w base sp held m 39 ((cs.drop 2).take (Tryz.prog.cellsOf 39)) = some y2 := hfs 2 _ rfl
  rw [cellsS] at h0
  rw [cellsAgs] at h1
  rw [cellsLts] at h2
  have hwa : ∀ q, q ∈ y1.1.weights Tryz.prog 38 ∨ q ∈ y2.1.weights Tryz.prog 39 → q ≤ reachBytes := by
    intro q hq
    refine hw q ?_
    show q ∈ (DataW.agg [y0.1, y1.1, y2.1]).weights Tryz.prog 41
    rw [weights_ru]
    simp only [List.mem_append]
    rcases hq with hq | hq
    · exact .inr (.inl hq)
    · exact .inr (.inr (.inl hq))
  obtain ⟨p, e0, _, s0⟩ := DataW.trod_string Tryz.underlying9 h0
  obtain ⟨hp, hs, hc, e1, hm, hat, hr, hn1⟩ := trod_args h1 (fun q hq => hwa q (.inl hq))
  obtain ⟨bp, bs, bc, e2, bm, bat, br, bb, bn⟩ := trod_litsD (D := D) (by omega) h2 (fun q hq => hwa q (.inr hq))
  refine ⟨⟨p, hp, hc, hs, bp, bc, bs⟩, ?_, ⟨hat, bat⟩, ⟨⟨s0, hm, bm, hr, br⟩, hn1, bb, bn⟩⟩
  have e0' : cs.take 1 = [.string p] := by simpa using e0
  rw [← List.take_append_drop 1 cs, ← List.take_append_drop 1 (cs.drop 1), List.drop_drop, e0', e1, take1 hl e2]
  rfl
set_option maxRecDepth 100000 in
theorem open_rule {r : Reach} {b0 : Nat} {v : Value} {x : DataW H} {ps : List MemPlace} (hval : Value.okWide Tryz.prog w r b0 41 v) (hd : DataW.Trod enc Tryz.prog w base sp held 41 v x ps) (hw : ∀ n ∈ x.weights Tryz.prog 41, n ≤ reachBytes) :
    ∃ (d : Nat) (y : Ru d), v = .agg ⟨y.cells⟩ ∧ RuAt w y ∧ RuX y := by
  obtain ⟨cs, rfl, _⟩ := okWide_struct Tryz.underlying41 hval
  obtain ⟨n, hn⟩ := hd
  obtain ⟨y, hc, ht⟩ := trod_rule (D := n) (Nat.le_refl _) hn hw
  refine ⟨n, y, ?_, ht⟩
  have h3 : cs = ⟨y.cells⟩ := by
    have h2 : cs.toList = y.cells := hc
    rw [← h2]
  rw [h3]
/-- A list of rules that reads as data. -/
theorem trod_rules {D fuel : Nat} (hD : fuel ≤ D) {cs : List Value} {x : DataW H × List MemPlace} (h : DataW.trod enc Tryz.prog w base sp held fuel 22 cs = some x) (hw : ∀ n ∈ x.1.weights Tryz.prog 22, n ≤ reachBytes) :
    ∃ (p : Option Addr) (xs : List (Ru D)) (cap : Nat), cs = [.slice p xs.length cap] ∧ xs.length ≤ maxLen ∧ RusAt w D p xs ∧ (∀ x ∈ xs, RuX x) ∧ xs.length ≤ 2199023255552 := by
  obtain ⟨p, xs, cap, rfl, hm, hb, hrow, hR⟩ := open_list (α := Ru D) Tryz.underlying22 cellsRu (by decide) bytesRu (by decide) (Ru.cells) (fun y => RuAt w y ∧ RuX y) (fun t => by simp [Ru.cells]) h hw (fun f cs' y hf hy hwy => by
    obtain ⟨y, rfl, h1, h2⟩ := trod_rule (D := D) (by omega) hy hwy
    exact ⟨y, rfl, h1, h2⟩)
  refine ⟨p, xs, cap, rfl, hm, ⟨?_, fun y hy => (hR y hy).1⟩, fun y hy => (hR y hy).2, by unfold reachBytes at hb; omega⟩
  rcases hrow with h0 | ⟨a, o, hp, ha, hc⟩
  · exact .inl h0
  · exact .inr ⟨a, o, hp, ha, fun i hi => ⟨hc i hi 0 (by omega), hc i hi 1 (by omega), hc i hi 2 (by omega)⟩⟩
set_option maxRecDepth 100000 in
theorem open_rules {r : Reach} {b0 : Nat} {v : Value} {x : DataW H} {ps : List MemPlace} (hval : Value.okWide Tryz.prog w r b0 22 v) (hd : DataW.Trod enc Tryz.prog w base sp held 22 v x ps) (hw : ∀ n ∈ x.weights Tryz.prog 22, n ≤ reachBytes) :
    ∃ (d : Nat) (p : Option Addr) (cap : Nat) (xs : List (Ru d)), v = .slice p xs.length cap ∧ RusAt w d p xs ∧ (∀ x ∈ xs, RuX x) ∧ xs.length ≤ 2199023255552 := by
  obtain ⟨a, len, c, rfl⟩ := okWide_slice Tryz.underlying22 hval
  obtain ⟨n, hn⟩ := hd
  obtain ⟨p, xs, cap, hc, _, h1, h2, h3⟩ := trod_rules (D := n) (Nat.le_refl _) hn hw
  exact ⟨n, p, cap, xs, by simpa [Value.cells] using hc, h1, h2, h3⟩
end
def BrRel (n0 : Nat) (w : World) (v i : Value) (wr : World) : Prop := ∃ (j : Nat) (n : Int), i = .int .i64 j ∧ v = .int .i64 n ∧ j ≤ n0 ∧ (j : Int) ≤ n ∧ n ≤ 1048576 ∧ Below w.heap.size w wr
def BrPost (n0 : Nat) (w : World) (r : Ending) (w' : World) : Prop := ∃ b : Bool, r = .returned (.bool b) ∧ (b = false → n0 ≤ 1048576) ∧ Below w.heap.size w w'
set_option maxHeartbeats 4000000 in
theorem beyondRules (d : Nat) (xs : List (Ru d)) (p : Option Addr) (cap : Nat) (w : World) (hs : RusAt w d p xs) (hr : ∀ x ∈ xs, RuX x) :
    Calls Tryz.prog 14 #[.slice p xs.length cap] w (BrPost xs.length w) := by
  have HS := Lib.hid hs; clear hs
  have HR := Lib.hid hr; clear hr
  go_enter Tryz.func14, Tryz.ntmps14
  go_wp2_with fail
  go_loopw [3, 4] (fun v i wr => BrRel xs.length w v i wr) (fun _ i _ => xs.length - (intOf i).toNat)
  case atStart => exact ⟨0, 0, rfl, rfl, by omega, by omega, by omega, Below.refl _ _⟩
  case round =>
    obtain ⟨j, n, rfl, rfl, hj, hn1, hn2, hb⟩ := hrel
    have Hb := Lib.hid hb; clear hb
    by_cases hlt : j < xs.length
    · rcases HS.out.1 with h0 | ⟨a, o, hp, ha, hc⟩
      · omega
      subst hp
      have hck := (hc j hlt).up Hb.out ha
      clear hc
      have HX := Lib.hid ((HS.out.2 xs[j] (List.getElem_mem hlt)).up Hb.out)
      have HB := Lib.hid (HR.out xs[j] (List.getElem_mem hlt))
      obtain ⟨x, hx⟩ : ∃ x, x = xs[j] := ⟨_, rfl⟩
      rw [← hx] at hck HX HB
      clear hx
      obtain ⟨c0, c1, c2⟩ := hck
      have HC := Lib.hid (fun left w' h h1 h2 => ruleParts d x.p x.hp x.hs.length x.hc x.bs x.bp x.bc left w' HB.out.hn (by have := HB.out.bn; omega) h HB.out.bb h1 h2)
      go_wp2_with fail
      refine (HC.out _ _ HX.out.b_ (by decide) (by decide)).mono ?_
      rintro r w1 ⟨m, rfl, hm1, hm2, hb1⟩
      have Hb1 := Lib.hid (Hb.out.trans (hb1.mono Hb.out.size)); clear hb1
      clear c0 c1 c2
      by_cases hbig : 1048576 < n + m
      · go_wp2_with fail
        go_ret
        exact ⟨true, rfl, (fun h => nomatch h), Hb1.out⟩
      · go_wp2_with fail
        exact ⟨⟨j + 1, n + m, by go_num, rfl, by omega, by omega, by omega, Hb1.out⟩, by simp [intOf]; omega⟩
    · go_wp2_with fail
      go_ret
      exact ⟨false, rfl, (fun _ => by omega), Hb.out⟩
def Bf2Rel (fs : List Fc) (w : World) (v i : Value) (wr : World) : Prop := ∃ (j : Nat) (n : Int), i = .int .i64 j ∧ v = .int .i64 n ∧ j ≤ fs.length ∧ (j : Int) ≤ n ∧ n ≤ 1048576 ∧ (∀ m, (h : m < fs.length) → m < j → fs[m].xs.length ≤ 1048576) ∧ wr = w
def Bf2Post (fs : List Fc) (w : World) (r : Ending) (w' : World) : Prop := ∃ b : Bool, r = .returned (.bool b) ∧ (b = false → fs.length ≤ 1048576 ∧ ∀ f ∈ fs, f.xs.length ≤ 1048576) ∧ w' = w
set_option maxHeartbeats 2000000 in
theorem beyondFacts2 (fs : List Fc) (p : Option Addr) (cap : Nat) (w : World) (hs : FcsAt w p fs) (hr : ∀ f ∈ fs, FcR f) (hn : fs.length ≤ 4398046511104) :
    Calls Tryz.prog 15 #[.slice p fs.length cap] w (Bf2Post fs w) := by
  have HS := Lib.hid hs; clear hs
  have HR := Lib.hid hr; clear hr
  go_enter Tryz.func15, Tryz.ntmps15
  go_wp2_with fail
  go_loopw [3, 4] (fun v i wr => Bf2Rel fs w v i wr) (fun _ i _ => fs.length - (intOf i).toNat)
  case atStart => exact ⟨0, 0, rfl, rfl, by omega, by omega, by omega, fun m _ h => by omega, rfl⟩
  case round =>
    obtain ⟨j, n, rfl, rfl, hj, hn1, hn2, hall, rfl⟩ := hrel
    have HALL := Lib.hid hall; clear hall
    by_cases hlt : j < fs.length
    · rcases HS.out.1 with h0 | ⟨b, o, hp, hb, hc⟩
      · omega
      subst hp
      have hck := hc j hlt
      clear hc
      have hxl := (HR.out fs[j] (List.getElem_mem hlt)).n_
      obtain ⟨q, cp, hsv, hm, _⟩ := HS.out.2 fs[j] (List.getElem_mem hlt)
      obtain ⟨x, hx⟩ : ∃ x, x = fs[j] := ⟨_, rfl⟩
      rw [← hx] at hck hxl hsv hm
      have HXX := Lib.hid hx; clear hx
      obtain ⟨c0, c1⟩ := hck
      rw [hsv] at c1
      clear hsv
      by_cases hbig : 1048576 < n + 1 + (x.xs.length : Int)
      · go_wp2_with fail
        go_ret
        exact ⟨true, rfl, (fun h => nomatch h), rfl⟩
      · go_wp2_with fail
        exact ⟨⟨j + 1, n + 1 + (x.xs.length : Int), by go_num, rfl, by omega, by omega, by omega, fun m hm hmj => by
          by_cases e : m = j
          · subst e; rw [← HXX.out]; omega
          · exact HALL.out m hm (by omega), rfl⟩, by simp [intOf]; omega⟩
    · go_wp2_with fail
      go_ret
      exact ⟨false, rfl, (fun _ => ⟨by omega, fun f hf => by
        obtain ⟨m, hm, rfl⟩ := List.mem_iff_getElem.1 hf
        exact HALL.out m hm (by omega)⟩), rfl⟩
def BjPost (n : Nat) (fs : List Fc) (w : World) (r : Ending) (w' : World) : Prop := ∃ b : Bool, r = .returned (.bool b) ∧ (b = false → n ≤ 1048576 ∧ fs.length ≤ 1048576 ∧ ∀ f ∈ fs, f.xs.length ≤ 1048576) ∧ Below w.heap.size w w'
theorem beyondJob (d : Nat) (xs : List (Ru d)) (p : Option Addr) (cap : Nat) (fs : List Fc) (q : Option Addr) (cap2 : Nat) (w : World) (hs : RusAt w d p xs) (hr : ∀ x ∈ xs, RuX x) (hf : FcsAt w q fs) (hfr : ∀ f ∈ fs, FcR f) (hn : fs.length ≤ 4398046511104) :
    Calls Tryz.prog 5 #[.slice p xs.length cap, .slice q fs.length cap2] w (BjPost xs.length fs w) := by
  have HF := Lib.hid hf; clear hf
  go_enter Tryz.func5, Tryz.ntmps5
  go_wp2_with fail
  refine (beyondRules d xs p cap _ hs hr).mono ?_
  rintro r w1 ⟨b, rfl, hb, hb1⟩
  have Hb := Lib.hid hb1; clear hb1
  cases b
  case true =>
    go_wp2_with fail
    go_ret
    exact ⟨true, rfl, (fun h => nomatch h), Hb.out⟩
  case false =>
    have hm := hb rfl
    clear hb
    go_wp2_with fail
    refine (beyondFacts2 fs q cap2 _ (HF.out.up Hb.out) hfr hn).mono ?_
    rintro r w2 ⟨b, rfl, hb, rfl⟩
    have HB2 := Lib.hid hb; clear hb
    go_wp2_with fail
    go_ret
    exact ⟨b, rfl, fun h => ⟨hm, HB2.out h⟩, Hb.out⟩
end Go.Proofs.YtafjjececdhmjaaGreat
