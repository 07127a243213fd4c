/- Rules in a row of memory; the contract of BeyondRules. Marks of rules, copies of rules in a row: what they are, and the contracts of markRule and isRule. Copies of lists of rules: the contracts of TwinRules and LeftRules. The text of a program in plain Lean; the contract of the reference's Program. The contract of print.Program. The walk of PrintPrograms. Conditions: the rules lie in memory as they are told, no list is too long. the tables. the rules lie in memory as they are told; there are at most 2^20. the rules lie in memory as they are told; there are at most 2^20; the tables. the rules lie in memory as they are told, no list is too long; the tables lie as the program lays them. -/
import Derived.Test.YtdgbenadoaecoaaDoorS28
import Derived.Test.YtdgbenadoaecoaaDoorS24
import Derived.Test.YtdgbenadoaecoaaDoorS16
import Derived.BigRegion
import Derived.RegionTactic
namespace Go.Proofs.YtdgbenadoaecoaaDoor
open Go.RowKit Go.ChangeShapes Go.WideShapes

theorem VsAt.up {w w' : World} {B a o : Nat} {vs : List Value} (h : VsAt w a o vs) (hb : Below B w w') (ha : a < B) : VsAt w' a o vs :=
  h.of_block (hb.block a ha)
/-- Rules in a row of memory. -/
def RusAt (w : World) (d : Nat) (p : Option Addr) (xs : List (Ru d)) : Prop :=
  (xs.length = 0 ∨ ∃ a o, p = some ⟨a, o, none⟩ ∧ a < w.heap.size ∧ ∀ i, (h : i < xs.length) → VsAt w a (o + i * 3) xs[i].cells) ∧ ∀ x ∈ xs, RuAt w x
theorem RusAt.up {w w' : World} {d : Nat} {p : Option Addr} {xs : List (Ru d)} (h : RusAt w d p xs) (hb : Below w.heap.size w w') : RusAt w' d p xs :=
  ⟨h.1.imp id fun ⟨a, o, hp, ha, hc⟩ => ⟨a, o, hp, Nat.lt_of_lt_of_le ha hb.size, fun i hi => (hc i hi).up hb ha⟩, fun x hx => (h.2 x hx).up hb⟩
theorem VsAt.three {w : World} {a o : Nat} {x y z : Value} (h : VsAt w a o [x, y, z]) : w.cell? ⟨a, o, none⟩ = some x ∧ w.cell? ⟨a, o + 1, none⟩ = some y ∧ w.cell? ⟨a, o + 2, none⟩ = some z :=
  ⟨h 0 (by simp), h 1 (by simp), h 2 (by simp)⟩
section
variable {H : Type} {enc : TypeId × Value → H} {w : World} {base : Nat} {sp : Nat → Bool} {held : Bool}
/-- A list of rules that reads as data. -/
theorem trod_rules {D fuel : Nat} (hD : fuel ≤ D) {cs : List Value} {x : DataW H × List MemPlace} (h : DataW.trod enc Tryd.prog w base sp held fuel 34 cs = some x) (hw : ∀ n ∈ x.1.weights Tryd.prog 34, n ≤ reachBytes) :
    ∃ (p : Option Addr) (xs : List (Ru D)) (cap : Nat), cs = [.slice p xs.length cap] ∧ xs.length ≤ maxLen ∧ RusAt w D p xs ∧ (∀ x ∈ xs, RuB x) ∧ xs.length ≤ 2199023255552 := by
  obtain ⟨p, xs, cap, rfl, hm, hb, hrow, hR⟩ := open_list (α := Ru D) Tryd.underlying34 cellsRu (by decide) bytesRu (by decide) (Ru.cells) (fun y => RuAt w y ∧ RuB y) (fun t => by simp [Ru.cells]) h hw (fun f cs' y hf hy hwy => by
    obtain ⟨y, rfl, h1, h2⟩ := trod_rule (D := D) (by omega) hy hwy
    exact ⟨y, rfl, h1, h2⟩)
  refine ⟨p, xs, cap, rfl, hm, ⟨?_, fun y hy => (hR y hy).1⟩, fun y hy => (hR y hy).2, by unfold reachBytes at hb; omega⟩
  rcases hrow with h0 | ⟨a, o, hp, ha, hc⟩
  · exact .inl h0
  · exact .inr ⟨a, o, hp, ha, fun i hi k hk => hc i hi k (by simpa [Ru.cells] using hk)⟩
set_option maxRecDepth 100000 in
theorem open_rules {r : Reach} {b0 : Nat} {v : Value} {x : DataW H} {ps : List MemPlace} (hval : Value.okWide Tryd.prog w r b0 34 v) (hd : DataW.Trod enc Tryd.prog w base sp held 34 v x ps) (hw : ∀ n ∈ x.weights Tryd.prog 34, n ≤ reachBytes) :
    ∃ (d : Nat) (p : Option Addr) (cap : Nat) (xs : List (Ru d)), v = .slice p xs.length cap ∧ RusAt w d p xs ∧ (∀ x ∈ xs, RuB x) ∧ xs.length ≤ 2199023255552 := by
  obtain ⟨a, len, c, rfl⟩ := okWide_slice Tryd.underlying34 hval
  obtain ⟨n, hn⟩ := hd
  obtain ⟨p, xs, cap, hc, _, h1, h2, h3⟩ := trod_rules (D := n) (Nat.le_refl _) hn hw
  exact ⟨n, p, cap, xs, by simpa [Value.cells] using hc, h1, h2, h3⟩
end
def BrRel (n0 : Nat) (w : World) (v i : Value) (wr : World) : Prop := ∃ (j : Nat) (n : Int), i = .int .i64 j ∧ v = .int .i64 n ∧ j ≤ n0 ∧ (j : Int) ≤ n ∧ n ≤ 1048576 ∧ Below w.heap.size w wr
def BrPost (n0 : Nat) (w : World) (r : Ending) (w' : World) : Prop := ∃ b : Bool, r = .returned (.bool b) ∧ (b = false → n0 ≤ 1048576) ∧ Below w.heap.size w w'
set_option maxHeartbeats 4000000 in
theorem beyondRules (d : Nat) (xs : List (Ru d)) (p : Option Addr) (cap : Nat) (w : World) (hs : RusAt w d p xs) (hr : ∀ x ∈ xs, RuB x) :
    Calls Tryd.prog 12 #[.slice p xs.length cap] w (BrPost xs.length w) := by
  have HS := Lib.hid hs; clear hs
  have HR := Lib.hid hr; clear hr
  go_enter Tryd.func12, Tryd.ntmps12
  go_wp2_with fail
  go_loopw [3, 4] (fun v i wr => BrRel xs.length w v i wr) (fun _ i _ => xs.length - (intOf i).toNat)
  case atStart => exact ⟨0, 0, rfl, rfl, by omega, by omega, by omega, Below.refl _ _⟩
  case round =>
    obtain ⟨j, n, rfl, rfl, hj, hn1, hn2, hb⟩ := hrel
    have Hb := Lib.hid hb; clear hb
    by_cases hlt : j < xs.length
    · rcases HS.out.1 with h0 | ⟨a, o, hp, ha, hc⟩
      · omega
      subst hp
      have hck := (hc j hlt).up Hb.out ha
      clear hc
      have HX := Lib.hid ((HS.out.2 xs[j] (List.getElem_mem hlt)).up Hb.out)
      have HB := Lib.hid (HR.out xs[j] (List.getElem_mem hlt))
      obtain ⟨x, hx⟩ : ∃ x, x = xs[j] := ⟨_, rfl⟩
      rw [← hx] at hck HX HB
      clear hx
      obtain ⟨c0, c1, c2⟩ := VsAt.three hck
      clear hck
      have HC := Lib.hid (fun left w' h h1 h2 => ruleParts d x.p x.hp x.hs.length x.hc x.bs x.bp x.bc left w' HB.out.hn (by have := HB.out.bn; omega) h HB.out.bb h1 h2)
      go_wp2_with fail
      refine (HC.out _ _ HX.out.b_ (by decide) (by decide)).mono ?_
      rintro r w1 ⟨m, rfl, hm1, hm2, hb1⟩
      have Hb1 := Lib.hid (Hb.out.trans (hb1.mono Hb.out.size)); clear hb1
      clear c0 c1 c2
      by_cases hbig : 1048576 < n + m
      · go_wp2_with fail
        go_ret
        exact ⟨true, rfl, (fun h => nomatch h), Hb1.out⟩
      · go_wp2_with fail
        exact ⟨⟨j + 1, n + m, by go_num, rfl, by omega, by omega, by omega, Hb1.out⟩, by simp [intOf]; omega⟩
    · go_wp2_with fail
      go_ret
      exact ⟨false, rfl, (fun _ => by omega), Hb.out⟩
open Go.RowKit

def mkRu : List Value := [.string markB, .slice none 0 0, .slice none 0 0]
/-- One rule is another's copy. -/
structure RuLike {d : Nat} (x y : Ru d) : Prop where
  p_ : y.p = x.p
  hs_ : y.hs = x.hs
  bl : y.bs.length = x.bs.length
  bk : ∀ i, (h : i < x.bs.length) → (h' : i < y.bs.length) → LtLike x.bs[i] y.bs[i]
theorem RuLike.b {d : Nat} {x y : Ru d} (h : RuLike x y) (hr : RuB x) : RuB y :=
  ⟨⟨by rw [h.p_]; exact hr.r_.p_, by rw [h.hs_]; exact hr.r_.hl, by rw [h.bl]; exact hr.r_.bl, by rw [h.hs_]; exact hr.r_.h_, like_lt h.bl h.bk hr.r_.b_ (fun _ _ a b => a.r b)⟩, by rw [h.hs_]; exact hr.hn, like_lt h.bl h.bk hr.bb (fun _ _ a b => a.b b), by rw [h.bl]; exact hr.bn⟩
def Ru.ok {d : Nat} (x : Ru d) : Bool := ruOk x.p x.hs x.bs
def Ru.l {d : Nat} (x : Ru d) : List UInt8 := ruL x.p x.hs x.bs
theorem RuLike.ok {d : Nat} {x y : Ru d} (h : RuLike x y) : y.ok = x.ok := by
  unfold Ru.ok
  rw [h.p_, h.hs_, ruOk_like _ _ h.bl h.bk]
theorem RuLike.l {d : Nat} {x y : Ru d} (h : RuLike x y) : y.l = x.l := by
  unfold Ru.l
  rw [h.p_, h.hs_, ruL_like _ _ h.bl h.bk]
/-- The lists of a rule are copies, each with a mark behind it, in blocks from B on. -/
def RuTw (w : World) (B : Nat) {d : Nat} (x y : Ru d) : Prop :=
  ∃ a b, y.hp = some ⟨a, 0, none⟩ ∧ y.hc = x.hs.length + 1 ∧ y.bp = some ⟨b, 0, none⟩ ∧ y.bc = x.bs.length + 1 ∧ B ≤ a ∧ B ≤ b ∧ TwAg w a x.hs ∧ TwLs w b x.bs y.bs
theorem RuTw.up {w w' : World} {B B' : Nat} (hB : B' ≤ B) (hs : w.heap.size ≤ w'.heap.size) (hb : ∀ k, B ≤ k → k < w.heap.size → w'.heap[k]? = w.heap[k]?) {d : Nat} {x y : Ru d} (h : RuTw w B x y) : RuTw w' B' x y := by
  obtain ⟨a, b, h1, h2, h3, h4, h5, h6, h7, h8⟩ := h
  exact ⟨a, b, h1, h2, h3, h4, by omega, by omega, h7.of_block (Nat.lt_of_lt_of_le h7.lt hs) (hb a h5 h7.lt), h8.up hs (fun k hk hk' => hb k (by omega) hk')⟩
theorem RuTw.low {w w' : World} {B d : Nat} {x y : Ru d} (h : RuTw w B x y) (hb : Below w.heap.size w w') : RuTw w' B x y := h.up (Nat.le_refl _) hb.size (fun k _ hk => hb.block k hk)
theorem RuTw.at {w : World} {B d : Nat} {x y : Ru d} (h : RuTw w B x y) (hl : RuLike x y) (hr : RuB x) : RuAt w y := by
  obtain ⟨a, b, h1, h2, h3, h4, h5, h6, h7, h8⟩ := h
  exact ⟨by rw [h1, hl.hs_]; exact h7.sl, by rw [h3]; exact h8.at hr.bb⟩
/-- What a call leaves that copies a rule. -/
def TxPost {d : Nat} (x : Ru d) (w : World) (r : Ending) (w' : World) : Prop :=
  ∃ y : Ru d, r = .returned (.agg #[.string y.p, .slice y.hp y.hs.length y.hc, .slice y.bp y.bs.length y.bc]) ∧ RuLike x y ∧ RuTw w' w.heap.size x y ∧ Below w.heap.size w w'
/-- A copy of a list of rules in block a, with a mark behind it. -/
structure TwRs (w : World) (a : Nat) {d : Nat} (fs gs : List (Ru d)) : Prop where
  lt : a < w.heap.size
  len : gs.length = fs.length
  like : ∀ i, (h : i < fs.length) → (h' : i < gs.length) → RuLike fs[i] gs[i]
  cells : ∀ i, (h : i < gs.length) → VsAt w a (i * 3) gs[i].cells
  mark : VsAt w a (fs.length * 3) mkRu
  kids : ∀ i, (h : i < fs.length) → (h' : i < gs.length) → RuTw w (a + 1) fs[i] gs[i]
  row : ∃ cs : Array Value, w.heap[a]? = some (.cells cs 25 (0, 0)) ∧ cs.size = (fs.length + 1) * 3
theorem TwRs.low {w w' : World} {a d : Nat} {fs gs : List (Ru d)} (h : TwRs w a fs gs) (hb : Below w.heap.size w w') : TwRs w' a fs gs :=
  ⟨Nat.lt_of_lt_of_le h.lt hb.size, h.len, h.like, fun i hi => (h.cells i hi).of_block (hb.block a h.lt), h.mark.of_block (hb.block a h.lt), fun i h1 h2 => (h.kids i h1 h2).low hb, by obtain ⟨cs, h1, h2⟩ := h.row; exact ⟨cs, (hb.block a h.lt).trans h1, h2⟩⟩
theorem like_ru {d : Nat} {fs gs : List (Ru d)} (hl : gs.length = fs.length) (h : ∀ i, (h : i < fs.length) → (h' : i < gs.length) → RuLike fs[i] gs[i]) {P : Ru d → Prop} {Q : Ru d → Prop} (hf : ∀ f ∈ fs, P f) (hq : ∀ f g, RuLike f g → P f → Q g) : ∀ g ∈ gs, Q g := by
  intro g hg
  obtain ⟨i, hi, rfl⟩ := List.mem_iff_getElem.1 hg
  exact hq _ _ (h i (by omega) hi) (hf _ (List.getElem_mem (by omega)))
theorem TwRs.at {w : World} {a d : Nat} {fs gs : List (Ru d)} (h : TwRs w a fs gs) (hr : ∀ f ∈ fs, RuB f) : RusAt w d (some ⟨a, 0, none⟩) gs :=
  ⟨.inr ⟨a, 0, rfl, h.lt, fun i hi => by rw [Nat.zero_add]; exact h.cells i hi⟩, fun g hg => by
    obtain ⟨i, hi, rfl⟩ := List.mem_iff_getElem.1 hg
    exact (h.kids i (by have := h.len; omega) hi).at (h.like i (by have := h.len; omega) hi) (hr _ (List.getElem_mem (by have := h.len; omega)))⟩
open Go.RowKit

theorem infoRu : (Tryd.prog.info? 25).map (fun i => (i.zero, i.size, i.bytes)) = some (some (.agg #[.string ⟨#[]⟩, .slice none 0 0, .slice none 0 0]), 3, 64) := by kernel_rfl
theorem make_ru (n : Nat) (hn : n ≤ 2199023255552) (w : World) : (Instr.makeSlice 34 (.int .i64 ((n : Int) + 1)) (.int .i64 ((n : Int) + 1))).run Tryd.prog w =
    .ok (.slice (some ⟨w.heap.size, 0, none⟩) (n + 1) (n + 1)) (w.alloc (.cells (madeCells #[.string ⟨#[]⟩, .slice none 0 0, .slice none 0 0] ((n + 1) * 3)) 25)) := by
  obtain ⟨i, hi, hzz⟩ := Option.map_eq_some_iff.1 infoRu
  simp only [Prod.mk.injEq] at hzz
  obtain ⟨hz, hs, hb⟩ := hzz
  have h := run_make (P := Tryd.prog) w 34 25 i _ Tryd.underlying34 hi hz .i64 .i64 ((n : Int) + 1) ((n : Int) + 1) (by omega) (Int.le_refl _) (by rw [hb]; omega) (by omega)
  rw [h, hs, show ((n : Int) + 1).toNat = n + 1 by omega]
  rfl
/-- At the head of the copying rounds. -/
def TrRel {d : Nat} (fs : List (Ru d)) (w : World) (i : Value) (wr : World) : Prop :=
  ∃ (j : Nat) (gs : List (Ru d)) (cs : Array Value), i = .int .i64 j ∧ j ≤ fs.length ∧ gs.length = j ∧ (∀ m, (h : m < fs.length) → (h' : m < gs.length) → RuLike fs[m] gs[m]) ∧
    wr.heap[w.heap.size]? = some (.cells cs 25 (0, 0)) ∧ cs.size = (fs.length + 1) * 3 ∧ (∀ m, (h : m < gs.length) → VsAt wr w.heap.size (m * 3) gs[m].cells) ∧ (∀ m, (h : m < fs.length) → (h' : m < gs.length) → RuTw wr (w.heap.size + 1) fs[m] gs[m]) ∧ Below w.heap.size w wr
theorem ru_len {d : Nat} (x : Ru d) : x.cells.length = 3 := rfl
theorem tr_next {d : Nat} {fs gs : List (Ru d)} {cs : Array Value} {w wr w1 : World} {j : Nat} {g : Ru d} (hlt : j < fs.length) (hl : gs.length = j) (hal : ∀ m, (h : m < fs.length) → (h' : m < gs.length) → RuLike fs[m] gs[m])
    (hbk : wr.heap[w.heap.size]? = some (.cells cs 25 (0, 0))) (hcs : cs.size = (fs.length + 1) * 3) (hcell : ∀ m, (h : m < gs.length) → VsAt wr w.heap.size (m * 3) gs[m].cells)
    (htw : ∀ m, (h : m < fs.length) → (h' : m < gs.length) → RuTw wr (w.heap.size + 1) fs[m] gs[m]) (hbe : Below w.heap.size w wr) (hal1 : RuLike fs[j] g) (htw1 : RuTw w1 wr.heap.size fs[j] g) (hb1 : Below wr.heap.size wr w1) :
    TrRel fs w (.int .i64 ((j : Int) + 1)) (putL w1 w.heap.size (j * 3) g.cells) := by
  have hszr : w.heap.size < wr.heap.size := (Array.getElem?_eq_some_iff.1 hbk).1
  have hbk1 := (hb1.block w.heap.size hszr).trans hbk
  have hblk : ∀ k, w.heap.size + 1 ≤ k → k < w1.heap.size → (putL w1 w.heap.size (j * 3) g.cells).heap[k]? = w1.heap[k]? :=
    fun k hk _ => putL_block (by omega) _ _ _
  refine ⟨j + 1, gs ++ [g], _, rfl, by omega, by simp [hl], ?_, putL_any _ _ _ _ hbk1, by rw [setL_size]; exact hcs, ?_, ?_, putL_below (Nat.le_refl _) _ _ _ (hbe.trans (hb1.mono (by omega)))⟩
  · intro m h h'
    by_cases hm : m < j
    · rw [List.getElem_append_left (by omega)]
      exact hal m h (by omega)
    · obtain rfl : m = j := by simp [hl] at h'; omega
      rw [List.getElem_append_right (by omega)]
      simpa [hl] using hal1
  · intro m h
    by_cases hm : m < j
    · rw [List.getElem_append_left (by omega)]
      exact putL_keepsV hbk1 ((hcell m (by omega)).of_block (hb1.block _ hszr)) (by rw [ru_len, ru_len]; omega)
    · obtain rfl : m = j := by simp [hl] at h; omega
      have e1 : (gs ++ [g])[m] = g := by
        rw [List.getElem_append_right (by omega)]
        simp [hl]
      rw [e1]
      exact putL_newV hbk1 (by rw [ru_len]; omega)
  · intro m h h'
    by_cases hm : m < j
    · rw [List.getElem_append_left (by omega)]
      have h1 : RuTw w1 (w.heap.size + 1) fs[m] (gs[m]'(by omega)) := (htw m h (by omega)).up (Nat.le_refl _) hb1.size (fun k hk hk' => hb1.block k hk')
      exact h1.up (Nat.le_refl _) (by rw [putL_size]; omega) hblk
    · obtain rfl : m = j := by simp [hl] at h'; omega
      rw [List.getElem_append_right (by omega)]
      have h1 : RuTw (putL w1 w.heap.size (m * 3) g.cells) (w.heap.size + 1) fs[m] g := htw1.up (by omega) (by rw [putL_size]; omega) (fun k hk hk' => hblk k (by omega) hk')
      simpa [hl] using h1
/-- What a call leaves that copies a list of rules. -/
def TrsPost {d : Nat} (fs : List (Ru d)) (w : World) (r : Ending) (w' : World) : Prop :=
  ∃ a gs, r = .returned (.slice (some ⟨a, 0, none⟩) fs.length (fs.length + 1)) ∧ w.heap.size ≤ a ∧ TwRs w' a fs gs ∧ Below w.heap.size w w'
open Go.RowKit

def prL {d : Nat} : List (Ru d) → List UInt8
  | [] => []
  | f :: r => f.l ++ ([10] ++ prL r)
theorem prL_snoc {d : Nat} (l : List (Ru d)) (f : Ru d) : prL (l ++ [f]) = prL l ++ (f.l ++ [10]) := by
  induction l with
  | nil => simp [prL]
  | cons x r ih => simp [prL, ih]
theorem prL_take {d : Nat} (l : List (Ru d)) (j : Nat) (h : j < l.length) : prL (l.take (j + 1)) = prL (l.take j) ++ (l[j].l ++ [10]) := by
  rw [← List.take_append_getElem h, prL_snoc]
theorem Ru.l_le {d : Nat} {x : Ru d} (hr : RuB x) (ho : x.ok = true) : x.l.length ≤ 9000000 := ruL_le hr.r_ ho
theorem prL_le {d : Nat} (l : List (Ru d)) (hr : ∀ f ∈ l, RuB f) : ∀ j, j ≤ l.length → (∀ m, (h : m < l.length) → m < j → l[m].ok = true) → (prL (l.take j)).length ≤ 9000001 * j
  | 0, _, _ => by simp [prL]
  | j + 1, h, ho => by
    have h1 := prL_le l hr j (by omega) (fun m hm hmj => ho m hm (by omega))
    have h2 := Ru.l_le (hr l[j] (List.getElem_mem (by omega))) (ho j (by omega) (by omega))
    rw [prL_take l j (by omega), List.length_append, List.length_append]
    simp
    omega
theorem all_ru {d : Nat} {xs : List (Ru d)} (h : ∀ m, (hm : m < xs.length) → xs[m].ok = true) : xs.all Ru.ok = true := by
  rw [List.all_eq_true]
  intro t ht
  obtain ⟨m, hm, rfl⟩ := List.mem_iff_getElem.1 ht
  exact h m hm
theorem not_ru {d : Nat} {xs : List (Ru d)} {m : Nat} (hm : m < xs.length) (h : xs[m].ok = false) : xs.all Ru.ok = false := by
  rw [List.all_eq_false]
  exact ⟨xs[m], List.getElem_mem hm, by simp [h]⟩
theorem ret_yesB {b : Bool} {l : List UInt8} {s : ByteArray} (hb : b = true) (hs : bl s = l) : Ending.returned (.tuple #[.string s, .int .i64 0]) = .returned (.tuple #[.string ⟨(txt b l).toArray⟩, .int .i64 (okCode b 40)]) := by
  subst hb hs
  simp [txt, okCode]
theorem one {w : World} {b : Nat} {x0 : Value} {t : TypeId} {fz : Nat × Nat} (h : w.heap[b]? = some (.cells #[x0] t fz)) : w.cell? ⟨b, 0, none⟩ = some x0 := by
  rw [Lib.cell_of_heap h]; rfl
def RqRel {d : Nat} (fs : List (Ru d)) (w : World) (v i : Value) (wr : World) : Prop :=
  ∃ (j : Nat) (s : ByteArray), i = .int .i64 j ∧ v = .string s ∧ j ≤ fs.length ∧ bl s = prL (fs.take j) ∧ (∀ m, (h : m < fs.length) → m < j → fs[m].ok = true) ∧ Below w.heap.size w wr
open Go.RowKit

theorem tCheckRu (d : Nat) (x : Ru d) (w : World) (hx : RuAt w x) (hr : RuB x) :
    Calls Tryd.prog 18 #[.agg #[.string x.p, .slice x.hp x.hs.length x.hc, .slice x.bp x.bs.length x.bc]] w fun e w' => e = .returned (.int .i64 (okCode x.ok 40)) ∧ Below w.heap.size w w' :=
  tCheckRule d x.p x.hp x.hc x.hs x.bp x.bc x.bs w hx.h_ hx.b_ hr.r_
theorem pRuX (w0 : World) (b : Nat) (pre : List UInt8) (d : Nat) (x : Ru d) (w : World) (hE : Env w0 b w) (hT : Tabs w0) (hRl : RelsAt w0) (hFo : FoldsAt w0) (hx : RuAt w0 x) (hr : RuB x) (ho : x.ok = true) (hw : Wr 68 b pre w)
    (hl : pre.length + x.l.length ≤ 140737488355328) :
    Calls Tryd.prog 19 #[.pointer (some ⟨b, 0, none⟩), .agg #[.string x.p, .slice x.hp x.hs.length x.hc, .slice x.bp x.bs.length x.bc]] w (Wrote b pre x.l w) :=
  pRule w0 b pre d x.p x.hp x.hc x.hs x.bp x.bc x.bs w hE hT hRl hFo hx.h_ hx.b_ hr.r_ ho hw hl
def PgRel {d : Nat} (fs : List (Ru d)) (b : Nat) (w : World) (i : Value) (wr : World) : Prop :=
  ∃ j : Nat, i = .int .i64 j ∧ j ≤ fs.length ∧ (∀ m, (h : m < fs.length) → m < j → fs[m].ok = true) ∧ Wr 68 b (prL (fs.take j)) wr ∧ Env w b wr
set_option maxHeartbeats 8000000 in
set_option maxRecDepth 100000 in
theorem pProgram (d : Nat) (fs : List (Ru d)) (p : Option Addr) (cap : Nat) (w : World) (hs : RusAt w d p fs) (hr : ∀ f ∈ fs, RuB f) (hn : fs.length ≤ 1048576) (hT : Tabs w) (hRl : RelsAt w) (hFo : FoldsAt w) :
    Calls Tryd.prog 7 #[.agg #[.slice p fs.length cap]] w (TextPost (fs.all Ru.ok) (prL fs) w) := by
  have HR := Lib.hid hr; clear hr
  obtain ⟨W, hW⟩ : ∃ W, W = w.alloc (.cells #[.slice p fs.length cap] 40) := ⟨_, rfl⟩
  have HBW := Lib.hid (show Below w.heap.size w W by rw [hW]; exact below_alloc _ _)
  have hsW : W.heap.size = w.heap.size + 1 := by rw [hW]; simp
  have x0 : W.cell? ⟨w.heap.size, 0, none⟩ = some (.slice p fs.length cap) := one (show W.heap[w.heap.size]? = some (.cells #[.slice p fs.length cap] 40 (0, 0)) by rw [hW]; exact heap_alloc_new w _)
  have HS := Lib.hid (hs.up HBW.out); clear hs
  have HT := Lib.hid (hT.at HBW.out); clear hT
  have HRL := Lib.hid (hRl.at HBW.out); clear hRl
  have HFO := Lib.hid (hFo.at HBW.out); clear hFo
  have y0 : ((w.alloc (.cells #[.slice p fs.length cap] 40)).alloc (.cells #[.pointer none, .slice none 0 0] 68)).cell? ⟨w.heap.size, 0, none⟩ = some (.slice p fs.length cap) := by
    rw [← hW, ← x0]; exact (below_alloc W _).cell (p := ⟨w.heap.size, 0, none⟩) (by show w.heap.size < _; omega)
  go_enter Tryd.func7, Tryd.ntmps7
  go_wp2_with fail
  clear y0
  rw [← hW]
  clear x0 hW
  go_loopw [10] (fun i wr => PgRel fs (w.heap.size + 1) W i wr) (fun i _ => fs.length - (intOf i).toNat)
  case atStart => exact ⟨0, rfl, by omega, fun m _ h => by omega, by rw [← hsW]; exact wr_fresh _ W, ⟨by omega, below_alloc _ _⟩⟩
  case round =>
    obtain ⟨j, rfl, hj, hok, hwr, henv⟩ := hrel
    have Hok := Lib.hid hok; clear hok
    have HW := Lib.hid hwr; clear hwr
    have HE := Lib.hid henv; clear henv
    have hlt0 := HW.out.lt
    by_cases hlt : j < fs.length
    · rcases HS.out.1 with h0 | ⟨a, o, hp, ha, hc⟩
      · omega
      subst hp
      have hck := (hc j hlt).up HE.out.bel ha
      clear hc
      have HL := Lib.hid (prL_le fs HR.out j hj Hok.out)
      have HSL := Lib.hid (HS.out.2 fs[j] (List.getElem_mem hlt))
      have HRk := Lib.hid (HR.out fs[j] (List.getElem_mem hlt))
      obtain ⟨tk, htk⟩ : ∃ tk, tk = fs[j] := ⟨_, rfl⟩
      rw [← htk] at hck HSL HRk
      have HTK := Lib.hid htk; clear htk
      obtain ⟨c0, c1, c2⟩ := VsAt.three hck
      clear hck
      have HUP := Lib.hid (fun O => HE.out.bel.trans ((below_alloc wr O).mono HE.out.bel.size))
      rcases hx : tk.ok with _ | _
      all_goals have HX := Lib.hid hx
      all_goals clear hx
      · go_wp2_with fail
        refine (tCheckRu d tk _ (HSL.out.up (HUP.out _)) HRk.out).mono ?_
        rintro e w1 ⟨rfl, hb1⟩
        rw [HX.out, show okCode false 40 = 40 from rfl]
        have Hb1 := Lib.hid hb1; clear hb1
        clear c0 c1 c2
        go_wp2_with fail
        go_ret2
        exact ⟨ret_no (not_ru hlt (by rw [← HTK.out]; exact HX.out)), HBW.out.trans (((HUP.out _).trans (Hb1.out.mono (by have := HE.out.bel.size; simp; omega))).mono (by omega))⟩
      · have HFL := Lib.hid (Ru.l_le HRk.out HX.out)
        go_wp2_with fail
        refine (tCheckRu d tk _ (HSL.out.up (HUP.out _)) HRk.out).mono ?_
        rintro e w1 ⟨rfl, hb1⟩
        rw [HX.out, show okCode true 40 = 0 from rfl]
        clear c0 c1 c2
        obtain ⟨x0, x1, x2⟩ := three ((hb1.block wr.heap.size (by simp)).trans (heap_alloc_new wr (.cells #[.string tk.p, .slice tk.hp tk.hs.length tk.hc, .slice tk.bp tk.bs.length tk.bc] 25)))
        have HKA := Lib.hid ((Kp.alloc HW.out _).trans (Kp.of_below (HW.out.alloc _).lt hb1))
        have HW1 := Lib.hid ((HW.out.alloc _).up hb1)
        clear hb1
        go_wp2_with fail
        refine (pRuX W (w.heap.size + 1) _ d tk _ (HE.out.kp HKA.out) HT.out HRL.out HFO.out HSL.out HRk.out HX.out HW1.out (by have h1 := HL.out; have h2 := HFL.out; omega)).mono ?_
        rintro e w2 ⟨rfl, hw2, hk2⟩
        have H2 := Lib.hid hw2; clear hw2
        have HK2 := Lib.hid hk2; clear hk2
        have hlt2 := H2.out.lt
        clear x0 x1 x2
        go_wp2_with fail
        refine (pPut (w.heap.size + 1) w2.heap.size _ [⟨#[10]⟩] 1 _ (H2.out.alloc _) (by rw [catL_one, List.length_append]; have h1 := HL.out; have h2 := HFL.out; have h3 : (bl (⟨#[10]⟩ : ByteArray)).length = 1 := rfl; omega) (by simp) (heap_alloc_new w2 _) (by omega)).mono ?_
        rintro e w3 ⟨rfl, hw3, hk3⟩
        have H3 := Lib.hid hw3; clear hw3
        have HK3 := Lib.hid ((Kp.alloc H2.out _).trans hk3); clear hk3
        go_wp2_with fail
        go_roundw
        case rel => exact ⟨j + 1, by go_num, by omega, fun m hm hmj => by
                      by_cases e : m = j
                      · subst e; rw [← HTK.out]; exact HX.out
                      · exact Hok.out m hm (by omega), wr_eq (by rw [prL_take fs j hlt, ← HTK.out, catL_one]; simp [bl]) H3.out, ((HE.out.kp HKA.out).kp HK2.out).kp HK3.out⟩
        case measure => simp [intOf]; omega
    · obtain rfl : j = fs.length := by omega
      go_wp2_with fail
      refine (bText (w.heap.size + 1) _ _ HW.out).mono ?_
      rintro e w3 ⟨rfl, hk3⟩
      have HK3 := Lib.hid hk3; clear hk3
      go_wp2_with fail
      go_ret2
      exact ⟨ret_yesB (all_ru (fun m hm => Hok.out m hm hm)) (by simp [bl]), HBW.out.trans ((HE.out.kp HK3.out).bel.mono (by omega))⟩
open Go.RowKit

theorem prL_map {d : Nat} : ∀ l : List (Ru d), prL l = ((l.map Ru.l).map fun k => k ++ [10]).flatten
  | [] => rfl
  | f :: r => by simp [prL, prL_map r]
theorem all_map2 {d : Nat} (l : List (Ru d)) : l.all Ru.ok = (l.map Ru.ok).all id := by
  rw [List.all_map]
  rfl
theorem ok_like {d : Nat} {fs gs : List (Ru d)} (hl : gs.length = fs.length) (h : ∀ i, (h : i < fs.length) → (h' : i < gs.length) → RuLike fs[i] gs[i]) : gs.map Ru.ok = fs.map Ru.ok := by
  refine List.ext_getElem (by simp [hl]) fun i h1 h2 => ?_
  have h3 := h i (by simpa using h2) (by simpa using h1)
  simp [h3.ok]
theorem l_like {d : Nat} {fs gs : List (Ru d)} (hl : gs.length = fs.length) (h : ∀ i, (h : i < fs.length) → (h' : i < gs.length) → RuLike fs[i] gs[i]) : gs.map Ru.l = fs.map Ru.l := by
  refine List.ext_getElem (by simp [hl]) fun i h1 h2 => ?_
  have h3 := h i (by simpa using h2) (by simpa using h1)
  simp [h3.l]
theorem text_like {d : Nat} {fs gs : List (Ru d)} (hl : gs.length = fs.length) (h : ∀ i, (h : i < fs.length) → (h' : i < gs.length) → RuLike fs[i] gs[i]) {w : World} {e : Ending} {w' : World} (hp : TextPost (gs.all Ru.ok) (prL gs) w e w') : TextPost (fs.all Ru.ok) (prL fs) w e w' := by
  rw [all_map2, prL_map, ok_like hl h, l_like hl h, ← all_map2, ← prL_map] at hp
  exact hp
def ru0 {d : Nat} : Ru d := ⟨⟨#[]⟩, none, 0, [], none, 0, []⟩
/-- Where the rule stands that comes to place m when so many have been turned. -/
def swq (n j m : Nat) : Nat := if m < j ∨ n ≤ m + j then n - 1 - m else m
theorem swq_step {n j m : Nat} (hm : m < n) (h1 : m ≠ j) (h2 : m ≠ n - 1 - j) : swq n (j + 1) m = swq n j m := by
  unfold swq
  by_cases h : m < j ∨ n ≤ m + j
  · rw [if_pos h, if_pos (by omega)]
  · rw [if_neg h, if_neg (by omega)]
/-- At the head of the turning rounds. -/
def SqRel {d : Nat} (fs gs : List (Ru d)) (a : Nat) (w W : World) (i : Value) (wr : World) : Prop :=
  ∃ (j : Nat) (cs : Array Value), i = .int .i64 j ∧ j ≤ gs.length / 2 ∧ wr.heap[a]? = some (.cells cs 25 (0, 0)) ∧ cs.size = (gs.length + 1) * 3 ∧
    (∀ m, m < gs.length → VsAt wr a (m * 3) (gs.getD (swq gs.length j m) ru0).cells) ∧ (∀ m, (h : m < fs.length) → (h' : m < gs.length) → RuTw wr (a + 1) fs[m] gs[m]) ∧ Below w.heap.size w wr ∧ W.heap.size ≤ wr.heap.size
theorem sq_next {d : Nat} {fs gs : List (Ru d)} {a j k : Nat} {w W wr wq : World} {cs : Array Value} {x y : Ru d} (hj : j < gs.length / 2) (hk : k = gs.length - 1 - j) (hx : x = gs.getD j ru0) (hy : y = gs.getD k ru0) (ha : w.heap.size ≤ a)
    (hbk : wr.heap[a]? = some (.cells cs 25 (0, 0))) (hcs : cs.size = (gs.length + 1) * 3) (hcell : ∀ m, m < gs.length → VsAt wr a (m * 3) (gs.getD (swq gs.length j m) ru0).cells) (htw : ∀ m, (h : m < fs.length) → (h' : m < gs.length) → RuTw wr (a + 1) fs[m] gs[m])
    (hbe : Below w.heap.size w wr) (hW : W.heap.size ≤ wr.heap.size) (hwq : wq = (putL (putL wr a (j * 3) y.cells) a (k * 3) x.cells).drew) :
    SqRel fs gs a w W (.int .i64 ((j : Int) + 1)) wq := by
  have hb1 := putL_any y.cells wr (j * 3) cs hbk
  have hb2 := putL_any x.cells _ (k * 3) _ hb1
  obtain ⟨X, hX⟩ : ∃ X, X = putL (putL wr a (j * 3) y.cells) a (k * 3) x.cells := ⟨_, rfl⟩
  rw [← hX] at hwq hb2
  have hdr : ∀ p : Nat, wq.heap[p]? = X.heap[p]? := by rw [hwq]; exact fun _ => rfl
  have hsz : wq.heap.size = wr.heap.size := by
    have h1 : wq.heap.size = X.heap.size := by rw [hwq]; rfl
    rw [h1, hX, putL_size, putL_size]
  refine ⟨j + 1, _, rfl, by omega, (hdr a).trans hb2, by rw [setL_size, setL_size]; exact hcs, ?_, ?_, ?_, by rw [hsz]; exact hW⟩
  · intro m hm
    have hw : VsAt X a (m * 3) (gs.getD (swq gs.length (j + 1) m) ru0).cells := by
      rw [hX]
      by_cases h2 : m = k
      · have e : gs.getD (swq gs.length (j + 1) m) ru0 = x := by
          rw [hx, show swq gs.length (j + 1) m = j by unfold swq; rw [if_pos (by omega)]; omega]
        rw [e, h2]
        exact putL_newV hb1 (by rw [setL_size, ru_len]; omega)
      · by_cases h1 : m = j
        · have e : gs.getD (swq gs.length (j + 1) m) ru0 = y := by
            rw [hy, show swq gs.length (j + 1) m = k by unfold swq; rw [if_pos (by omega)]; omega]
          rw [e, h1]
          exact putL_keepsV hb1 (putL_newV hbk (by rw [ru_len]; omega)) (by rw [ru_len, ru_len]; omega)
        · rw [swq_step hm h1 (by omega)]
          exact putL_keepsV hb1 (putL_keepsV hbk (hcell m hm) (by rw [ru_len, ru_len]; omega)) (by rw [ru_len, ru_len]; omega)
    exact hw.of_block (hdr a)
  · intro m h h'
    exact (htw m h h').up (Nat.le_refl _) (by omega) (fun p hp _ => (hdr p).trans (by rw [hX, putL_block (by omega), putL_block (by omega)]))
  · rw [hwq, hX]
    exact (putL_below ha _ _ _ (putL_below ha _ _ _ hbe)).drew
theorem sq_end {d : Nat} {gs : List (Ru d)} {a j : Nat} {wr : World} (hj : j = gs.length / 2) (hcell : ∀ m, m < gs.length → VsAt wr a (m * 3) (gs.getD (swq gs.length j m) ru0).cells) : ∀ i, (h : i < gs.reverse.length) → VsAt wr a (i * 3) gs.reverse[i].cells := by
  intro i h
  have hi : i < gs.length := by simpa using h
  have h1 := hcell i hi
  have e : gs.getD (swq gs.length j i) ru0 = gs.reverse[i] := by
    rw [List.getElem_reverse]
    have h2 : swq gs.length j i = gs.length - 1 - i := by
      unfold swq
      split
      · rfl
      · omega
    rw [h2, List.getD_eq_getElem?_getD, List.getElem?_eq_getElem (by omega)]
    rfl
  rwa [e] at h1
end Go.Proofs.YtdgbenadoaecoaaDoor
