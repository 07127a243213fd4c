/- Rules in a row of memory; the contract of BeyondRules. Marks of rules, copies of rules in a row: what they are, and the contracts of markRule and isRule. Copies of lists of rules: the contracts of TwinRules and LeftRules. The text of a program in plain Lean; the contract of the reference's Program. The contract of print.Program. The walk of PrintPrograms. Conditions: the rules lie in memory as they are told, no list is too long. the tables. the rules lie in memory as they are told; there are at most 2^20. the rules lie in memory as they are told; there are at most 2^20; the tables. the rules lie in memory as they are told, no list is too long; the tables lie as the program lays them. -/
import Derived.Test.YtdgbenadoaecoaaGreatDoorS28
import Derived.Test.YtdgbenadoaecoaaGreatDoorS24
import Derived.Test.YtdgbenadoaecoaaGreatDoorS16
import Derived.BigRegion
import Derived.RegionTactic
namespace Go.Proofs.YtdgbenadoaecoaaGreatDoor
open Go.RowKit Go.ChangeShapes Go.WideShapes

theorem VsAt.up {w w' : World} {B a o : Nat} {vs : List Value} (h : VsAt w a o vs) (hb : Below B w w') (ha : a < B) : VsAt w' a o vs :=
  h.of_block (hb.block a ha)
/-- Rules in a row of memory. -/
def RusAt (w : World) (d : Nat) (p : Option Addr) (xs : List (Ru d)) : Prop :=
  (xs.length = 0 ∨ ∃ a o, p = some ⟨a, o, none⟩ ∧ a < w.heap.size ∧ ∀ i, (h : i < xs.length) → VsAt w a (o + i * 3) xs[i].cells) ∧ ∀ x ∈ xs, RuAt w x
theorem RusAt.up {w w' : World} {d : Nat} {p : Option Addr} {xs : List (Ru d)} (h : RusAt w d p xs) (hb : Below w.heap.size w w') : RusAt w' d p xs :=
  ⟨h.1.imp id fun ⟨a, o, hp, ha, hc⟩ => ⟨a, o, hp, Nat.lt_of_lt_of_le ha hb.size, fun i hi => (hc i hi).up hb ha⟩, fun x hx => (h.2 x hx).up hb⟩
theorem VsAt.three {w : World} {a o : Nat} {x y z : Value} (h : VsAt w a o [x, y, z]) : w.cell? ⟨a, o, none⟩ = some x ∧ w.cell? ⟨a, o + 1, none⟩ = some y ∧ w.cell? ⟨a, o + 2, none⟩ = some z :=
  ⟨h 0 (by simp), h 1 (by simp), h 2 (by simp)⟩
section
variable {H : Type} {enc : TypeId × Value → H} {w : World} {base : Nat} {sp : Nat → Bool} {held : Bool}
/-- A list of rules that reads as data. -/
theorem trod_rules {D fuel : Nat} (hD : fuel ≤ D) {cs : List Value} {x : DataW H × List MemPlace} (h : DataW.trod enc Tryz.prog w base sp held fuel 33 cs = some x) (hw : ∀ n ∈ x.1.weights Tryz.prog 33, n ≤ reachBytes) :
    ∃ (p : Option Addr) (xs : List (Ru D)) (cap : Nat), cs = [.slice p xs.length cap] ∧ xs.length ≤ maxLen ∧ RusAt w D p xs ∧ (∀ x ∈ xs, RuB x) ∧ xs.length ≤ 2199023255552 := by
  obtain ⟨p, xs, cap, rfl, hm, hb, hrow, hR⟩ := open_list (α := Ru D) Tryz.underlying33 cellsRu (by decide) bytesRu (by decide) (Ru.cells) (fun y => RuAt w y ∧ RuB y) (fun t => by simp [Ru.cells]) h hw (fun f cs' y hf hy hwy => by
    obtain ⟨y, rfl, h1, h2⟩ := trod_rule (D := D) (by omega) hy hwy
    exact ⟨y, rfl, h1, h2⟩)
  refine ⟨p, xs, cap, rfl, hm, ⟨?_, fun y hy => (hR y hy).1⟩, fun y hy => (hR y hy).2, by unfold reachBytes at hb; omega⟩
  rcases hrow with h0 | ⟨a, o, hp, ha, hc⟩
  · exact .inl h0
  · exact .inr ⟨a, o, hp, ha, fun i hi k hk => hc i hi k (by simpa [Ru.cells] using hk)⟩
set_option maxRecDepth 100000 in
theorem open_rules {r : Reach} {b0 : Nat} {v : Value} {x : DataW H} {ps : List MemPlace} (hval : Value.okWide Tryz.prog w r b0 33 v) (hd : DataW.Trod enc Tryz.prog w base sp held 33 v x ps) (hw : ∀ n ∈ x.weights Tryz.prog 33, n ≤ reachBytes) :
    ∃ (d : Nat) (p : Option Addr) (cap : Nat) (xs : List (Ru d)), v = .slice p xs.length cap ∧ RusAt w d p xs ∧ (∀ x ∈ xs, RuB x) ∧ xs.length ≤ 2199023255552 := by
  obtain ⟨a, len, c, rfl⟩ := okWide_slice Tryz.underlying33 hval
  obtain ⟨n, hn⟩ := hd
  obtain ⟨p, xs, cap, hc, _, h1, h2, h3⟩ := trod_rules (D := n) (Nat.le_refl _) hn hw
  exact ⟨n, p, cap, xs, by simpa [Value.cells] using hc, h1, h2, h3⟩
end
def BrRel (n0 : Nat) (w : World) (v i : Value) (wr : World) : Prop := ∃ (j : Nat) (n : Int), i = .int .i64 j ∧ v = .int .i64 n ∧ j ≤ n0 ∧ (j : Int) ≤ n ∧ n ≤ 1048576 ∧ Below w.heap.size w wr
def BrPost (n0 : Nat) (w : World) (r : Ending) (w' : World) : Prop := ∃ b : Bool, r = .returned (.bool b) ∧ (b = false → n0 ≤ 1048576) ∧ Below w.heap.size w w'
set_option maxHeartbeats 4000000 in
theorem beyondRules (d : Nat) (xs : List (Ru d)) (p : Option Addr) (cap : Nat) (w : World) (hs : RusAt w d p xs) (hr : ∀ x ∈ xs, RuB x) :
    Calls Tryz.prog 11 #[.slice p xs.length cap] w (BrPost xs.length w) := by
  have HS := Lib.hid hs; clear hs
  have HR := Lib.hid hr; clear hr
  go_enter Tryz.func11, Tryz.ntmps11
  go_wp2_with fail
  go_loopw [3, 4] (fun v i wr => BrRel xs.length w v i wr) (fun _ i _ => xs.length - (intOf i).toNat)
  case atStart => exact ⟨0, 0, rfl, rfl, by omega, by omega, by omega, Below.refl _ _⟩
  case round =>
    obtain ⟨j, n, rfl, rfl, hj, hn1, hn2, hb⟩ := hrel
    have Hb := Lib.hid hb; clear hb
    by_cases hlt : j < xs.length
    · rcases HS.out.1 with h0 | ⟨a, o, hp, ha, hc⟩
      · omega
      subst hp
      have hck := (hc j hlt).up Hb.out ha
      clear hc
      have HX := Lib.hid ((HS.out.2 xs[j] (List.getElem_mem hlt)).up Hb.out)
      have HB := Lib.hid (HR.out xs[j] (List.getElem_mem hlt))
      obtain ⟨x, hx⟩ : ∃ x, x = xs[j] := ⟨_, rfl⟩
      rw [← hx] at hck HX HB
      clear hx
      obtain ⟨c0, c1, c2⟩ := VsAt.three hck
      clear hck
      have HC := Lib.hid (fun left w' h h1 h2 => ruleParts d x.p x.hp x.hs.length x.hc x.bs x.bp x.bc left w' HB.out.hn (by have := HB.out.bn; omega) h HB.out.bb h1 h2)
      go_wp2_with fail
      refine (HC.out _ _ HX.out.b_ (by decide) (by decide)).mono ?_
      rintro r w1 ⟨m, rfl, hm1, hm2, hb1⟩
      have Hb1 := Lib.hid (Hb.out.trans (hb1.mono Hb.out.size)); clear hb1
      clear c0 c1 c2
      by_cases hbig : 1048576 < n + m
      · go_wp2_with fail
        go_ret
        exact ⟨true, rfl, (fun h => nomatch h), Hb1.out⟩
      · go_wp2_with fail
        exact ⟨⟨j + 1, n + m, by go_num, rfl, by omega, by omega, by omega, Hb1.out⟩, by simp [intOf]; omega⟩
    · go_wp2_with fail
      go_ret
      exact ⟨false, rfl, (fun _ => by omega), Hb.out⟩
open Go.RowKit

def mkRu : List Value := [.string markB, .slice none 0 0, .slice none 0 0]
set_option maxHeartbeats 2000000 in
theorem mRule (w : World) (hT : Tabs w) : Calls Tryz.prog 28 #[.int .i64 777777] w fun e w' =>
    e = .returned (.agg #[.string markB, .slice none 0 0, .slice none 0 0]) ∧ Below w.heap.size w w' := by
  have HT := Lib.hid hT; clear hT
  obtain ⟨W, hW⟩ : ∃ W, W = w.alloc (.cells #[.string ⟨#[]⟩, .slice none 0 0, .slice none 0 0] 25) := ⟨_, rfl⟩
  have HBW := Lib.hid (show Below w.heap.size w W by rw [hW]; exact below_alloc _ _)
  have hsW : W.heap.size = w.heap.size + 1 := by rw [hW]; simp
  have HBX := Lib.hid (show W.heap[w.heap.size]? = some (.cells #[.string ⟨#[]⟩, .slice none 0 0, .slice none 0 0] 25 (0, 0)) by rw [hW]; exact heap_alloc_new w _)
  obtain ⟨mk, hmk⟩ : ∃ mk, mk = markB := ⟨_, rfl⟩
  have HMK := Lib.hid hmk
  rw [← hmk]
  clear hmk
  go_enter Tryz.func28, Tryz.ntmps28
  go_wp2_with fail
  rw [← hW]
  clear hW
  refine (mWord _ (HT.out.at HBW.out)).mono ?_
  rintro e w1 ⟨rfl, hb⟩
  rw [← HMK.out]
  have hbx := (hb.block w.heap.size (by omega)).trans HBX.out
  obtain ⟨x0, x1, x2⟩ := three hbx
  have f0 : w1.frozen? ⟨w.heap.size, 0, none⟩ = false := Lib.frozen_of_heap hbx 0
  have f1 : w1.frozen? ⟨w.heap.size, 1, none⟩ = false := Lib.frozen_of_heap hbx 1
  have f2 : w1.frozen? ⟨w.heap.size, 2, none⟩ = false := Lib.frozen_of_heap hbx 2
  have HBX1 := Lib.hid hbx
  have Hb := Lib.hid (HBW.out.trans (hb.mono (by omega))); clear hb hbx
  go_wp2_with fail
  change bodyPost _ _ _ _ _ (putL w1 w.heap.size 0 [.string mk, .slice none 0 0, .slice none 0 0])
  clear x0 x1 x2 f0 f1 f2
  obtain ⟨W2, hW2⟩ : ∃ W2, W2 = putL w1 w.heap.size 0 [.string mk, .slice none 0 0, .slice none 0 0] := ⟨_, rfl⟩
  have hb2 : W2.heap[w.heap.size]? = some (.cells #[.string mk, .slice none 0 0, .slice none 0 0] 25 (0, 0)) := by
    rw [hW2]
    exact putL_heap [.string mk, .slice none 0 0, .slice none 0 0] HBX1.out rfl
  have HBp := Lib.hid (show Below w.heap.size w W2 by rw [hW2]; exact putL_below (Nat.le_refl _) _ _ _ Hb.out)
  rw [← hW2]
  clear hW2
  obtain ⟨z0, z1, z2⟩ := three hb2
  clear hb2
  refine bodyPost_ret (v := .agg #[.string mk, .slice none 0 0, .slice none 0 0]) (by simp [results, Tryz.results28, go_sem, z0, z1, z2]) rfl ?_
  exact ⟨rfl, HBp.out⟩
set_option maxHeartbeats 2000000 in
theorem isMarkR (w : World) (hT : Tabs w) : Calls Tryz.prog 31 #[.agg #[.string markB, .slice none 0 0, .slice none 0 0], .int .i64 777777] w fun e w' =>
    e = .returned (.bool true) ∧ Below w.heap.size w w' := by
  have HT := Lib.hid hT; clear hT
  obtain ⟨mk, hmk⟩ : ∃ mk, mk = markB := ⟨_, rfl⟩
  have HMK := Lib.hid hmk
  rw [← hmk]
  clear hmk
  obtain ⟨W, hW⟩ : ∃ W, W = w.alloc (.cells #[.string mk, .slice none 0 0, .slice none 0 0] 25) := ⟨_, rfl⟩
  have HBW := Lib.hid (show Below w.heap.size w W by rw [hW]; exact below_alloc _ _)
  have hsW : W.heap.size = w.heap.size + 1 := by rw [hW]; simp
  have hbk : w.heap.size < W.heap.size := by omega
  obtain ⟨x0, x1, x2⟩ := three (show W.heap[w.heap.size]? = some (.cells #[.string mk, .slice none 0 0, .slice none 0 0] 25 (0, 0)) by rw [hW]; exact heap_alloc_new w _)
  go_enter Tryz.func31, Tryz.ntmps31
  go_wp2_with fail
  rw [← hW]
  clear hW
  go_region_held3 (fun w' => w'.cell? ⟨w.heap.size, 0, none⟩ = W.cell? ⟨w.heap.size, 0, none⟩ ∧ w'.cell? ⟨w.heap.size, 1, none⟩ = W.cell? ⟨w.heap.size, 1, none⟩ ∧ w'.cell? ⟨w.heap.size, 2, none⟩ = W.cell? ⟨w.heap.size, 2, none⟩)
    (first | exact ⟨rfl, rfl, rfl⟩ | exact ⟨Hb.out.cell hbk, Hb.out.cell hbk, Hb.out.cell hbk⟩)
    (first
      | (go_at_call 60
         refine (mWord _ ?_).mono ?_
         · exact HT.out.at HBW.out.drew
         rintro r w1 ⟨rfl, hb⟩
         rw [← HMK.out]
         have Hb := Lib.hid (show Below W.heap.size W w1 from ⟨hb.os, hb.tape, hb.output, hb.size, hb.block⟩)
         clear hb))
  all_goals
    clear x0 x1 x2
    go_wp2_with fail
    go_ret
    exact ⟨rfl, HBW.out.trans (Hb.out.mono (by omega))⟩
/-- One rule is another's copy. -/
structure RuLike {d : Nat} (x y : Ru d) : Prop where
  p_ : y.p = x.p
  hs_ : y.hs = x.hs
  bl : y.bs.length = x.bs.length
  bk : ∀ i, (h : i < x.bs.length) → (h' : i < y.bs.length) → LtLike x.bs[i] y.bs[i]
theorem RuLike.b {d : Nat} {x y : Ru d} (h : RuLike x y) (hr : RuB x) : RuB y :=
  ⟨⟨by rw [h.p_]; exact hr.r_.p_, by rw [h.hs_]; exact hr.r_.hl, by rw [h.bl]; exact hr.r_.bl, by rw [h.hs_]; exact hr.r_.h_, like_lt h.bl h.bk hr.r_.b_ (fun _ _ a b => a.r b)⟩, by rw [h.hs_]; exact hr.hn, like_lt h.bl h.bk hr.bb (fun _ _ a b => a.b b), by rw [h.bl]; exact hr.bn⟩
def Ru.ok {d : Nat} (x : Ru d) : Bool := ruOk x.p x.hs x.bs
def Ru.l {d : Nat} (x : Ru d) : List UInt8 := ruL x.p x.hs x.bs
theorem RuLike.ok {d : Nat} {x y : Ru d} (h : RuLike x y) : y.ok = x.ok := by
  unfold Ru.ok
  rw [h.p_, h.hs_, ruOk_like _ _ h.bl h.bk]
theorem RuLike.l {d : Nat} {x y : Ru d} (h : RuLike x y) : y.l = x.l := by
  unfold Ru.l
  rw [h.p_, h.hs_, ruL_like _ _ h.bl h.bk]
/-- The lists of a rule are copies, each with a mark behind it, in blocks from B on. -/
def RuTw (w : World) (B : Nat) {d : Nat} (x y : Ru d) : Prop :=
  ∃ a b, y.hp = some ⟨a, 0, none⟩ ∧ y.hc = x.hs.length + 1 ∧ y.bp = some ⟨b, 0, none⟩ ∧ y.bc = x.bs.length + 1 ∧ B ≤ a ∧ B ≤ b ∧ TwAg w a x.hs ∧ TwLs w b x.bs y.bs
theorem RuTw.up {w w' : World} {B B' : Nat} (hB : B' ≤ B) (hs : w.heap.size ≤ w'.heap.size) (hb : ∀ k, B ≤ k → k < w.heap.size → w'.heap[k]? = w.heap[k]?) {d : Nat} {x y : Ru d} (h : RuTw w B x y) : RuTw w' B' x y := by
  obtain ⟨a, b, h1, h2, h3, h4, h5, h6, h7, h8⟩ := h
  exact ⟨a, b, h1, h2, h3, h4, by omega, by omega, h7.of_block (Nat.lt_of_lt_of_le h7.lt hs) (hb a h5 h7.lt), h8.up hs (fun k hk hk' => hb k (by omega) hk')⟩
theorem RuTw.low {w w' : World} {B d : Nat} {x y : Ru d} (h : RuTw w B x y) (hb : Below w.heap.size w w') : RuTw w' B x y := h.up (Nat.le_refl _) hb.size (fun k _ hk => hb.block k hk)
theorem RuTw.at {w : World} {B d : Nat} {x y : Ru d} (h : RuTw w B x y) (hl : RuLike x y) (hr : RuB x) : RuAt w y := by
  obtain ⟨a, b, h1, h2, h3, h4, h5, h6, h7, h8⟩ := h
  exact ⟨by rw [h1, hl.hs_]; exact h7.sl, by rw [h3]; exact h8.at hr.bb⟩
/-- What a call leaves that copies a rule. -/
def TxPost {d : Nat} (x : Ru d) (w : World) (r : Ending) (w' : World) : Prop :=
  ∃ y : Ru d, r = .returned (.agg #[.string y.p, .slice y.hp y.hs.length y.hc, .slice y.bp y.bs.length y.bc]) ∧ RuLike x y ∧ RuTw w' w.heap.size x y ∧ Below w.heap.size w w'
theorem twinRu (d : Nat) (x : Ru d) (w : World) (hx : RuAt w x) (hr : RuB x) (hT : Tabs w) :
    Calls Tryz.prog 6 #[.agg #[.string x.p, .slice x.hp x.hs.length x.hc, .slice x.bp x.bs.length x.bc]] w (TxPost x w) := by
  refine (twinRule d x.p x.hp x.hc x.hs x.bp x.bc x.bs w hx.h_ hr.hn hx.b_ hr.r_.b_ hr.bb hr.bn hT).mono ?_
  rintro r w1 ⟨a, b, gs, rfl, ha, hb, hta, htl, hbe⟩
  refine ⟨⟨x.p, some ⟨a, 0, none⟩, x.hs.length + 1, x.hs, some ⟨b, 0, none⟩, x.bs.length + 1, gs⟩, ?_, ⟨rfl, rfl, htl.len, htl.like⟩, ⟨a, b, rfl, rfl, rfl, rfl, ha, hb, hta, htl⟩, hbe⟩
  rw [show gs.length = x.bs.length from htl.len]
theorem leftRu (d : Nat) (x y : Ru d) (B : Nat) (w : World) (hx : RuAt w x) (hr : RuB x) (hl : RuLike x y) (ht : RuTw w B x y) (hT : Tabs w) :
    Calls Tryz.prog 9 #[.agg #[.string y.p, .slice y.hp y.hs.length y.hc, .slice y.bp y.bs.length y.bc], .agg #[.string x.p, .slice x.hp x.hs.length x.hc, .slice x.bp x.bs.length x.bc]] w
      fun r w' => r = .returned (.bool true) ∧ Below w.heap.size w w' := by
  obtain ⟨a, b, h1, h2, h3, h4, h5, h6, h7, h8⟩ := ht
  have h := leftRule d x.p x.hp x.hc x.hs x.bp x.bc x.bs y.bs a b w hx.h_ hr.hn hx.b_ hr.bb hr.bn h7 h8 hT
  rw [h1, h2, h3, h4, hl.p_, hl.hs_, hl.bl]
  exact h
/-- A copy of a list of rules in block a, with a mark behind it. -/
structure TwRs (w : World) (a : Nat) {d : Nat} (fs gs : List (Ru d)) : Prop where
  lt : a < w.heap.size
  len : gs.length = fs.length
  like : ∀ i, (h : i < fs.length) → (h' : i < gs.length) → RuLike fs[i] gs[i]
  cells : ∀ i, (h : i < gs.length) → VsAt w a (i * 3) gs[i].cells
  mark : VsAt w a (fs.length * 3) mkRu
  kids : ∀ i, (h : i < fs.length) → (h' : i < gs.length) → RuTw w (a + 1) fs[i] gs[i]
  row : ∃ cs : Array Value, w.heap[a]? = some (.cells cs 25 (0, 0)) ∧ cs.size = (fs.length + 1) * 3
theorem TwRs.low {w w' : World} {a d : Nat} {fs gs : List (Ru d)} (h : TwRs w a fs gs) (hb : Below w.heap.size w w') : TwRs w' a fs gs :=
  ⟨Nat.lt_of_lt_of_le h.lt hb.size, h.len, h.like, fun i hi => (h.cells i hi).of_block (hb.block a h.lt), h.mark.of_block (hb.block a h.lt), fun i h1 h2 => (h.kids i h1 h2).low hb, by obtain ⟨cs, h1, h2⟩ := h.row; exact ⟨cs, (hb.block a h.lt).trans h1, h2⟩⟩
theorem like_ru {d : Nat} {fs gs : List (Ru d)} (hl : gs.length = fs.length) (h : ∀ i, (h : i < fs.length) → (h' : i < gs.length) → RuLike fs[i] gs[i]) {P : Ru d → Prop} {Q : Ru d → Prop} (hf : ∀ f ∈ fs, P f) (hq : ∀ f g, RuLike f g → P f → Q g) : ∀ g ∈ gs, Q g := by
  intro g hg
  obtain ⟨i, hi, rfl⟩ := List.mem_iff_getElem.1 hg
  exact hq _ _ (h i (by omega) hi) (hf _ (List.getElem_mem (by omega)))
theorem TwRs.at {w : World} {a d : Nat} {fs gs : List (Ru d)} (h : TwRs w a fs gs) (hr : ∀ f ∈ fs, RuB f) : RusAt w d (some ⟨a, 0, none⟩) gs :=
  ⟨.inr ⟨a, 0, rfl, h.lt, fun i hi => by rw [Nat.zero_add]; exact h.cells i hi⟩, fun g hg => by
    obtain ⟨i, hi, rfl⟩ := List.mem_iff_getElem.1 hg
    exact (h.kids i (by have := h.len; omega) hi).at (h.like i (by have := h.len; omega) hi) (hr _ (List.getElem_mem (by have := h.len; omega)))⟩
open Go.RowKit

theorem infoRu : (Tryz.prog.info? 25).map (fun i => (i.zero, i.size, i.bytes)) = some (some (.agg #[.string ⟨#[]⟩, .slice none 0 0, .slice none 0 0]), 3, 64) := by kernel_rfl
theorem make_ru (n : Nat) (hn : n ≤ 2199023255552) (w : World) : (Instr.makeSlice 33 (.int .i64 ((n : Int) + 1)) (.int .i64 ((n : Int) + 1))).run Tryz.prog w =
    .ok (.slice (some ⟨w.heap.size, 0, none⟩) (n + 1) (n + 1)) (w.alloc (.cells (madeCells #[.string ⟨#[]⟩, .slice none 0 0, .slice none 0 0] ((n + 1) * 3)) 25)) := by
  obtain ⟨i, hi, hzz⟩ := Option.map_eq_some_iff.1 infoRu
  simp only [Prod.mk.injEq] at hzz
  obtain ⟨hz, hs, hb⟩ := hzz
  have h := run_make (P := Tryz.prog) w 33 25 i _ Tryz.underlying33 hi hz .i64 .i64 ((n : Int) + 1) ((n : Int) + 1) (by omega) (Int.le_refl _) (by rw [hb]; omega) (by omega)
  rw [h, hs, show ((n : Int) + 1).toNat = n + 1 by omega]
  rfl
/-- At the head of the copying rounds. -/
def TrRel {d : Nat} (fs : List (Ru d)) (w : World) (i : Value) (wr : World) : Prop :=
  ∃ (j : Nat) (gs : List (Ru d)) (cs : Array Value), i = .int .i64 j ∧ j ≤ fs.length ∧ gs.length = j ∧ (∀ m, (h : m < fs.length) → (h' : m < gs.length) → RuLike fs[m] gs[m]) ∧
    wr.heap[w.heap.size]? = some (.cells cs 25 (0, 0)) ∧ cs.size = (fs.length + 1) * 3 ∧ (∀ m, (h : m < gs.length) → VsAt wr w.heap.size (m * 3) gs[m].cells) ∧ (∀ m, (h : m < fs.length) → (h' : m < gs.length) → RuTw wr (w.heap.size + 1) fs[m] gs[m]) ∧ Below w.heap.size w wr
theorem ru_len {d : Nat} (x : Ru d) : x.cells.length = 3 := rfl
theorem tr_next {d : Nat} {fs gs : List (Ru d)} {cs : Array Value} {w wr w1 : World} {j : Nat} {g : Ru d} (hlt : j < fs.length) (hl : gs.length = j) (hal : ∀ m, (h : m < fs.length) → (h' : m < gs.length) → RuLike fs[m] gs[m])
    (hbk : wr.heap[w.heap.size]? = some (.cells cs 25 (0, 0))) (hcs : cs.size = (fs.length + 1) * 3) (hcell : ∀ m, (h : m < gs.length) → VsAt wr w.heap.size (m * 3) gs[m].cells)
    (htw : ∀ m, (h : m < fs.length) → (h' : m < gs.length) → RuTw wr (w.heap.size + 1) fs[m] gs[m]) (hbe : Below w.heap.size w wr) (hal1 : RuLike fs[j] g) (htw1 : RuTw w1 wr.heap.size fs[j] g) (hb1 : Below wr.heap.size wr w1) :
    TrRel fs w (.int .i64 ((j : Int) + 1)) (putL w1 w.heap.size (j * 3) g.cells) := by
  have hszr : w.heap.size < wr.heap.size := (Array.getElem?_eq_some_iff.1 hbk).1
  have hbk1 := (hb1.block w.heap.size hszr).trans hbk
  have hblk : ∀ k, w.heap.size + 1 ≤ k → k < w1.heap.size → (putL w1 w.heap.size (j * 3) g.cells).heap[k]? = w1.heap[k]? :=
    fun k hk _ => putL_block (by omega) _ _ _
  refine ⟨j + 1, gs ++ [g], _, rfl, by omega, by simp [hl], ?_, putL_any _ _ _ _ hbk1, by rw [setL_size]; exact hcs, ?_, ?_, putL_below (Nat.le_refl _) _ _ _ (hbe.trans (hb1.mono (by omega)))⟩
  · intro m h h'
    by_cases hm : m < j
    · rw [List.getElem_append_left (by omega)]
      exact hal m h (by omega)
    · obtain rfl : m = j := by simp [hl] at h'; omega
      rw [List.getElem_append_right (by omega)]
      simpa [hl] using hal1
  · intro m h
    by_cases hm : m < j
    · rw [List.getElem_append_left (by omega)]
      exact putL_keepsV hbk1 ((hcell m (by omega)).of_block (hb1.block _ hszr)) (by rw [ru_len, ru_len]; omega)
    · obtain rfl : m = j := by simp [hl] at h; omega
      have e1 : (gs ++ [g])[m] = g := by
        rw [List.getElem_append_right (by omega)]
        simp [hl]
      rw [e1]
      exact putL_newV hbk1 (by rw [ru_len]; omega)
  · intro m h h'
    by_cases hm : m < j
    · rw [List.getElem_append_left (by omega)]
      have h1 : RuTw w1 (w.heap.size + 1) fs[m] (gs[m]'(by omega)) := (htw m h (by omega)).up (Nat.le_refl _) hb1.size (fun k hk hk' => hb1.block k hk')
      exact h1.up (Nat.le_refl _) (by rw [putL_size]; omega) hblk
    · obtain rfl : m = j := by simp [hl] at h'; omega
      rw [List.getElem_append_right (by omega)]
      have h1 : RuTw (putL w1 w.heap.size (m * 3) g.cells) (w.heap.size + 1) fs[m] g := htw1.up (by omega) (by rw [putL_size]; omega) (fun k hk hk' => hblk k (by omega) hk')
      simpa [hl] using h1
/-- What a call leaves that copies a list of rules. -/
def TrsPost {d : Nat} (fs : List (Ru d)) (w : World) (r : Ending) (w' : World) : Prop :=
  ∃ a gs, r = .returned (.slice (some ⟨a, 0, none⟩) fs.length (fs.length + 1)) ∧ w.heap.size ≤ a ∧ TwRs w' a fs gs ∧ Below w.heap.size w w'
set_option maxHeartbeats 4000000 in
theorem twinRules (d : Nat) (fs : List (Ru d)) (p : Option Addr) (cap : Nat) (w : World) (hs : RusAt w d p fs) (hr : ∀ f ∈ fs, RuB f) (hn : fs.length ≤ 2199023255552) (hT : Tabs w) :
    Calls Tryz.prog 12 #[.slice p fs.length cap] w (TrsPost fs w) := by
  have HS := Lib.hid hs; clear hs
  have HR := Lib.hid hr; clear hr
  have HT := Lib.hid hT; clear hT
  have hmk := fun w => make_ru fs.length hn w
  obtain ⟨Z, hZ⟩ : ∃ Z, Z = madeCells #[.string ⟨#[]⟩, .slice none 0 0, .slice none 0 0] ((fs.length + 1) * 3) := ⟨_, rfl⟩
  have HZS := Lib.hid (show Z.size = (fs.length + 1) * 3 by rw [hZ]; exact size_madeCells _ _)
  simp only [← hZ] at hmk
  clear hZ
  go_enter Tryz.func12, Tryz.ntmps12
  go_wp2_with fail
  clear hmk
  go_loopw [4] (fun i wr => TrRel fs w i wr) (fun i _ => fs.length - (intOf i).toNat)
  case atStart => exact ⟨0, [], Z, rfl, by omega, rfl, fun m _ h => by simp at h, heap_alloc_new w _, HZS.out, fun m h => by simp at h, fun m _ h => by simp at h, below_alloc _ _⟩
  case round =>
    obtain ⟨j, gs, cs, rfl, hj, hl, hal, hbk, hcs, hcell, htw, hbe⟩ := hrel
    have HL := Lib.hid hl; clear hl
    have HAL := Lib.hid hal; clear hal
    have HCELL := Lib.hid hcell; clear hcell
    have HTW := Lib.hid htw; clear htw
    have HBE := Lib.hid hbe; clear hbe
    have HBK := Lib.hid hbk
    have hszr : w.heap.size < wr.heap.size := (Array.getElem?_eq_some_iff.1 hbk).1
    clear hbk
    by_cases hlt : j < fs.length
    · rcases HS.out.1 with h0 | ⟨a, o, hp, ha, hc⟩
      · omega
      subst hp
      have hck := (hc j hlt).up HBE.out ha
      clear hc
      have HE := Lib.hid ((HS.out.2 fs[j] (List.getElem_mem hlt)).up HBE.out)
      have HRk := Lib.hid (HR.out fs[j] (List.getElem_mem hlt))
      obtain ⟨tk, htk⟩ : ∃ tk, tk = fs[j] := ⟨_, rfl⟩
      rw [← htk] at hck HE HRk
      have HTK := Lib.hid htk; clear htk
      obtain ⟨c0, c1, c2⟩ := VsAt.three hck
      clear hck
      go_wp2_with fail
      refine (twinRu d tk _ HE.out HRk.out (HT.out.at HBE.out)).mono ?_
      rintro r w1 ⟨g, rfl, hal1, htw1, hb1⟩
      clear c0 c1 c2
      have HTW1 := Lib.hid htw1; clear htw1
      have HAL1 := Lib.hid hal1; clear hal1
      have hbk1 := (hb1.block w.heap.size hszr).trans HBK.out
      have HB1 := Lib.hid hb1; clear hb1
      have q0 : w1.cell? ⟨w.heap.size, j * 3, none⟩ = some (cs[j * 3]'(by omega)) := by rw [Lib.cell_of_heap hbk1]; simp [show j * 3 < cs.size by omega]
      have q1 : w1.cell? ⟨w.heap.size, j * 3 + 1, none⟩ = some (cs[j * 3 + 1]'(by omega)) := by rw [Lib.cell_of_heap hbk1]; simp [show j * 3 + 1 < cs.size by omega]
      have q2 : w1.cell? ⟨w.heap.size, j * 3 + 2, none⟩ = some (cs[j * 3 + 2]'(by omega)) := by rw [Lib.cell_of_heap hbk1]; simp [show j * 3 + 2 < cs.size by omega]
      have f0 : w1.frozen? ⟨w.heap.size, j * 3, none⟩ = false := Lib.frozen_of_heap hbk1 _
      have f1 : w1.frozen? ⟨w.heap.size, j * 3 + 1, none⟩ = false := Lib.frozen_of_heap hbk1 _
      have f2 : w1.frozen? ⟨w.heap.size, j * 3 + 2, none⟩ = false := Lib.frozen_of_heap hbk1 _
      have HBK1 := Lib.hid hbk1; clear hbk1
      go_wp2_with fail
      go_roundw
      case rel => exact tr_next hlt HL.out HAL.out HBK.out hcs HCELL.out HTW.out HBE.out (HTK.out ▸ HAL1.out) (HTK.out ▸ HTW1.out) HB1.out
      case measure => simp [intOf]; omega
    · obtain rfl : j = fs.length := by omega
      obtain ⟨mk, hmk⟩ : ∃ mk, mk = markB := ⟨_, rfl⟩
      have HMK := Lib.hid hmk
      have hcall := fun w' h => mRule w' h
      rw [← hmk] at hcall
      have HCALL := Lib.hid hcall
      clear hmk hcall
      go_wp2_with fail
      refine (HCALL.out _ (HT.out.at HBE.out)).mono ?_
      rintro r w1 ⟨rfl, hb1⟩
      have hbk1 := (hb1.block w.heap.size hszr).trans HBK.out
      have HB1 := Lib.hid hb1; clear hb1
      have q0 : w1.cell? ⟨w.heap.size, fs.length * 3, none⟩ = some (cs[fs.length * 3]'(by omega)) := by rw [Lib.cell_of_heap hbk1]; simp [show fs.length * 3 < cs.size by omega]
      have q1 : w1.cell? ⟨w.heap.size, fs.length * 3 + 1, none⟩ = some (cs[fs.length * 3 + 1]'(by omega)) := by rw [Lib.cell_of_heap hbk1]; simp [show fs.length * 3 + 1 < cs.size by omega]
      have q2 : w1.cell? ⟨w.heap.size, fs.length * 3 + 2, none⟩ = some (cs[fs.length * 3 + 2]'(by omega)) := by rw [Lib.cell_of_heap hbk1]; simp [show fs.length * 3 + 2 < cs.size by omega]
      have f0 : w1.frozen? ⟨w.heap.size, fs.length * 3, none⟩ = false := Lib.frozen_of_heap hbk1 _
      have f1 : w1.frozen? ⟨w.heap.size, fs.length * 3 + 1, none⟩ = false := Lib.frozen_of_heap hbk1 _
      have f2 : w1.frozen? ⟨w.heap.size, fs.length * 3 + 2, none⟩ = false := Lib.frozen_of_heap hbk1 _
      have HBK1 := Lib.hid hbk1; clear hbk1
      go_wp2_with fail
      go_ret
      clear q0 q1 q2 f0 f1 f2
      rw [HMK.out]
      change TrsPost fs w _ (putL w1 w.heap.size (fs.length * 3) mkRu)
      refine ⟨w.heap.size, gs, rfl, Nat.le_refl _, ⟨?_, HL.out, HAL.out, ?_, putL_newV HBK1.out (by show fs.length * 3 + 3 ≤ cs.size; omega), ?_, ⟨_, putL_any _ _ _ _ HBK1.out, by rw [setL_size]; exact hcs⟩⟩, putL_below (Nat.le_refl _) _ _ _ (HBE.out.trans (HB1.out.mono (by omega)))⟩
      · rw [putL_size]
        have := HB1.out.size
        omega
      · intro m h
        exact putL_keepsV HBK1.out ((HCELL.out m h).of_block (HB1.out.block _ hszr)) (by have := HL.out; rw [ru_len]; show m * 3 + 3 ≤ fs.length * 3 ∨ _; omega)
      · intro m h h'
        have h1 : RuTw w1 (w.heap.size + 1) fs[m] gs[m] := (HTW.out m h h').up (Nat.le_refl _) HB1.out.size (fun k hk hk' => HB1.out.block k hk')
        exact h1.up (by omega) (by rw [putL_size]; omega) (fun k hk _ => putL_block (by omega) _ _ _)
set_option maxHeartbeats 4000000 in
theorem leftRules (d : Nat) (fs gs : List (Ru d)) (a : Nat) (p : Option Addr) (cap : Nat) (w : World) (hs : RusAt w d p fs) (hr : ∀ f ∈ fs, RuB f) (hn : fs.length ≤ 2199023255552) (ht : TwRs w a fs gs) (hT : Tabs w) :
    Calls Tryz.prog 15 #[.slice (some ⟨a, 0, none⟩) fs.length (fs.length + 1), .slice p fs.length cap] w fun r w' => r = .returned (.bool true) ∧ Below w.heap.size w w' := by
  have HS := Lib.hid hs; clear hs
  have HR := Lib.hid hr; clear hr
  have HT := Lib.hid hT; clear hT
  have HTW := Lib.hid ht
  have ha := ht.lt
  clear ht
  go_enter Tryz.func15, Tryz.ntmps15
  go_wp2_with fail
  go_loopw [5] (fun i wr => ∃ j : Nat, j ≤ fs.length ∧ i = .int .i64 j ∧ Below w.heap.size w wr) (fun i _ => fs.length - (intOf i).toNat)
  case atStart => exact ⟨0, by omega, rfl, Below.refl _ _⟩
  case round =>
    obtain ⟨j, hj, rfl, hbe⟩ := hrel
    have HBE := Lib.hid hbe; clear hbe
    have har : a < wr.heap.size := Nat.lt_of_lt_of_le ha HBE.out.size
    by_cases hlt : j < fs.length
    · rcases HS.out.1 with h0 | ⟨b, o, hp, hb, hc⟩
      · omega
      subst hp
      have hbr : b < wr.heap.size := Nat.lt_of_lt_of_le hb HBE.out.size
      have hlt' : j < gs.length := by have := HTW.out.len; omega
      have hck := (hc j hlt).up HBE.out hb
      have hct := (HTW.out.cells j hlt').up HBE.out ha
      clear hc
      have HE := Lib.hid ((HS.out.2 fs[j] (List.getElem_mem hlt)).up HBE.out)
      have HN1 := Lib.hid (HR.out fs[j] (List.getElem_mem hlt))
      have HAk := Lib.hid (HTW.out.like j hlt hlt')
      have HTk := Lib.hid ((HTW.out.kids j hlt hlt').low HBE.out)
      obtain ⟨x, hx⟩ : ∃ x, x = fs[j] := ⟨_, rfl⟩
      obtain ⟨y, hy⟩ : ∃ y, y = gs[j] := ⟨_, rfl⟩
      rw [← hx] at hck HE HN1 HAk HTk
      rw [← hy] at hct HAk HTk
      clear hx hy
      obtain ⟨c0, c1, c2⟩ := VsAt.three hck
      obtain ⟨d0, d1, d2⟩ := VsAt.three hct
      clear hck hct
      have HCALL := Lib.hid (fun w' h3 h4 h5 => leftRu d x y (a + 1) w' h3 HN1.out HAk.out h4 h5)
      go_wp2_with fail
      go_region_held3 (fun w' => w'.cell? ⟨a, j * 3, none⟩ = wr.cell? ⟨a, j * 3, none⟩ ∧ w'.cell? ⟨a, j * 3 + 1, none⟩ = wr.cell? ⟨a, j * 3 + 1, none⟩ ∧ w'.cell? ⟨a, j * 3 + 2, none⟩ = wr.cell? ⟨a, j * 3 + 2, none⟩ ∧ w'.cell? ⟨b, o + j * 3, none⟩ = wr.cell? ⟨b, o + j * 3, none⟩ ∧ w'.cell? ⟨b, o + j * 3 + 1, none⟩ = wr.cell? ⟨b, o + j * 3 + 1, none⟩ ∧ w'.cell? ⟨b, o + j * 3 + 2, none⟩ = wr.cell? ⟨b, o + j * 3 + 2, none⟩)
        (first | exact ⟨rfl, rfl, rfl, rfl, rfl, rfl⟩ | exact ⟨Hb.out.cell har, Hb.out.cell har, Hb.out.cell har, Hb.out.cell hbr, Hb.out.cell hbr, Hb.out.cell hbr⟩)
        (first
          | (go_at_call 9
             refine (HCALL.out _ ?_ ?_ ?_).mono ?_
             · exact HE.out.up (Below.refl _ wr).drew
             · exact HTk.out.low (Below.refl _ wr).drew
             · exact HT.out.at HBE.out.drew
             rintro r w1 ⟨rfl, hb⟩
             have Hb := Lib.hid (show Below wr.heap.size wr w1 from ⟨hb.os, hb.tape, hb.output, hb.size, hb.block⟩)
             clear hb))
      all_goals
        clear c0 c1 c2 d0 d1 d2
        go_wp2_with fail
        go_roundw
        case rel => exact ⟨j + 1, by omega, by go_num, HBE.out.trans (Hb.out.mono HBE.out.size)⟩
        case measure => simp [intOf]; omega
    · obtain rfl : j = fs.length := by omega
      obtain ⟨m0, m1, m2⟩ := VsAt.three (HTW.out.mark.up HBE.out ha)
      obtain ⟨mk, hmk⟩ : ∃ mk, mk = markB := ⟨_, rfl⟩
      rw [← hmk] at m0
      have HMK := Lib.hid hmk; clear hmk
      go_wp2_with fail
      rw [HMK.out]
      refine (isMarkR _ (HT.out.at HBE.out)).mono ?_
      rintro r w1 ⟨rfl, hb⟩
      have Hb := Lib.hid hb; clear hb
      clear m0 m1 m2
      go_wp2_with fail
      go_ret
      exact ⟨rfl, HBE.out.trans (Hb.out.mono HBE.out.size)⟩
open Go.RowKit

def prL {d : Nat} : List (Ru d) → List UInt8
  | [] => []
  | f :: r => f.l ++ ([10] ++ prL r)
theorem prL_snoc {d : Nat} (l : List (Ru d)) (f : Ru d) : prL (l ++ [f]) = prL l ++ (f.l ++ [10]) := by
  induction l with
  | nil => simp [prL]
  | cons x r ih => simp [prL, ih]
theorem prL_take {d : Nat} (l : List (Ru d)) (j : Nat) (h : j < l.length) : prL (l.take (j + 1)) = prL (l.take j) ++ (l[j].l ++ [10]) := by
  rw [← List.take_append_getElem h, prL_snoc]
theorem Ru.l_le {d : Nat} {x : Ru d} (hr : RuB x) (ho : x.ok = true) : x.l.length ≤ 9000000 := ruL_le hr.r_ ho
theorem prL_le {d : Nat} (l : List (Ru d)) (hr : ∀ f ∈ l, RuB f) : ∀ j, j ≤ l.length → (∀ m, (h : m < l.length) → m < j → l[m].ok = true) → (prL (l.take j)).length ≤ 9000001 * j
  | 0, _, _ => by simp [prL]
  | j + 1, h, ho => by
    have h1 := prL_le l hr j (by omega) (fun m hm hmj => ho m hm (by omega))
    have h2 := Ru.l_le (hr l[j] (List.getElem_mem (by omega))) (ho j (by omega) (by omega))
    rw [prL_take l j (by omega), List.length_append, List.length_append]
    simp
    omega
theorem all_ru {d : Nat} {xs : List (Ru d)} (h : ∀ m, (hm : m < xs.length) → xs[m].ok = true) : xs.all Ru.ok = true := by
  rw [List.all_eq_true]
  intro t ht
  obtain ⟨m, hm, rfl⟩ := List.mem_iff_getElem.1 ht
  exact h m hm
theorem not_ru {d : Nat} {xs : List (Ru d)} {m : Nat} (hm : m < xs.length) (h : xs[m].ok = false) : xs.all Ru.ok = false := by
  rw [List.all_eq_false]
  exact ⟨xs[m], List.getElem_mem hm, by simp [h]⟩
theorem ret_yesB {b : Bool} {l : List UInt8} {s : ByteArray} (hb : b = true) (hs : bl s = l) : Ending.returned (.tuple #[.string s, .int .i64 0]) = .returned (.tuple #[.string ⟨(txt b l).toArray⟩, .int .i64 (okCode b 40)]) := by
  subst hb hs
  simp [txt, okCode]
theorem one {w : World} {b : Nat} {x0 : Value} {t : TypeId} {fz : Nat × Nat} (h : w.heap[b]? = some (.cells #[x0] t fz)) : w.cell? ⟨b, 0, none⟩ = some x0 := by
  rw [Lib.cell_of_heap h]; rfl
theorem rCheckRu (d : Nat) (x : Ru d) (w : World) (hx : RuAt w x) (hr : RuB x) :
    Calls Tryz.prog 19 #[.agg #[.string x.p, .slice x.hp x.hs.length x.hc, .slice x.bp x.bs.length x.bc]] w fun e w' => e = .returned (.int .i64 (okCode x.ok 40)) ∧ Below w.heap.size w w' :=
  rCheckRule d x.p x.hp x.hc x.hs x.bp x.bc x.bs w hx.h_ hx.b_ hr.r_
theorem rRuX (d : Nat) (x : Ru d) (w : World) (hx : RuAt w x) (hr : RuB x) (ho : x.ok = true) :
    Calls Tryz.prog 20 #[.agg #[.string x.p, .slice x.hp x.hs.length x.hc, .slice x.bp x.bs.length x.bc]] w fun e w' => e = .returned (.string ⟨x.l.toArray⟩) ∧ Below w.heap.size w w' :=
  rRuleL d x.p x.hp x.hc x.hs x.bp x.bc x.bs w hx.h_ hx.b_ hr.r_ ho
def RqRel {d : Nat} (fs : List (Ru d)) (w : World) (v i : Value) (wr : World) : Prop :=
  ∃ (j : Nat) (s : ByteArray), i = .int .i64 j ∧ v = .string s ∧ j ≤ fs.length ∧ bl s = prL (fs.take j) ∧ (∀ m, (h : m < fs.length) → m < j → fs[m].ok = true) ∧ Below w.heap.size w wr
set_option maxHeartbeats 4000000 in
theorem rProgram (d : Nat) (fs : List (Ru d)) (p : Option Addr) (cap : Nat) (w : World) (hs : RusAt w d p fs) (hr : ∀ f ∈ fs, RuB f) (hn : fs.length ≤ 1048576) :
    Calls Tryz.prog 13 #[.agg #[.slice p fs.length cap]] w (TextPost (fs.all Ru.ok) (prL fs) w) := by
  have HS := Lib.hid hs; clear hs
  have HR := Lib.hid hr; clear hr
  obtain ⟨W, hW⟩ : ∃ W, W = w.alloc (.cells #[.slice p fs.length cap] 38) := ⟨_, rfl⟩
  have HBW := Lib.hid (show Below w.heap.size w W by rw [hW]; exact below_alloc _ _)
  have hsW : W.heap.size = w.heap.size + 1 := by rw [hW]; simp
  have HBX := Lib.hid (show W.heap[w.heap.size]? = some (.cells #[.slice p fs.length cap] 38 (0, 0)) by rw [hW]; exact heap_alloc_new w _)
  go_enter Tryz.func13, Tryz.ntmps13
  go_wp2_with fail
  rw [← hW]
  clear hW
  go_loopw [4, 5] (fun v i wr => RqRel fs W v i wr) (fun _ i _ => fs.length - (intOf i).toNat)
  case atStart => exact ⟨0, _, rfl, rfl, by omega, rfl, fun m _ h => by omega, Below.refl _ _⟩
  case round =>
    obtain ⟨j, s, rfl, rfl, hj, hss, hok, hb⟩ := hrel
    have HSS := Lib.hid hss; clear hss
    have Hok := Lib.hid hok; clear hok
    have Hb := Lib.hid hb; clear hb
    have x0 := one ((Hb.out.block w.heap.size (by omega)).trans HBX.out)
    have hssz : s.size ≤ 9000001 * j := by
      have h1 := prL_le fs HR.out j hj Hok.out
      rw [← HSS.out, size_bl] at h1
      exact h1
    by_cases hlt : j < fs.length
    · rcases HS.out.1 with h0 | ⟨a, o, hp, ha, hc⟩
      · omega
      subst hp
      have hup := Lib.hid (HBW.out.trans (Hb.out.mono (by omega)))
      have hck := (hc j hlt).up hup.out ha
      clear hc
      have HE := Lib.hid ((HS.out.2 fs[j] (List.getElem_mem hlt)).up hup.out)
      have HRk := Lib.hid (HR.out fs[j] (List.getElem_mem hlt))
      obtain ⟨tk, htk⟩ : ∃ tk, tk = fs[j] := ⟨_, rfl⟩
      rw [← htk] at hck HE HRk
      have HTK := Lib.hid htk; clear htk
      obtain ⟨c0, c1, c2⟩ := VsAt.three hck
      clear hck
      rcases hx : tk.ok with _ | _
      all_goals have HX := Lib.hid hx
      all_goals clear hx
      · go_wp2_with fail
        refine (rCheckRu d tk _ HE.out HRk.out).mono ?_
        rintro e w1 ⟨rfl, hb1⟩
        rw [HX.out, show okCode false 40 = 40 from rfl]
        have Hb1 := Lib.hid hb1; clear hb1
        clear c0 c1 c2 x0
        go_wp2_with fail
        go_ret2
        exact ⟨ret_no (not_ru hlt (by rw [← HTK.out]; exact HX.out)), hup.out.trans (Hb1.out.mono hup.out.size)⟩
      · have HL := Lib.hid (Ru.l_le HRk.out HX.out)
        go_wp2_with fail
        refine (rCheckRu d tk _ HE.out HRk.out).mono ?_
        rintro e w1 ⟨rfl, hb1⟩
        rw [HX.out, show okCode true 40 = 0 from rfl]
        have hlr : w.heap.size < wr.heap.size := by have := Hb.out.size; omega
        have x1 := one ((hb1.block w.heap.size hlr).trans ((Hb.out.block w.heap.size (by omega)).trans HBX.out))
        have har : a < wr.heap.size := Nat.lt_of_lt_of_le ha hup.out.size
        have d0 := (hb1.cell har).trans c0
        have d1 := (hb1.cell har).trans c1
        have d2 := (hb1.cell har).trans c2
        have Hb1 := Lib.hid hb1; clear hb1
        clear c0 c1 c2 x0
        go_wp2_with fail
        refine (rRuX d tk _ (HE.out.up Hb1.out) HRk.out HX.out).mono ?_
        rintro e w2 ⟨rfl, hb2⟩
        have Hb2 := Lib.hid hb2; clear hb2
        clear d0 d1 d2 x1
        obtain ⟨x, hx⟩ : ∃ x : ByteArray, x = ⟨tk.l.toArray⟩ := ⟨_, rfl⟩
        have hxb : bl x = tk.l := by rw [hx]
        rw [← hx]
        have hxs : x.size ≤ 9000000 := by
          have h2 := HL.out
          rw [← hxb, size_bl] at h2
          exact h2
        have HXB := Lib.hid hxb; clear hxb hx
        have hcat1 : ¬ 9223372036854775807 < s.size + x.size := by omega
        have hcat2 : ¬ 9223372036854775807 < s.size + x.size + 1 := by omega
        go_wp2_with fail
        go_roundw
        case rel => exact ⟨j + 1, s ++ x ++ ⟨#[10]⟩, by go_num, rfl, by omega, by rw [bl_app, bl_app, HSS.out, HXB.out, prL_take fs j hlt, ← HTK.out]; simp [bl], fun m hm hmj => by
                      by_cases e : m = j
                      · subst e; rw [← HTK.out]; exact HX.out
                      · exact Hok.out m hm (by omega), Hb.out.trans ((Hb1.out.trans (Hb2.out.mono Hb1.out.size)).mono Hb.out.size)⟩
        case measure => simp [intOf]; omega
    · obtain rfl : j = fs.length := by omega
      go_wp2_with fail
      go_ret2
      exact ⟨ret_yesB (all_ru (fun m hm => Hok.out m hm hm)) (by rw [HSS.out, List.take_length]), HBW.out.trans (Hb.out.mono (by omega))⟩
open Go.RowKit

theorem tCheckRu (d : Nat) (x : Ru d) (w : World) (hx : RuAt w x) (hr : RuB x) :
    Calls Tryz.prog 22 #[.agg #[.string x.p, .slice x.hp x.hs.length x.hc, .slice x.bp x.bs.length x.bc]] w fun e w' => e = .returned (.int .i64 (okCode x.ok 40)) ∧ Below w.heap.size w w' :=
  tCheckRule d x.p x.hp x.hc x.hs x.bp x.bc x.bs w hx.h_ hx.b_ hr.r_
theorem pRuX (w0 : World) (b : Nat) (pre : List UInt8) (d : Nat) (x : Ru d) (w : World) (hE : Env w0 b w) (hT : Tabs w0) (hRl : RelsAt w0) (hFo : FoldsAt w0) (hx : RuAt w0 x) (hr : RuB x) (ho : x.ok = true) (hw : Wr 72 b pre w)
    (hl : pre.length + x.l.length ≤ 140737488355328) :
    Calls Tryz.prog 23 #[.pointer (some ⟨b, 0, none⟩), .agg #[.string x.p, .slice x.hp x.hs.length x.hc, .slice x.bp x.bs.length x.bc]] w (Wrote b pre x.l w) :=
  pRule w0 b pre d x.p x.hp x.hc x.hs x.bp x.bc x.bs w hE hT hRl hFo hx.h_ hx.b_ hr.r_ ho hw hl
def PgRel {d : Nat} (fs : List (Ru d)) (b : Nat) (w : World) (i : Value) (wr : World) : Prop :=
  ∃ j : Nat, i = .int .i64 j ∧ j ≤ fs.length ∧ (∀ m, (h : m < fs.length) → m < j → fs[m].ok = true) ∧ Wr 72 b (prL (fs.take j)) wr ∧ Env w b wr
set_option maxHeartbeats 8000000 in
set_option maxRecDepth 100000 in
theorem pProgram (d : Nat) (fs : List (Ru d)) (p : Option Addr) (cap : Nat) (w : World) (hs : RusAt w d p fs) (hr : ∀ f ∈ fs, RuB f) (hn : fs.length ≤ 1048576) (hT : Tabs w) (hRl : RelsAt w) (hFo : FoldsAt w) :
    Calls Tryz.prog 14 #[.agg #[.slice p fs.length cap]] w (TextPost (fs.all Ru.ok) (prL fs) w) := by
  have HR := Lib.hid hr; clear hr
  obtain ⟨W, hW⟩ : ∃ W, W = w.alloc (.cells #[.slice p fs.length cap] 38) := ⟨_, rfl⟩
  have HBW := Lib.hid (show Below w.heap.size w W by rw [hW]; exact below_alloc _ _)
  have hsW : W.heap.size = w.heap.size + 1 := by rw [hW]; simp
  have x0 : W.cell? ⟨w.heap.size, 0, none⟩ = some (.slice p fs.length cap) := one (show W.heap[w.heap.size]? = some (.cells #[.slice p fs.length cap] 38 (0, 0)) by rw [hW]; exact heap_alloc_new w _)
  have HS := Lib.hid (hs.up HBW.out); clear hs
  have HT := Lib.hid (hT.at HBW.out); clear hT
  have HRL := Lib.hid (hRl.at HBW.out); clear hRl
  have HFO := Lib.hid (hFo.at HBW.out); clear hFo
  have y0 : ((w.alloc (.cells #[.slice p fs.length cap] 38)).alloc (.cells #[.pointer none, .slice none 0 0] 72)).cell? ⟨w.heap.size, 0, none⟩ = some (.slice p fs.length cap) := by
    rw [← hW, ← x0]; exact (below_alloc W _).cell (p := ⟨w.heap.size, 0, none⟩) (by show w.heap.size < _; omega)
  go_enter Tryz.func14, Tryz.ntmps14
  go_wp2_with fail
  clear y0
  rw [← hW]
  clear x0 hW
  go_loopw [10] (fun i wr => PgRel fs (w.heap.size + 1) W i wr) (fun i _ => fs.length - (intOf i).toNat)
  case atStart => exact ⟨0, rfl, by omega, fun m _ h => by omega, by rw [← hsW]; exact wr_fresh _ W, ⟨by omega, below_alloc _ _⟩⟩
  case round =>
    obtain ⟨j, rfl, hj, hok, hwr, henv⟩ := hrel
    have Hok := Lib.hid hok; clear hok
    have HW := Lib.hid hwr; clear hwr
    have HE := Lib.hid henv; clear henv
    have hlt0 := HW.out.lt
    by_cases hlt : j < fs.length
    · rcases HS.out.1 with h0 | ⟨a, o, hp, ha, hc⟩
      · omega
      subst hp
      have hck := (hc j hlt).up HE.out.bel ha
      clear hc
      have HL := Lib.hid (prL_le fs HR.out j hj Hok.out)
      have HSL := Lib.hid (HS.out.2 fs[j] (List.getElem_mem hlt))
      have HRk := Lib.hid (HR.out fs[j] (List.getElem_mem hlt))
      obtain ⟨tk, htk⟩ : ∃ tk, tk = fs[j] := ⟨_, rfl⟩
      rw [← htk] at hck HSL HRk
      have HTK := Lib.hid htk; clear htk
      obtain ⟨c0, c1, c2⟩ := VsAt.three hck
      clear hck
      have HUP := Lib.hid (fun O => HE.out.bel.trans ((below_alloc wr O).mono HE.out.bel.size))
      rcases hx : tk.ok with _ | _
      all_goals have HX := Lib.hid hx
      all_goals clear hx
      · go_wp2_with fail
        refine (tCheckRu d tk _ (HSL.out.up (HUP.out _)) HRk.out).mono ?_
        rintro e w1 ⟨rfl, hb1⟩
        rw [HX.out, show okCode false 40 = 40 from rfl]
        have Hb1 := Lib.hid hb1; clear hb1
        clear c0 c1 c2
        go_wp2_with fail
        go_ret2
        exact ⟨ret_no (not_ru hlt (by rw [← HTK.out]; exact HX.out)), HBW.out.trans (((HUP.out _).trans (Hb1.out.mono (by have := HE.out.bel.size; simp; omega))).mono (by omega))⟩
      · have HFL := Lib.hid (Ru.l_le HRk.out HX.out)
        go_wp2_with fail
        refine (tCheckRu d tk _ (HSL.out.up (HUP.out _)) HRk.out).mono ?_
        rintro e w1 ⟨rfl, hb1⟩
        rw [HX.out, show okCode true 40 = 0 from rfl]
        clear c0 c1 c2
        obtain ⟨x0, x1, x2⟩ := three ((hb1.block wr.heap.size (by simp)).trans (heap_alloc_new wr (.cells #[.string tk.p, .slice tk.hp tk.hs.length tk.hc, .slice tk.bp tk.bs.length tk.bc] 25)))
        have HKA := Lib.hid ((Kp.alloc HW.out _).trans (Kp.of_below (HW.out.alloc _).lt hb1))
        have HW1 := Lib.hid ((HW.out.alloc _).up hb1)
        clear hb1
        go_wp2_with fail
        refine (pRuX W (w.heap.size + 1) _ d tk _ (HE.out.kp HKA.out) HT.out HRL.out HFO.out HSL.out HRk.out HX.out HW1.out (by have h1 := HL.out; have h2 := HFL.out; omega)).mono ?_
        rintro e w2 ⟨rfl, hw2, hk2⟩
        have H2 := Lib.hid hw2; clear hw2
        have HK2 := Lib.hid hk2; clear hk2
        have hlt2 := H2.out.lt
        clear x0 x1 x2
        go_wp2_with fail
        refine (pPut (w.heap.size + 1) w2.heap.size _ [⟨#[10]⟩] 1 _ (H2.out.alloc _) (by rw [catL_one, List.length_append]; have h1 := HL.out; have h2 := HFL.out; have h3 : (bl (⟨#[10]⟩ : ByteArray)).length = 1 := rfl; omega) (by simp) (heap_alloc_new w2 _) (by omega)).mono ?_
        rintro e w3 ⟨rfl, hw3, hk3⟩
        have H3 := Lib.hid hw3; clear hw3
        have HK3 := Lib.hid ((Kp.alloc H2.out _).trans hk3); clear hk3
        go_wp2_with fail
        go_roundw
        case rel => exact ⟨j + 1, by go_num, by omega, fun m hm hmj => by
                      by_cases e : m = j
                      · subst e; rw [← HTK.out]; exact HX.out
                      · exact Hok.out m hm (by omega), wr_eq (by rw [prL_take fs j hlt, ← HTK.out, catL_one]; simp [bl]) H3.out, ((HE.out.kp HKA.out).kp HK2.out).kp HK3.out⟩
        case measure => simp [intOf]; omega
    · obtain rfl : j = fs.length := by omega
      go_wp2_with fail
      refine (bText (w.heap.size + 1) _ _ HW.out).mono ?_
      rintro e w3 ⟨rfl, hk3⟩
      have HK3 := Lib.hid hk3; clear hk3
      go_wp2_with fail
      go_ret2
      exact ⟨ret_yesB (all_ru (fun m hm => Hok.out m hm hm)) (by simp [bl]), HBW.out.trans ((HE.out.kp HK3.out).bel.mono (by omega))⟩
open Go.RowKit

theorem prL_map {d : Nat} : ∀ l : List (Ru d), prL l = ((l.map Ru.l).map fun k => k ++ [10]).flatten
  | [] => rfl
  | f :: r => by simp [prL, prL_map r]
theorem all_map2 {d : Nat} (l : List (Ru d)) : l.all Ru.ok = (l.map Ru.ok).all id := by
  rw [List.all_map]
  rfl
theorem ok_like {d : Nat} {fs gs : List (Ru d)} (hl : gs.length = fs.length) (h : ∀ i, (h : i < fs.length) → (h' : i < gs.length) → RuLike fs[i] gs[i]) : gs.map Ru.ok = fs.map Ru.ok := by
  refine List.ext_getElem (by simp [hl]) fun i h1 h2 => ?_
  have h3 := h i (by simpa using h2) (by simpa using h1)
  simp [h3.ok]
theorem l_like {d : Nat} {fs gs : List (Ru d)} (hl : gs.length = fs.length) (h : ∀ i, (h : i < fs.length) → (h' : i < gs.length) → RuLike fs[i] gs[i]) : gs.map Ru.l = fs.map Ru.l := by
  refine List.ext_getElem (by simp [hl]) fun i h1 h2 => ?_
  have h3 := h i (by simpa using h2) (by simpa using h1)
  simp [h3.l]
theorem text_like {d : Nat} {fs gs : List (Ru d)} (hl : gs.length = fs.length) (h : ∀ i, (h : i < fs.length) → (h' : i < gs.length) → RuLike fs[i] gs[i]) {w : World} {e : Ending} {w' : World} (hp : TextPost (gs.all Ru.ok) (prL gs) w e w') : TextPost (fs.all Ru.ok) (prL fs) w e w' := by
  rw [all_map2, prL_map, ok_like hl h, l_like hl h, ← all_map2, ← prL_map] at hp
  exact hp
def ru0 {d : Nat} : Ru d := ⟨⟨#[]⟩, none, 0, [], none, 0, []⟩
/-- Where the rule stands that comes to place m when so many have been turned. -/
def swq (n j m : Nat) : Nat := if m < j ∨ n ≤ m + j then n - 1 - m else m
theorem swq_step {n j m : Nat} (hm : m < n) (h1 : m ≠ j) (h2 : m ≠ n - 1 - j) : swq n (j + 1) m = swq n j m := by
  unfold swq
  by_cases h : m < j ∨ n ≤ m + j
  · rw [if_pos h, if_pos (by omega)]
  · rw [if_neg h, if_neg (by omega)]
/-- At the head of the turning rounds. -/
def SqRel {d : Nat} (fs gs : List (Ru d)) (a : Nat) (w W : World) (i : Value) (wr : World) : Prop :=
  ∃ (j : Nat) (cs : Array Value), i = .int .i64 j ∧ j ≤ gs.length / 2 ∧ wr.heap[a]? = some (.cells cs 25 (0, 0)) ∧ cs.size = (gs.length + 1) * 3 ∧
    (∀ m, m < gs.length → VsAt wr a (m * 3) (gs.getD (swq gs.length j m) ru0).cells) ∧ (∀ m, (h : m < fs.length) → (h' : m < gs.length) → RuTw wr (a + 1) fs[m] gs[m]) ∧ Below w.heap.size w wr ∧ W.heap.size ≤ wr.heap.size
theorem sq_next {d : Nat} {fs gs : List (Ru d)} {a j k : Nat} {w W wr wq : World} {cs : Array Value} {x y : Ru d} (hj : j < gs.length / 2) (hk : k = gs.length - 1 - j) (hx : x = gs.getD j ru0) (hy : y = gs.getD k ru0) (ha : w.heap.size ≤ a)
    (hbk : wr.heap[a]? = some (.cells cs 25 (0, 0))) (hcs : cs.size = (gs.length + 1) * 3) (hcell : ∀ m, m < gs.length → VsAt wr a (m * 3) (gs.getD (swq gs.length j m) ru0).cells) (htw : ∀ m, (h : m < fs.length) → (h' : m < gs.length) → RuTw wr (a + 1) fs[m] gs[m])
    (hbe : Below w.heap.size w wr) (hW : W.heap.size ≤ wr.heap.size) (hwq : wq = (putL (putL wr a (j * 3) y.cells) a (k * 3) x.cells).drew) :
    SqRel fs gs a w W (.int .i64 ((j : Int) + 1)) wq := by
  have hb1 := putL_any y.cells wr (j * 3) cs hbk
  have hb2 := putL_any x.cells _ (k * 3) _ hb1
  obtain ⟨X, hX⟩ : ∃ X, X = putL (putL wr a (j * 3) y.cells) a (k * 3) x.cells := ⟨_, rfl⟩
  rw [← hX] at hwq hb2
  have hdr : ∀ p : Nat, wq.heap[p]? = X.heap[p]? := by rw [hwq]; exact fun _ => rfl
  have hsz : wq.heap.size = wr.heap.size := by
    have h1 : wq.heap.size = X.heap.size := by rw [hwq]; rfl
    rw [h1, hX, putL_size, putL_size]
  refine ⟨j + 1, _, rfl, by omega, (hdr a).trans hb2, by rw [setL_size, setL_size]; exact hcs, ?_, ?_, ?_, by rw [hsz]; exact hW⟩
  · intro m hm
    have hw : VsAt X a (m * 3) (gs.getD (swq gs.length (j + 1) m) ru0).cells := by
      rw [hX]
      by_cases h2 : m = k
      · have e : gs.getD (swq gs.length (j + 1) m) ru0 = x := by
          rw [hx, show swq gs.length (j + 1) m = j by unfold swq; rw [if_pos (by omega)]; omega]
        rw [e, h2]
        exact putL_newV hb1 (by rw [setL_size, ru_len]; omega)
      · by_cases h1 : m = j
        · have e : gs.getD (swq gs.length (j + 1) m) ru0 = y := by
            rw [hy, show swq gs.length (j + 1) m = k by unfold swq; rw [if_pos (by omega)]; omega]
          rw [e, h1]
          exact putL_keepsV hb1 (putL_newV hbk (by rw [ru_len]; omega)) (by rw [ru_len, ru_len]; omega)
        · rw [swq_step hm h1 (by omega)]
          exact putL_keepsV hb1 (putL_keepsV hbk (hcell m hm) (by rw [ru_len, ru_len]; omega)) (by rw [ru_len, ru_len]; omega)
    exact hw.of_block (hdr a)
  · intro m h h'
    exact (htw m h h').up (Nat.le_refl _) (by omega) (fun p hp _ => (hdr p).trans (by rw [hX, putL_block (by omega), putL_block (by omega)]))
  · rw [hwq, hX]
    exact (putL_below ha _ _ _ (putL_below ha _ _ _ hbe)).drew
theorem sq_end {d : Nat} {gs : List (Ru d)} {a j : Nat} {wr : World} (hj : j = gs.length / 2) (hcell : ∀ m, m < gs.length → VsAt wr a (m * 3) (gs.getD (swq gs.length j m) ru0).cells) : ∀ i, (h : i < gs.reverse.length) → VsAt wr a (i * 3) gs.reverse[i].cells := by
  intro i h
  have hi : i < gs.length := by simpa using h
  have h1 := hcell i hi
  have e : gs.getD (swq gs.length j i) ru0 = gs.reverse[i] := by
    rw [List.getElem_reverse]
    have h2 : swq gs.length j i = gs.length - 1 - i := by
      unfold swq
      split
      · rfl
      · omega
    rw [h2, List.getD_eq_getElem?_getD, List.getElem?_eq_getElem (by omega)]
    rfl
  rwa [e] at h1
set_option maxHeartbeats 16000000 in
set_option maxRecDepth 100000 in
theorem printPrograms (d : Nat) (p : Option Addr) (cap : Nat) (fs : List (Ru d)) (w : World) (hs : RusAt w d p fs) (hr : ∀ f ∈ fs, RuB f) (hn : fs.length ≤ 2199023255552) (hT : Tabs w) (hRl : RelsAt w) (hFo : FoldsAt w) :
    Calls Tryz.prog 4 #[.slice p fs.length cap] w fun r w' => r = .returned (.bool true) ∧ Below w.heap.size w w' := by
  have HS := Lib.hid hs; clear hs
  have HR := Lib.hid hr; clear hr
  have HT := Lib.hid hT; clear hT
  have HRL := Lib.hid hRl; clear hRl
  have HFO := Lib.hid hFo; clear hFo
  go_enter Tryz.func4, Tryz.ntmps4
  go_wp2_with fail
  refine (beyondRules d fs p cap _ HS.out HR.out).mono ?_
  rintro r w0 ⟨b, rfl, hb, hb0⟩
  have Hb0 := Lib.hid hb0; clear hb0
  cases b
  case true =>
    go_wp2_with fail
    go_ret
    exact ⟨rfl, Hb0.out⟩
  case false =>
    have hm := hb rfl
    clear hb
    go_wp2_with fail
    refine (twinRules d fs p cap _ (HS.out.up Hb0.out) HR.out hn (HT.out.at Hb0.out)).mono ?_
    rintro r w1 ⟨a, gs, rfl, ha0, htw, hb1⟩
    have ha : w.heap.size ≤ a := by have := Hb0.out.size; omega
    have HTW := Lib.hid htw; clear htw
    have Hb1 := Lib.hid (Hb0.out.trans (hb1.mono Hb0.out.size)); clear hb1
    go_wp2_with fail
    refine (rProgram d fs p cap _ (HS.out.up Hb1.out) HR.out hm).mono ?_
    rintro r w2 ⟨rfl, hb2⟩
    have Hb2 := Lib.hid (Hb1.out.trans (hb2.mono Hb1.out.size))
    have HTW2 := Lib.hid (HTW.out.low hb2); clear hb2
    obtain ⟨s1, hs1⟩ : ∃ s : ByteArray, s = ⟨(txt (fs.all Ru.ok) (prL fs)).toArray⟩ := ⟨_, rfl⟩
    obtain ⟨c1, hc1⟩ : ∃ c, c = okCode (fs.all Ru.ok) 40 := ⟨_, rfl⟩
    rw [← hs1, ← hc1]
    have HS1 := Lib.hid hs1; clear hs1
    have HC1 := Lib.hid hc1; clear hc1
    have HRG := Lib.hid (like_ru HTW.out.len HTW.out.like HR.out (fun _ _ h1 h2 => h1.b h2))
    have hcall := fun w' h3 h4 h5 h6 => (pProgram d gs (some ⟨a, 0, none⟩) (fs.length + 1) w' h3 HRG.out (by rw [HTW.out.len]; exact hm) h4 h5 h6).mono fun _ _ h => text_like HTW.out.len HTW.out.like h
    rw [HTW.out.len] at hcall
    have HCALL := Lib.hid hcall; clear hcall
    go_wp2_with fail
    refine (HCALL.out _ (HTW2.out.at HR.out) (HT.out.at Hb2.out) (HRL.out.at Hb2.out) (HFO.out.at Hb2.out)).mono ?_
    rintro r w3 ⟨rfl, hb3⟩
    have Hb3 := Lib.hid (Hb2.out.trans (hb3.mono Hb2.out.size))
    have HTW3 := Lib.hid (HTW2.out.low hb3); clear hb3
    rw [← HS1.out, ← HC1.out]
    go_wp2_with fail
    refine (leftRules d fs gs a p cap _ (HS.out.up Hb3.out) HR.out hn HTW3.out (HT.out.at Hb3.out)).mono ?_
    rintro r w4 ⟨rfl, hb4⟩
    have Hb4 := Lib.hid (Hb3.out.trans (hb4.mono Hb3.out.size))
    have HTW4 := Lib.hid (HTW3.out.low hb4); clear hb4
    go_wp2_with fail
    go_loopw [8, 9] (fun i _ wr => SqRel fs gs a w w4 i wr) (fun i _ _ => fs.length - (intOf i).toNat)
    case atStart =>
      obtain ⟨cs, h1, h2⟩ := HTW4.out.row
      refine ⟨0, cs, rfl, by omega, h1, by rw [HTW.out.len]; exact h2, fun m hm => ?_, HTW4.out.kids, Hb4.out, Nat.le_refl _⟩
      have e : gs.getD (swq gs.length 0 m) ru0 = gs[m] := by
        rw [show swq gs.length 0 m = m by unfold swq; rw [if_neg (by omega)], List.getD_eq_getElem?_getD, List.getElem?_eq_getElem hm]
        rfl
      rw [e]
      exact HTW4.out.cells m hm
    case round =>
      obtain ⟨j, cs, rfl, hj, hbk, hcs, hcell, htw, hbe, hsz⟩ := hrel
      have HCELL := Lib.hid hcell; clear hcell
      have HTWR := Lib.hid htw; clear htw
      have HBE := Lib.hid hbe; clear hbe
      have hlen := HTW.out.len
      by_cases hlt : j < gs.length / 2
      · obtain ⟨k, hk⟩ : ∃ k, k = gs.length - 1 - j := ⟨_, rfl⟩
        have hcj := HCELL.out j (by omega)
        have hck := HCELL.out k (by omega)
        rw [show swq gs.length j j = j by unfold swq; rw [if_neg (by omega)]] at hcj
        rw [show swq gs.length j k = k by unfold swq; rw [if_neg (by omega)]] at hck
        obtain ⟨x, hx⟩ : ∃ x, x = gs.getD j ru0 := ⟨_, rfl⟩
        obtain ⟨y, hy⟩ : ∃ y, y = gs.getD k ru0 := ⟨_, rfl⟩
        rw [← hx] at hcj
        rw [← hy] at hck
        obtain ⟨c0, c1, c2⟩ := VsAt.three hcj
        obtain ⟨d0, d1, d2⟩ := VsAt.three hck
        clear hcj hck
        have HSW := Lib.hid (fun wq h => sq_next (W := w4) (wq := wq) hlt hk hx hy ha hbk hcs HCELL.out HTWR.out HBE.out hsz h)
        have HXX := Lib.hid hx; clear hx
        have HYY := Lib.hid hy; clear hy
        have f0 : wr.frozen? ⟨a, j * 3, none⟩ = false := Lib.frozen_of_heap hbk _
        have f1 : wr.frozen? ⟨a, j * 3 + 1, none⟩ = false := Lib.frozen_of_heap hbk _
        have f2 : wr.frozen? ⟨a, j * 3 + 2, none⟩ = false := Lib.frozen_of_heap hbk _
        have g0 : wr.frozen? ⟨a, k * 3, none⟩ = false := Lib.frozen_of_heap hbk _
        have g1 : wr.frozen? ⟨a, k * 3 + 1, none⟩ = false := Lib.frozen_of_heap hbk _
        have g2 : wr.frozen? ⟨a, k * 3 + 2, none⟩ = false := Lib.frozen_of_heap hbk _
        have HBK := Lib.hid hbk; clear hbk
        have hltf : j < fs.length / 2 := by omega
        have hkl : k < fs.length := by omega
        have hjl : j < fs.length := by omega
        have hkj : j < k := by omega
        have HKE := Lib.hid (show ((fs.length : Int) - 1 - (j : Int)) = (k : Int) by omega)
        clear hk
        go_wp2_with fail
        rw [HKE.out]
        go_region
        go_wp2_with fail
        go_roundw
        case rel => exact HSW.out _ rfl
        case measure => simp [intOf]; omega
      · have hjn : j = gs.length / 2 := by omega
        have hat : RusAt wr d (some ⟨a, 0, none⟩) gs.reverse :=
          ⟨.inr ⟨a, 0, rfl, (Array.getElem?_eq_some_iff.1 hbk).1, fun i hi => by rw [Nat.zero_add]; exact sq_end hjn HCELL.out i hi⟩, fun g hg => by
            obtain ⟨i, hi, rfl⟩ := List.mem_iff_getElem.1 (List.mem_reverse.1 hg)
            exact (HTWR.out i (by omega) hi).at (HTW.out.like i (by omega) hi) (HR.out _ (List.getElem_mem (by omega)))⟩
        have HRR := Lib.hid (show ∀ g ∈ gs.reverse, RuB g from fun g hg => HRG.out g (List.mem_reverse.1 hg))
        have hlr : gs.reverse.length = fs.length := by rw [List.length_reverse]; exact hlen
        have htwin := fun w' h3 h5 => twinRules d gs.reverse (some ⟨a, 0, none⟩) (fs.length + 1) w' h3 HRR.out (by omega) h5
        have hprint := fun w' h3 h4 h5 h6 => pProgram d gs.reverse (some ⟨a, 0, none⟩) (fs.length + 1) w' h3 HRR.out (by omega) h4 h5 h6
        rw [hlr] at htwin hprint
        have HAT := Lib.hid hat; clear hat
        have HTWIN := Lib.hid htwin; clear htwin
        have HPRINT := Lib.hid hprint; clear hprint
        have HBK := Lib.hid hbk; clear hbk
        have hltf : ¬ j < fs.length / 2 := by omega
        clear hcs hj
        go_wp2_with fail
        refine (HTWIN.out _ HAT.out (HT.out.at HBE.out)).mono ?_
        rintro r w5 ⟨a2, gs2, rfl, ha2, htw2, hb5⟩
        have HTQ := Lib.hid htw2; clear htw2
        have HAT5 := Lib.hid (HAT.out.up hb5)
        have Hb5 := Lib.hid (HBE.out.trans (hb5.mono HBE.out.size)); clear hb5
        have HRQ := Lib.hid (like_ru HTQ.out.len HTQ.out.like HRR.out (fun _ _ h1 h2 => h1.b h2))
        have hcall2 := fun w' h3 => (rProgram d gs2 (some ⟨a2, 0, none⟩) (gs.reverse.length + 1) w' h3 HRQ.out (by rw [HTQ.out.len]; omega)).mono fun _ _ h => text_like HTQ.out.len HTQ.out.like h
        rw [HTQ.out.len, hlr] at hcall2
        have HCALL2 := Lib.hid hcall2; clear hcall2
        rw [hlr]
        go_wp2_with fail
        refine (HCALL2.out _ (HTQ.out.at HRR.out)).mono ?_
        rintro r w6 ⟨rfl, hb6⟩
        have HAT6 := Lib.hid (HAT5.out.up hb6)
        have Hb6 := Lib.hid (Hb5.out.trans (hb6.mono Hb5.out.size)); clear hb6
        obtain ⟨s2, hs2⟩ : ∃ s : ByteArray, s = ⟨(txt (gs.reverse.all Ru.ok) (prL gs.reverse)).toArray⟩ := ⟨_, rfl⟩
        obtain ⟨c2, hc2⟩ : ∃ c, c = okCode (gs.reverse.all Ru.ok) 40 := ⟨_, rfl⟩
        rw [← hs2, ← hc2]
        have HS2 := Lib.hid hs2; clear hs2
        have HC2 := Lib.hid hc2; clear hc2
        go_wp2_with fail
        refine (HPRINT.out _ HAT6.out (HT.out.at Hb6.out) (HRL.out.at Hb6.out) (HFO.out.at Hb6.out)).mono ?_
        rintro r w7 ⟨rfl, hb7⟩
        have Hb7 := Lib.hid (Hb6.out.trans (hb7.mono Hb6.out.size)); clear hb7
        rw [← HS2.out, ← HC2.out]
        go_wp2_with fail
        refine (lives _ (HT.out.at Hb7.out)).mono ?_
        rintro r w8 ⟨rfl, hb8⟩
        have Hb8 := Lib.hid (Hb7.out.trans (hb8.mono Hb7.out.size)); clear hb8
        go_wp2_with fail
        go_ret
        exact ⟨rfl, Hb8.out⟩
end Go.Proofs.YtdgbenadoaecoaaGreatDoor
