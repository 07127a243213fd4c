/- A list of tokens turned back to front in its place; the walk of LexJoins. Conditions: the tables lie as the program lays them; the tokens lie as they are told. -/
import Derived.Test.YtcigdlpljjkplaaDoorJ2
import Derived.Test.YtcigdlpljjkplaaDoorJ4
import Derived.Test.YtcigdlpljjkplaaDoorJ5
import Derived.Test.YtcigdlpljjkplaaDoorL8
import Derived.RegionTactic
namespace Go.Proofs.YtcigdlpljjkplaaDoor
open Go.RowKit

def put4 (w : World) (a o : Nat) (v0 v1 v2 v3 : Value) : World :=
  (((w.setCell ⟨a, o, none⟩ v0).setCell ⟨a, o + 1, none⟩ v1).setCell ⟨a, o + 2, none⟩ v2).setCell ⟨a, o + 3, none⟩ v3
def set4 (cs : Array Value) (o : Nat) (v0 v1 v2 v3 : Value) : Array Value :=
  (((cs.setIfInBounds o v0).setIfInBounds (o + 1) v1).setIfInBounds (o + 2) v2).setIfInBounds (o + 3) v3
theorem set4_size (cs : Array Value) (o : Nat) (v0 v1 v2 v3 : Value) : (set4 cs o v0 v1 v2 v3).size = cs.size := by simp [set4]
theorem set4_far (cs : Array Value) (o : Nat) (v0 v1 v2 v3 : Value) (i : Nat) (h : i < o ∨ o + 3 < i) : (set4 cs o v0 v1 v2 v3)[i]? = cs[i]? := by
  unfold set4
  rw [Array.getElem?_setIfInBounds_ne (by omega), Array.getElem?_setIfInBounds_ne (by omega), Array.getElem?_setIfInBounds_ne (by omega), Array.getElem?_setIfInBounds_ne (by omega)]
theorem set4_at (cs : Array Value) (o : Nat) (v0 v1 v2 v3 : Value) (h : o + 3 < cs.size) :
    (set4 cs o v0 v1 v2 v3)[o]? = some v0 ∧ (set4 cs o v0 v1 v2 v3)[o + 1]? = some v1 ∧ (set4 cs o v0 v1 v2 v3)[o + 2]? = some v2 ∧ (set4 cs o v0 v1 v2 v3)[o + 3]? = some v3 := by
  have h0 : o < cs.size := by omega
  have h1 : o + 1 < cs.size := by omega
  have h2 : o + 2 < cs.size := by omega
  unfold set4
  simp [h, h0, h1, h2]
theorem put4_heap {w : World} {a : Nat} {cs : Array Value} {t : TypeId} {fz : Nat × Nat} (h : w.heap[a]? = some (.cells cs t fz)) (o : Nat) (v0 v1 v2 v3 : Value) :
    (put4 w a o v0 v1 v2 v3).heap[a]? = some (.cells (set4 cs o v0 v1 v2 v3) t fz) := by
  simp [put4, set4, World.setCell, Array.getElem?_modify, h]
theorem put4_block (w : World) {a k : Nat} (h : k ≠ a) (o : Nat) (v0 v1 v2 v3 : Value) : (put4 w a o v0 v1 v2 v3).heap[k]? = w.heap[k]? := by
  unfold put4
  rw [Below.heap_setCell _ _ _ _ h, Below.heap_setCell _ _ _ _ h, Below.heap_setCell _ _ _ _ h, Below.heap_setCell _ _ _ _ h]
theorem put4_below {B : Nat} {w0 w : World} (h : Below B w0 w) {a : Nat} (ha : B ≤ a) (o : Nat) (v0 v1 v2 v3 : Value) : Below B w0 (put4 w a o v0 v1 v2 v3) :=
  (((h.setCell (p := ⟨a, o, none⟩) ha v0).setCell (p := ⟨a, o + 1, none⟩) ha v1).setCell (p := ⟨a, o + 2, none⟩) ha v2).setCell (p := ⟨a, o + 3, none⟩) ha v3
theorem put4_size (w : World) (a o : Nat) (v0 v1 v2 v3 : Value) : (put4 w a o v0 v1 v2 v3).heap.size = w.heap.size := by simp [put4, World.setCell]
theorem TkCell.of_cells {w : World} {a o : Nat} {m : Tk} {cs : Array Value} {t : TypeId} {fz : Nat × Nat} (h : w.heap[a]? = some (.cells cs t fz)) (c0 : cs[o]? = some (.int .i8 m.k)) (c1 : cs[o + 1]? = some (.string m.t)) (c2 : cs[o + 2]? = some (.int .i64 m.n)) (c3 : cs[o + 3]? = some (.int .i64 m.p)) : TkCell w a o m :=
  ⟨by rw [Lib.cell_of_heap h]; exact c0, by rw [Lib.cell_of_heap h]; exact c1, by rw [Lib.cell_of_heap h]; exact c2, by rw [Lib.cell_of_heap h]; exact c3⟩
theorem TkCell.of_block {w w' : World} {a o : Nat} {t : Tk} (h : TkCell w a o t) (hb : w'.heap[a]? = w.heap[a]?) : TkCell w' a o t :=
  ⟨(World.cell?_of_block (w := w) hb).trans h.c0, (World.cell?_of_block (w := w) hb).trans h.c1, (World.cell?_of_block (w := w) hb).trans h.c2, (World.cell?_of_block (w := w) hb).trans h.c3⟩
theorem put4_keepsT {w : World} {a o o' : Nat} {m : Tk} {cs : Array Value} {t : TypeId} {fz : Nat × Nat} (h : w.heap[a]? = some (.cells cs t fz)) (hc : TkCell w a o' m) (ho : o' + 3 < o ∨ o + 3 < o') (v0 v1 v2 v3 : Value) :
    TkCell (put4 w a o v0 v1 v2 v3) a o' m := by
  obtain ⟨c0, c1, c2, c3⟩ := hc
  rw [Lib.cell_of_heap h] at c0 c1 c2 c3
  refine TkCell.of_cells (put4_heap h o v0 v1 v2 v3) ?_ ?_ ?_ ?_
  all_goals rw [set4_far _ _ _ _ _ _ _ (by omega)]
  all_goals assumption
theorem put4_newT {w : World} {a o : Nat} {cs : Array Value} {t : TypeId} {fz : Nat × Nat} (h : w.heap[a]? = some (.cells cs t fz)) (ho : o + 3 < cs.size) (m : Tk) : TkCell (put4 w a o (.int .i8 m.k) (.string m.t) (.int .i64 m.n) (.int .i64 m.p)) a o m := by
  obtain ⟨h0, h1, h2, h3⟩ := set4_at cs o (.int .i8 m.k) (.string m.t) (.int .i64 m.n) (.int .i64 m.p) ho
  exact TkCell.of_cells (put4_heap h _ _ _ _ _) h0 h1 h2 h3
/-- Where the token stands that comes to place m when so many have been turned. -/
def swp (n j m : Nat) : Nat := if m < j ∨ n ≤ m + j then n - 1 - m else m
/-- At the head of the turning rounds. -/
def SwRel (gs : List Tk) (a : Nat) (w : World) (cap : Nat) (i : Value) (wr : World) : Prop :=
  ∃ (j : Nat) (cs : Array Value), i = .int .i64 j ∧ j ≤ gs.length / 2 ∧ wr.heap[a]? = some (.cells cs 36 (0, 0)) ∧ cs.size = cap * 4 ∧
    (∀ m, m < gs.length → TkCell wr a (m * 4) (gs.getD (swp gs.length j m) tk0)) ∧ Below w.heap.size w wr
theorem swp_step {n j m : Nat} (hm : m < n) (h1 : m ≠ j) (h2 : m ≠ n - 1 - j) : swp n (j + 1) m = swp n j m := by
  unfold swp
  by_cases h : m < j ∨ n ≤ m + j
  · rw [if_pos h, if_pos (by omega)]
  · rw [if_neg h, if_neg (by omega)]
abbrev put4T (w : World) (a o : Nat) (m : Tk) : World := put4 w a o (.int .i8 m.k) (.string m.t) (.int .i64 m.n) (.int .i64 m.p)
set_option maxHeartbeats 4000000 in
theorem sw_next {gs : List Tk} {a j k cap : Nat} {w wr wq : World} {cs : Array Value} {x y : Tk} (hj : j < gs.length / 2) (hk : k = gs.length - 1 - j) (hx : x = gs.getD j tk0) (hy : y = gs.getD k tk0) (ha : w.heap.size ≤ a) (hcap : gs.length ≤ cap)
    (hbk : wr.heap[a]? = some (.cells cs 36 (0, 0))) (hcs : cs.size = cap * 4) (hcell : ∀ m, m < gs.length → TkCell wr a (m * 4) (gs.getD (swp gs.length j m) tk0))
    (hbe : Below w.heap.size w wr) (hwq : wq = (put4T (put4T wr a (j * 4) y) a (k * 4) x).drew) :
    SwRel gs a w cap (.int .i64 ((j : Int) + 1)) wq := by
  have hb1 := put4_heap hbk (j * 4) (.int .i8 y.k) (.string y.t) (.int .i64 y.n) (.int .i64 y.p)
  have hb2 := put4_heap hb1 (k * 4) (.int .i8 x.k) (.string x.t) (.int .i64 x.n) (.int .i64 x.p)
  have hbel := put4_below (put4_below hbe ha (j * 4) (.int .i8 y.k) (.string y.t) (.int .i64 y.n) (.int .i64 y.p)) ha (k * 4) (.int .i8 x.k) (.string x.t) (.int .i64 x.n) (.int .i64 x.p)
  have hcl : ∀ m, m < gs.length → TkCell (put4 (put4 wr a (j * 4) (.int .i8 y.k) (.string y.t) (.int .i64 y.n) (.int .i64 y.p)) a (k * 4) (.int .i8 x.k) (.string x.t) (.int .i64 x.n) (.int .i64 x.p)) a (m * 4) (gs.getD (swp gs.length (j + 1) m) tk0) := by
    intro m hm
    by_cases h2 : m = k
    · have e : gs.getD (swp gs.length (j + 1) m) tk0 = x := by
        rw [hx, show swp gs.length (j + 1) m = j by unfold swp; rw [if_pos (by omega)]; omega]
      rw [e, h2]
      exact put4_newT hb1 (by rw [set4_size]; omega) x
    · by_cases h1 : m = j
      · have e : gs.getD (swp gs.length (j + 1) m) tk0 = y := by
          rw [hy, show swp gs.length (j + 1) m = k by unfold swp; rw [if_pos (by omega)]; omega]
        rw [e, h1]
        exact put4_keepsT hb1 (put4_newT hbk (by omega) y) (by omega) _ _ _ _
      · rw [swp_step hm h1 (by omega)]
        exact put4_keepsT hb1 (put4_keepsT hbk (hcell m hm) (by omega) _ _ _ _) (by omega) _ _ _ _
  have hs2 : (set4 (set4 cs (j * 4) (.int .i8 y.k) (.string y.t) (.int .i64 y.n) (.int .i64 y.p)) (k * 4) (.int .i8 x.k) (.string x.t) (.int .i64 x.n) (.int .i64 x.p)).size = cap * 4 := by rw [set4_size, set4_size]; exact hcs
  unfold put4T at hwq
  revert hb2 hbel hcl hs2 hwq
  generalize put4 (put4 wr a (j * 4) (.int .i8 y.k) (.string y.t) (.int .i64 y.n) (.int .i64 y.p)) a (k * 4) (.int .i8 x.k) (.string x.t) (.int .i64 x.n) (.int .i64 x.p) = V
  generalize set4 (set4 cs (j * 4) (.int .i8 y.k) (.string y.t) (.int .i64 y.n) (.int .i64 y.p)) (k * 4) (.int .i8 x.k) (.string x.t) (.int .i64 x.n) (.int .i64 x.p) = C
  intro hwq hb2 hbel hcl hs2
  subst hwq
  exact ⟨j + 1, C, rfl, by omega, hb2, hs2, fun m hm => (hcl m hm).of_block rfl, hbel.drew⟩
theorem sw_end {gs : List Tk} {a j : Nat} {wr : World} (hj : j = gs.length / 2) (hcell : ∀ m, m < gs.length → TkCell wr a (m * 4) (gs.getD (swp gs.length j m) tk0)) : ∀ i, (h : i < gs.reverse.length) → TkCell wr a (i * 4) gs.reverse[i] := by
  intro i h
  have hi : i < gs.length := by simpa using h
  have h1 := hcell i hi
  have e : gs.getD (swp gs.length j i) tk0 = gs.reverse[i] := by
    rw [List.getElem_reverse]
    have h2 : swp gs.length j i = gs.length - 1 - i := by
      unfold swp
      split
      · rfl
      · omega
    rw [h2, List.getD_eq_getElem?_getD, List.getElem?_eq_getElem (by omega)]
    rfl
  rwa [e] at h1
theorem own_tks {w : World} {B n c : Nat} {p : Option Addr} {l : List Tk} (hl : l.length = n) (h : w.ownsRow B 36 4 (.slice p n c) n (l.flatMap Tk.cells)) : TksAt w p l := by
  by_cases h0 : n = 0
  · exact .inl (by omega)
  · obtain ⟨g, cap, cur, hv, _, hg, _, _, _, htk⟩ := ownT_at h (by omega)
    obtain ⟨rfl, rfl⟩ : p = some ⟨g, 0, none⟩ ∧ c = cap := by simpa using hv
    exact .inr ⟨g, 0, rfl, (Array.getElem?_eq_some_iff.1 hg).1, fun i hi => by rw [Nat.zero_add]; exact cells_take hg htk hl i hi⟩
theorem joinR_eq (l : List Tk) : ∃ s c, joinR l = .tuple #[.string s, .int .i64 c] := by
  unfold joinR
  split
  · split
    · exact ⟨_, _, rfl⟩
    · exact ⟨_, _, rfl⟩
  · exact ⟨_, _, rfl⟩
set_option maxHeartbeats 16000000 in
set_option maxRecDepth 100000 in
theorem lexJoins (p : Option Addr) (c : Nat) (l : List Tk) (w : World) (hp : TksAt w p l) (hn : l.length ≤ maxLen) (hr : ∀ x ∈ l, TkR x) (hnil : p = none → c = 0) (hE : ErrAt w) (hK : KwAt w) (hG : SgAt w) (hP : PwAt w) :
    Calls Tryd.prog 5 #[.slice p l.length c] w fun r w' => r = .returned (.bool true) ∧ Below w.heap.size w w' := by
  obtain ⟨i0, hi, hzz⟩ := Option.map_eq_some_iff.1 infoTk
  simp only [Prod.mk.injEq] at hzz
  obtain ⟨hz0, hz1, hz2⟩ := hzz
  have HI := Lib.hid hi; clear hi
  have HZ0 := Lib.hid hz0; clear hz0
  have HZ1 := Lib.hid hz1; clear hz1
  have HZ2 := Lib.hid hz2; clear hz2
  have HS := Lib.hid hp; clear hp
  have HR := Lib.hid hr; clear hr
  have HE := Lib.hid hE; clear hE
  have HK := Lib.hid hK; clear hK
  have HG := Lib.hid hG; clear hG
  have HP := Lib.hid hP; clear hP
  have HNP := Lib.hid hnil; clear hnil
  go_enter Tryd.func5, Tryd.ntmps5
  go_wp2_with fail
  refine (kBeyond l p c _ HS.out hn (fun x hx => (HR.out x hx).t_)).mono ?_
  rintro r w0 ⟨rfl | ⟨rfl, hm⟩, hb0⟩
  · have Hb0 := Lib.hid hb0; clear hb0
    go_wp2_with fail
    go_ret
    exact ⟨rfl, Hb0.out⟩
  · have Hb0 := Lib.hid hb0; clear hb0
    go_wp2_with fail
    refine (kLent l p c _ (HS.out.up Hb0.out) hm HNP.out).mono ?_
    rintro r w1 ⟨b, cap, cur, rfl, hbB, hbk, hcs, hcap, hcm, hcell, hmk, hb1⟩
    have hw01 := Hb0.out.size
    have HCELL1 := Lib.hid (show TksAt w1 (some ⟨b, 0, none⟩) l from .inr ⟨b, 0, rfl, (Array.getElem?_eq_some_iff.1 hbk).1, fun i hi => by rw [Nat.zero_add]; exact hcell i hi⟩); clear hcell
    have hbl := (Array.getElem?_eq_some_iff.1 hbk).1
    have HBK1 := Lib.hid hbk; clear hbk
    have HMK1 := Lib.hid hmk; clear hmk
    have Hb1 := Lib.hid (Hb0.out.trans (hb1.mono Hb0.out.size)); clear hb1
    obtain ⟨s1, c1, hj1⟩ := joinR_eq l
    have hlj := fun p c w' h1 h3 h4 h5 => lJoin l p c w' h1 hn HR.out h3 h4 h5
    have hkj := fun p c w' h1 => kJoin l p c w' h1 hn HR.out
    rw [hj1] at hlj hkj
    have HLJ := Lib.hid hlj; clear hlj
    have HKJ := Lib.hid hkj; clear hkj hj1
    go_wp2_with fail
    refine (HLJ.out _ _ _ HCELL1.out (HK.out.at Hb1.out) (HG.out.at Hb1.out) (HP.out.at Hb1.out)).mono ?_
    rintro r w2 ⟨rfl, hb2⟩
    have hs2 := hb2.size
    have HBK2 := Lib.hid ((hb2.block b hbl).trans HBK1.out)
    have HCELL2 := Lib.hid (HCELL1.out.up hb2)
    have HMK2 := Lib.hid (fun j hj => (HMK1.out j hj).up hb2 hbl)
    have Hb2 := Lib.hid (Hb1.out.trans (hb2.mono Hb1.out.size)); clear hb2
    have hbl2 : b < w2.heap.size := by omega
    go_wp2_with fail
    refine (HKJ.out p c _ (HS.out.up Hb2.out)).mono ?_
    rintro r w3 ⟨rfl, hb3⟩
    have hs3 := hb3.size
    have HBK3 := Lib.hid ((hb3.block b hbl2).trans HBK2.out)
    have HCELL3 := Lib.hid (HCELL2.out.up hb3)
    have HMK3 := Lib.hid (show MarksAt w3 b l.length from fun j hj => (HMK2.out j hj).up hb3 hbl2)
    have Hb3 := Lib.hid (Hb2.out.trans (hb3.mono Hb2.out.size)); clear hb3
    have hbl3 : b < w3.heap.size := by omega
    go_wp2_with fail
    refine (kLeft l b cap p c _ hbl3 HCELL3.out (HS.out.up Hb3.out) HMK3.out hm hcap hcm).mono ?_
    rintro r w4 ⟨rfl, hb4⟩
    have hs4 := hb4.size
    have HBK4 := Lib.hid ((hb4.block b hbl3).trans HBK3.out)
    have HCELL4 := Lib.hid (HCELL3.out.up hb4)
    have Hb4 := Lib.hid (Hb3.out.trans (hb4.mono Hb3.out.size)); clear hb4
    have hwb : w.heap.size ≤ b := by omega
    go_wp2_with fail
    go_loopw [8, 9] (fun i _ wr => SwRel l b w cap i wr) (fun i _ _ => l.length - (intOf i).toNat)
    case atStart =>
      refine ⟨0, cur, rfl, by omega, HBK4.out, hcs, fun m hm => ?_, Hb4.out⟩
      have e : l.getD (swp l.length 0 m) tk0 = l[m] := by
        rw [show swp l.length 0 m = m by unfold swp; rw [if_neg (by omega)], List.getD_eq_getElem?_getD, List.getElem?_eq_getElem hm]
        rfl
      rw [e]
      rcases HCELL4.out with h0 | ⟨a, o, hp, _, hc⟩
      · omega
      · obtain ⟨rfl, rfl⟩ : b = a ∧ 0 = o := by simpa using hp
        have h9 := hc m hm
        rw [Nat.zero_add] at h9
        exact h9
    case round =>
      obtain ⟨j, cs, rfl, hj, hbk, hcs, hcell, hbe⟩ := hrel
      have HCELL := Lib.hid hcell; clear hcell
      have HBE := Lib.hid hbe; clear hbe
      by_cases hlt : j < l.length / 2
      · obtain ⟨k, hk⟩ : ∃ k, k = l.length - 1 - j := ⟨_, rfl⟩
        have hcj := HCELL.out j (by omega)
        have hck := HCELL.out k (by omega)
        rw [show swp l.length j j = j by unfold swp; rw [if_neg (by omega)]] at hcj
        rw [show swp l.length j k = k by unfold swp; rw [if_neg (by omega)]] at hck
        obtain ⟨x, hx⟩ : ∃ x, x = l.getD j tk0 := ⟨_, rfl⟩
        obtain ⟨y, hy⟩ : ∃ y, y = l.getD k tk0 := ⟨_, rfl⟩
        rw [← hx] at hcj
        rw [← hy] at hck
        obtain ⟨c0, c1, c2, c3⟩ := hcj
        obtain ⟨d0, d1, d2, d3⟩ := hck
        have HSW := Lib.hid (fun wq h => sw_next (wq := wq) (cap := cap) hlt hk hx hy hwb (by omega) hbk hcs HCELL.out HBE.out h)
        have HXX := Lib.hid hx; clear hx
        have HYY := Lib.hid hy; clear hy
        have f0 : wr.frozen? ⟨b, j * 4, none⟩ = false := Lib.frozen_of_heap hbk _
        have f1 : wr.frozen? ⟨b, j * 4 + 1, none⟩ = false := Lib.frozen_of_heap hbk _
        have f2 : wr.frozen? ⟨b, j * 4 + 2, none⟩ = false := Lib.frozen_of_heap hbk _
        have f3 : wr.frozen? ⟨b, j * 4 + 3, none⟩ = false := Lib.frozen_of_heap hbk _
        have g0 : wr.frozen? ⟨b, k * 4, none⟩ = false := Lib.frozen_of_heap hbk _
        have g1 : wr.frozen? ⟨b, k * 4 + 1, none⟩ = false := Lib.frozen_of_heap hbk _
        have g2 : wr.frozen? ⟨b, k * 4 + 2, none⟩ = false := Lib.frozen_of_heap hbk _
        have g3 : wr.frozen? ⟨b, k * 4 + 3, none⟩ = false := Lib.frozen_of_heap hbk _
        have HBK := Lib.hid hbk; clear hbk
        have hkl : k < l.length := by omega
        have hjl : j < l.length := by omega
        have hkj : j < k := by omega
        have HKE := Lib.hid (show ((l.length : Int) - 1 - (j : Int)) = (k : Int) by omega)
        clear hk
        go_wp2_with fail
        rw [HKE.out]
        go_region
        go_wp2_with fail
        go_roundw
        case rel => exact HSW.out _ rfl
        case measure => simp [intOf]; omega
      · have hjn : j = l.length / 2 := by omega
        have hat : TksAt wr (some ⟨b, 0, none⟩) l.reverse := .inr ⟨b, 0, rfl, (Array.getElem?_eq_some_iff.1 hbk).1, fun i hi => by rw [Nat.zero_add]; exact sw_end hjn HCELL.out i hi⟩
        have hlr : l.reverse.length = l.length := List.length_reverse
        have HRR := Lib.hid (show ∀ x ∈ l.reverse, TkR x from fun x hx => HR.out x (List.mem_reverse.1 hx))
        obtain ⟨s2, c2, hj2⟩ := joinR_eq l.reverse
        have hlj := fun p c w' h1 h3 h4 h5 => lJoin l.reverse p c w' h1 (by rw [hlr]; exact hn) HRR.out h3 h4 h5
        have hkj := fun p c w' h1 => kJoin l.reverse p c w' h1 (by rw [hlr]; exact hn) HRR.out
        rw [hj2, hlr] at hlj hkj
        have HLJ2 := Lib.hid hlj; clear hlj
        have HKJ2 := Lib.hid hkj; clear hkj hj2
        have HLEN := Lib.hid (show (l.reverse.flatMap Tk.cells).length = l.length * 4 by rw [tks_len, hlr])
        have HLR := Lib.hid hlr; clear hlr
        have HAT := Lib.hid hat; clear hat
        have HBK := Lib.hid hbk; clear hbk
        have hltf : ¬ j < l.length / 2 := by omega
        have HOE := Lib.hid (show (wr.alloc (.cells #[] 36)).ownsRow wr.heap.size 36 4 (.slice (some ⟨wr.heap.size, 0, none⟩) 0 0) 0 [] from ⟨rfl, .inr ⟨wr.heap.size, 0, #[], rfl, Nat.le_refl _, heap_alloc_new wr _, Nat.le_refl _, by unfold maxLen; omega, rfl, rfl⟩⟩)
        clear hcs hj
        go_wp2_with (at_builtin; refine wpList_append_own _ rfl _ _ 22 rfl wr.heap.size 36 i0 _ 4 40 Tryd.underlying22 HI.out HZ0.out HZ1.out HZ2.out rfl (by decide) _ _ _ rfl HOE.out ⟨b, 0, none⟩ l.length cap (l.reverse.flatMap Tk.cells) rfl ?c0 ?c5 ?c1 ?c2 ?c3 ?c4 ?_)
        case c0 => exact HLEN.out
        case c5 => exact tks_read (HAT.out.up (below_alloc _ _))
        case c1 => exact tks_one _
        case c2 => unfold maxLen; omega
        case c3 => omega
        case c4 => simp
        intro v' w5 hown' hgrow _
        have HB5 := Lib.hid ((below_alloc wr (.cells #[] 36)).grown hgrow (by simp) (fun g hg => ownT_lt HOE.out hg)); clear hgrow
        obtain ⟨p2, cp2, rfl⟩ := own_sliceT hown'
        have HO' := Lib.hid hown'; clear hown'
        have HT5 := Lib.hid (own_tks (l := l.reverse) (n := l.length) HLR.out (by simpa using HO'.out))
        have HAT5 := Lib.hid (HAT.out.up HB5.out)
        have Hb5 := Lib.hid (HBE.out.trans (HB5.out.mono HBE.out.size))
        go_wp2_with fail
        refine (HKJ2.out _ _ _ HT5.out).mono ?_
        rintro r w6 ⟨rfl, hb6⟩
        have HAT6 := Lib.hid (HAT5.out.up hb6)
        have Hb6 := Lib.hid (Hb5.out.trans (hb6.mono Hb5.out.size)); clear hb6
        go_wp2_with fail
        refine (HLJ2.out _ _ _ HAT6.out (HK.out.at Hb6.out) (HG.out.at Hb6.out) (HP.out.at Hb6.out)).mono ?_
        rintro r w7 ⟨rfl, hb7⟩
        have Hb7 := Lib.hid (Hb6.out.trans (hb7.mono Hb6.out.size)); clear hb7
        go_wp2_with fail
        refine (lvLives _ (HE.out.at Hb7.out) (HK.out.at Hb7.out) (HG.out.at Hb7.out)).mono ?_
        rintro r w8 ⟨rfl, hb8⟩
        have Hb8 := Lib.hid (Hb7.out.trans (hb8.mono Hb7.out.size)); clear hb8
        go_wp2_with fail
        go_ret
        exact ⟨rfl, Hb8.out⟩
end Go.Proofs.YtcigdlpljjkplaaDoor
