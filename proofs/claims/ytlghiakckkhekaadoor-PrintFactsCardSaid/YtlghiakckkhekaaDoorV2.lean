/- Copies of facts: the contracts of TwinFact, LeftFact, markFact, isFact, TwinFacts, LeftFacts, BeyondFacts. Conditions: the facts lie in memory as they are told, no list is too long. -/
import Derived.Test.YtlghiakckkhekaaDoorV1
namespace Go.Proofs.YtlghiakckkhekaaDoor
open Go.RowKit

theorem two {w : World} {b : Nat} {x0 x1 : Value} {t : TypeId} {fz : Nat × Nat} (h : w.heap[b]? = some (.cells #[x0, x1] t fz)) :
    w.cell? ⟨b, 0, none⟩ = some x0 ∧ w.cell? ⟨b, 1, none⟩ = some x1 := ⟨by rw [Lib.cell_of_heap h]; rfl, by rw [Lib.cell_of_heap h]; rfl⟩
/-- A fact: its name, its values, the slice that holds them. -/
structure Fc where
  p : ByteArray
  xs : List Vl
  sv : Value
structure FcCell (w : World) (a o : Nat) (f : Fc) : Prop where
  c0 : w.cell? ⟨a, o, none⟩ = some (.string f.p)
  c1 : w.cell? ⟨a, o + 1, none⟩ = some f.sv
structure FcR (f : Fc) : Prop where
  p_ : f.p.size ≤ maxLen
  r_ : VlsR f.xs
  n_ : f.xs.length ≤ 4398046511104
/-- Facts in a row of memory. -/
def FcsAt (w : World) (p : Option Addr) (fs : List Fc) : Prop :=
  (fs.length = 0 ∨ ∃ a o, p = some ⟨a, o, none⟩ ∧ a < w.heap.size ∧ ∀ i, (h : i < fs.length) → FcCell w a (o + i * 2) fs[i]) ∧ ∀ f ∈ fs, VlSl w f.sv f.xs
theorem FcCell.up {w w' : World} {B a o : Nat} {f : Fc} (h : FcCell w a o f) (hb : Below B w w') (ha : a < B) : FcCell w' a o f :=
  ⟨(hb.cell (p := ⟨a, o, none⟩) ha).trans h.c0, (hb.cell (p := ⟨a, o + 1, none⟩) ha).trans h.c1⟩
theorem FcsAt.up {w w' : World} {p : Option Addr} {fs : List Fc} (h : FcsAt w p fs) (hb : Below w.heap.size w w') : FcsAt w' p fs := by
  refine ⟨?_, fun f hf => (h.2 f hf).up hb⟩
  rcases h.1 with h0 | ⟨a, o, hp, ha, hc⟩
  · exact .inl h0
  · exact .inr ⟨a, o, hp, Nat.lt_of_lt_of_le ha hb.size, fun i hi => (hc i hi).up hb ha⟩
/-- Two cells of a block, written one by one. -/
def put2 (w : World) (a o : Nat) (v0 v1 : Value) : World := (w.setCell ⟨a, o, none⟩ v0).setCell ⟨a, o + 1, none⟩ v1
def set2 (cs : Array Value) (o : Nat) (v0 v1 : Value) : Array Value := (cs.setIfInBounds o v0).setIfInBounds (o + 1) v1
theorem set2_size (cs : Array Value) (o : Nat) (v0 v1 : Value) : (set2 cs o v0 v1).size = cs.size := by simp [set2]
theorem set2_far (cs : Array Value) (o : Nat) (v0 v1 : Value) (i : Nat) (h : i < o ∨ o + 1 < i) : (set2 cs o v0 v1)[i]? = cs[i]? := by
  unfold set2
  rw [Array.getElem?_setIfInBounds_ne (by omega), Array.getElem?_setIfInBounds_ne (by omega)]
theorem set2_at (cs : Array Value) (o : Nat) (v0 v1 : Value) (h : o + 1 < cs.size) : (set2 cs o v0 v1)[o]? = some v0 ∧ (set2 cs o v0 v1)[o + 1]? = some v1 := by
  have h0 : o < cs.size := by omega
  unfold set2
  simp [h, h0]
theorem put2_heap {w : World} {a : Nat} {cs : Array Value} {t : TypeId} {fz : Nat × Nat} (h : w.heap[a]? = some (.cells cs t fz)) (o : Nat) (v0 v1 : Value) :
    (put2 w a o v0 v1).heap[a]? = some (.cells (set2 cs o v0 v1) t fz) := by
  simp [put2, set2, World.setCell, Array.getElem?_modify, h]
theorem put2_block (w : World) {a k : Nat} (h : k ≠ a) (o : Nat) (v0 v1 : Value) : (put2 w a o v0 v1).heap[k]? = w.heap[k]? := by
  unfold put2
  rw [Below.heap_setCell _ _ _ _ h, Below.heap_setCell _ _ _ _ h]
theorem put2_below {B : Nat} {w0 w : World} (h : Below B w0 w) {a : Nat} (ha : B ≤ a) (o : Nat) (v0 v1 : Value) : Below B w0 (put2 w a o v0 v1) :=
  (h.setCell (p := ⟨a, o, none⟩) ha v0).setCell (p := ⟨a, o + 1, none⟩) ha v1
theorem put2_size (w : World) (a o : Nat) (v0 v1 : Value) : (put2 w a o v0 v1).heap.size = w.heap.size := by simp [put2, World.setCell]
theorem FcCell.of_cells {w : World} {a o : Nat} {m : Fc} {cs : Array Value} {t : TypeId} {fz : Nat × Nat} (h : w.heap[a]? = some (.cells cs t fz)) (c0 : cs[o]? = some (.string m.p)) (c1 : cs[o + 1]? = some m.sv) : FcCell w a o m :=
  ⟨by rw [Lib.cell_of_heap h]; exact c0, by rw [Lib.cell_of_heap h]; exact c1⟩
theorem FcCell.of_block {w w' : World} {a o : Nat} {t : Fc} (h : FcCell w a o t) (hb : w'.heap[a]? = w.heap[a]?) : FcCell w' a o t :=
  ⟨(World.cell?_of_block (w := w) hb).trans h.c0, (World.cell?_of_block (w := w) hb).trans h.c1⟩
theorem put2_keeps {w : World} {a o o' : Nat} {m : Fc} {cs : Array Value} {t : TypeId} {fz : Nat × Nat} (h : w.heap[a]? = some (.cells cs t fz)) (hc : FcCell w a o' m) (ho : o' + 1 < o ∨ o + 1 < o') (v0 v1 : Value) :
    FcCell (put2 w a o v0 v1) a o' m := by
  obtain ⟨c0, c1⟩ := hc
  rw [Lib.cell_of_heap h] at c0 c1
  refine FcCell.of_cells (put2_heap h o v0 v1) ?_ ?_
  all_goals rw [set2_far _ _ _ _ _ (by omega)]
  all_goals assumption
theorem put2_new {w : World} {a o : Nat} {cs : Array Value} {t : TypeId} {fz : Nat × Nat} (h : w.heap[a]? = some (.cells cs t fz)) (ho : o + 1 < cs.size) (m : Fc) : FcCell (put2 w a o (.string m.p) m.sv) a o m := by
  obtain ⟨h0, h1⟩ := set2_at cs o (.string m.p) m.sv ho
  exact FcCell.of_cells (put2_heap h _ _ _) h0 h1
/-- A copy of a fact, its values in a block of their own. -/
def FcTw (w : World) (B : Nat) (f : Fc) : Prop := ∃ a, f.sv = .slice (some ⟨a, 0, none⟩) f.xs.length (f.xs.length + 1) ∧ B ≤ a ∧ TwVl w a f.xs
theorem FcTw.up {w w' : World} {B B' : Nat} (hB : B' ≤ B) (hs : w.heap.size ≤ w'.heap.size) (hb : ∀ k, B ≤ k → k < w.heap.size → w'.heap[k]? = w.heap[k]?) {f : Fc} (h : FcTw w B f) : FcTw w' B' f := by
  obtain ⟨a, hv, ha, ht⟩ := h
  exact ⟨a, hv, by omega, ht.of_block (Nat.lt_of_lt_of_le ht.lt hs) (hb a ha ht.lt)⟩
theorem FcTw.low {w w' : World} {B : Nat} {f : Fc} (h : FcTw w B f) (hb : Below w.heap.size w w') : FcTw w' B f := h.up (Nat.le_refl _) hb.size (fun k _ hk => hb.block k hk)
theorem FcTw.sl {w : World} {B : Nat} {f : Fc} (h : FcTw w B f) (hn : f.xs.length ≤ 4398046511104) : VlSl w f.sv f.xs := by
  obtain ⟨a, hv, ha, ht⟩ := h
  rw [hv]
  exact ht.sl hn
structure FcLike (f g : Fc) : Prop where
  p_ : g.p = f.p
  xs_ : g.xs = f.xs
theorem FcLike.r {f g : Fc} (h : FcLike f g) (hr : FcR f) : FcR g := ⟨by rw [h.p_]; exact hr.p_, by rw [h.xs_]; exact hr.r_, by rw [h.xs_]; exact hr.n_⟩
def TfPost (f : Fc) (w : World) (r : Ending) (w' : World) : Prop :=
  ∃ g, r = .returned (.agg #[.string g.p, g.sv]) ∧ FcLike f g ∧ FcTw w' w.heap.size g ∧ Below w.heap.size w w'
set_option maxHeartbeats 4000000 in
theorem twinFact (f : Fc) (w : World) (hts : VlSl w f.sv f.xs) (hn : f.xs.length ≤ 4398046511104) :
    Calls Tryd.prog 40 #[.agg #[.string f.p, f.sv]] w (TfPost f w) := by
  obtain ⟨p, xs, sv⟩ := f
  have HTS := Lib.hid hts
  obtain ⟨q, cap, hv, hm, _⟩ := hts
  simp only at hv hm hn HTS ⊢
  subst hv
  obtain ⟨W, hW⟩ : ∃ W, W = (w.alloc (.cells #[.string p, .slice q xs.length cap] 48)).alloc (.cells #[.string ⟨#[]⟩, .slice none 0 0] 48) := ⟨_, rfl⟩
  have HBW := Lib.hid (show Below w.heap.size w W by rw [hW]; exact (below_alloc _ _).trans ((below_alloc _ _).mono (by simp)))
  have hsW : W.heap.size = w.heap.size + 1 + 1 := by rw [hW]; simp
  have HBX := Lib.hid (show W.heap[w.heap.size]? = some (.cells #[.string p, .slice q xs.length cap] 48 (0, 0)) by rw [hW, Lib.alloc_old _ _ _ (by simp)]; exact heap_alloc_new w _)
  have HBY := Lib.hid (show W.heap[w.heap.size + 1]? = some (.cells #[.string ⟨#[]⟩, .slice none 0 0] 48 (0, 0)) by rw [hW]; simpa using heap_alloc_new (w.alloc _) _)
  go_enter Tryd.func40, Tryd.ntmps40
  go_wp2_with fail
  rw [← hW]
  clear hW
  refine (twinValues xs _ _ (HTS.out.up HBW.out) hn).mono ?_
  rintro r w1 ⟨a, rfl, ha1, htw, hb⟩
  have ha2 := htw.lt
  have HTW := Lib.hid htw; clear htw
  have hx := (hb.block w.heap.size (by omega)).trans HBX.out
  have hy := (hb.block (w.heap.size + 1) (by omega)).trans HBY.out
  have HB := Lib.hid hb; clear hb
  obtain ⟨x0, x1⟩ := two hx
  obtain ⟨y0, y1⟩ := two hy
  have fx : w1.frozen? ⟨w.heap.size, 1, none⟩ = false := Lib.frozen_of_heap hx _
  have f0 : w1.frozen? ⟨w.heap.size + 1, 0, none⟩ = false := Lib.frozen_of_heap hy _
  have f1 : w1.frozen? ⟨w.heap.size + 1, 1, none⟩ = false := Lib.frozen_of_heap hy _
  have HX := Lib.hid hx; clear hx
  have HY := Lib.hid hy; clear hy
  go_wp2_with fail
  clear x0 x1 y0 y1 fx f0 f1
  obtain ⟨W2, hW2⟩ : ∃ W2, W2 = ((w1.setCell ⟨w.heap.size, 1, none⟩ (.slice (some ⟨a, 0, none⟩) xs.length (xs.length + 1))).setCell ⟨w.heap.size + 1, 0, none⟩ (.string p)).setCell ⟨w.heap.size + 1, 1, none⟩ (.slice (some ⟨a, 0, none⟩) xs.length (xs.length + 1)) := ⟨_, rfl⟩
  have hb2 : W2.heap[w.heap.size + 1]? = some (.cells #[.string p, .slice (some ⟨a, 0, none⟩) xs.length (xs.length + 1)] 48 (0, 0)) := by
    rw [hW2]
    have h1 : (w1.setCell ⟨w.heap.size, 1, none⟩ (.slice (some ⟨a, 0, none⟩) xs.length (xs.length + 1))).heap[w.heap.size + 1]? = some (.cells #[.string ⟨#[]⟩, .slice none 0 0] 48 (0, 0)) := by
      rw [Below.heap_setCell _ _ _ _ (show w.heap.size + 1 ≠ w.heap.size by omega)]
      exact HY.out
    generalize w1.setCell ⟨w.heap.size, 1, none⟩ (.slice (some ⟨a, 0, none⟩) xs.length (xs.length + 1)) = wq at h1
    simp [World.setCell, Array.getElem?_modify, h1]
  have HBp := Lib.hid (show Below w.heap.size w W2 by
    rw [hW2]
    exact (((HBW.out.trans (HB.out.mono (by omega))).setCell (p := ⟨w.heap.size, 1, none⟩) (Nat.le_refl _) _).setCell (p := ⟨w.heap.size + 1, 0, none⟩) (by show w.heap.size ≤ w.heap.size + 1; omega) _).setCell (p := ⟨w.heap.size + 1, 1, none⟩) (by show w.heap.size ≤ w.heap.size + 1; omega) _)
  have hba : W2.heap[a]? = w1.heap[a]? := by
    rw [hW2, Below.heap_setCell _ _ _ _ (show a ≠ w.heap.size + 1 by omega), Below.heap_setCell _ _ _ _ (show a ≠ w.heap.size + 1 by omega), Below.heap_setCell _ _ _ _ (show a ≠ w.heap.size by omega)]
  have hla : a < W2.heap.size := by
    rw [hW2]
    simp [World.setCell]
    exact ha2
  rw [← hW2]
  clear hW2
  obtain ⟨z0, z1⟩ := two hb2
  refine bodyPost_ret (v := .agg #[.string p, .slice (some ⟨a, 0, none⟩) xs.length (xs.length + 1)]) (by simp [results, Tryd.results40, go_sem, z0, z1]) rfl ?_
  exact ⟨⟨p, xs, _⟩, rfl, ⟨rfl, rfl⟩, ⟨a, rfl, by omega, HTW.out.of_block hla hba⟩, HBp.out⟩
set_option maxHeartbeats 2000000 in
theorem leftFact (f g : Fc) (B : Nat) (w : World) (hts : VlSl w f.sv f.xs) (hn : f.xs.length ≤ 4398046511104) (hl : FcLike f g) (ht : FcTw w B g) :
    Calls Tryd.prog 49 #[.agg #[.string g.p, g.sv], .agg #[.string f.p, f.sv]] w fun r w' => r = .returned (.bool true) ∧ Below w.heap.size w w' := by
  obtain ⟨p0, xs0, sv⟩ := f
  obtain ⟨p, xs, sv2⟩ := g
  obtain ⟨h1, h2⟩ := hl
  obtain ⟨a, h3, _, htw⟩ := ht
  simp only at h1 h2 h3 htw hts hn ⊢
  subst h1 h2 h3
  have HTS := Lib.hid hts
  have HTW := Lib.hid htw; clear htw
  obtain ⟨q, cap, rfl, hm, _⟩ := hts
  obtain ⟨W, hW⟩ : ∃ W, W = (w.alloc (.cells #[.string p, .slice (some ⟨a, 0, none⟩) xs.length (xs.length + 1)] 48)).alloc (.cells #[.string p, .slice q xs.length cap] 48) := ⟨_, rfl⟩
  have HBW := Lib.hid (show Below w.heap.size w W by rw [hW]; exact (below_alloc _ _).trans ((below_alloc _ _).mono (by simp)))
  go_enter Tryd.func49, Tryd.ntmps49
  go_wp2_with fail
  rw [← hW]
  clear hW
  refine (leftValues xs a _ _ (HTS.out.up HBW.out) hn (HTW.out.low HBW.out)).mono ?_
  rintro r w1 ⟨rfl, hb⟩
  have Hb := Lib.hid hb; clear hb
  go_wp2_with fail
  go_ret
  exact ⟨rfl, HBW.out.trans (Hb.out.mono HBW.out.size)⟩
theorem mFact (w : World) (hT : Tabs w) : Calls Tryd.prog 41 #[.int .i64 777777] w fun e w' =>
    e = .returned (.agg #[.string markB, .slice none 0 0]) ∧ Below w.heap.size w w' := by
  have HT := Lib.hid hT; clear hT
  obtain ⟨W, hW⟩ : ∃ W, W = w.alloc (.cells #[.string ⟨#[]⟩, .slice none 0 0] 48) := ⟨_, rfl⟩
  have HBW := Lib.hid (show Below w.heap.size w W by rw [hW]; exact below_alloc _ _)
  have hsW : W.heap.size = w.heap.size + 1 := by rw [hW]; simp
  have HBX := Lib.hid (show W.heap[w.heap.size]? = some (.cells #[.string ⟨#[]⟩, .slice none 0 0] 48 (0, 0)) by rw [hW]; exact heap_alloc_new w _)
  obtain ⟨mk, hmk⟩ : ∃ mk, mk = markB := ⟨_, rfl⟩
  have HMK := Lib.hid hmk
  rw [← hmk]
  clear hmk
  go_enter Tryd.func41, Tryd.ntmps41
  go_wp2_with fail
  rw [← hW]
  clear hW
  refine (mWord _ (HT.out.at HBW.out)).mono ?_
  rintro e w1 ⟨rfl, hb⟩
  rw [← HMK.out]
  have hbx := (hb.block w.heap.size (by omega)).trans HBX.out
  obtain ⟨x0, x1⟩ := two hbx
  have f0 : w1.frozen? ⟨w.heap.size, 0, none⟩ = false := Lib.frozen_of_heap hbx 0
  have f1 : w1.frozen? ⟨w.heap.size, 1, none⟩ = false := Lib.frozen_of_heap hbx 1
  have HBX1 := Lib.hid hbx
  have Hb := Lib.hid (HBW.out.trans (hb.mono (by omega))); clear hb hbx
  go_wp2_with fail
  change bodyPost _ _ _ _ _ (put2 w1 w.heap.size 0 (.string mk) (.slice none 0 0))
  clear x0 x1 f0 f1
  have hb2 := put2_heap HBX1.out 0 (.string mk) (.slice none 0 0)
  have HBp := Lib.hid (put2_below Hb.out (Nat.le_refl _) 0 (.string mk) (.slice none 0 0))
  obtain ⟨W2, hW2⟩ : ∃ W2, W2 = put2 w1 w.heap.size 0 (.string mk) (.slice none 0 0) := ⟨_, rfl⟩
  rw [← hW2] at hb2 HBp ⊢
  clear hW2
  obtain ⟨z0, z1⟩ := two (show W2.heap[w.heap.size]? = some (.cells #[.string mk, .slice none 0 0] 48 (0, 0)) from hb2)
  refine bodyPost_ret (v := .agg #[.string mk, .slice none 0 0]) (by simp [results, Tryd.results41, go_sem, z0, z1]) rfl ?_
  exact ⟨rfl, HBp.out⟩
set_option maxHeartbeats 2000000 in
theorem isMarkF (w : World) (hT : Tabs w) : Calls Tryd.prog 50 #[.agg #[.string markB, .slice none 0 0], .int .i64 777777] w fun e w' =>
    e = .returned (.bool true) ∧ Below w.heap.size w w' := by
  have HT := Lib.hid hT; clear hT
  obtain ⟨mk, hmk⟩ : ∃ mk, mk = markB := ⟨_, rfl⟩
  have HMK := Lib.hid hmk
  rw [← hmk]
  clear hmk
  obtain ⟨W, hW⟩ : ∃ W, W = w.alloc (.cells #[.string mk, .slice none 0 0] 48) := ⟨_, rfl⟩
  have HBW := Lib.hid (show Below w.heap.size w W by rw [hW]; exact below_alloc _ _)
  have hsW : W.heap.size = w.heap.size + 1 := by rw [hW]; simp
  have hbk : w.heap.size < W.heap.size := by omega
  obtain ⟨x0, x1⟩ := two (show W.heap[w.heap.size]? = some (.cells #[.string mk, .slice none 0 0] 48 (0, 0)) by rw [hW]; exact heap_alloc_new w _)
  go_enter Tryd.func50, Tryd.ntmps50
  go_wp2_with fail
  rw [← hW]
  clear hW
  go_region_held3 (fun w' => w'.cell? ⟨w.heap.size, 0, none⟩ = W.cell? ⟨w.heap.size, 0, none⟩ ∧ w'.cell? ⟨w.heap.size, 1, none⟩ = W.cell? ⟨w.heap.size, 1, none⟩)
    (first | exact ⟨rfl, rfl⟩ | exact ⟨Hb.out.cell hbk, Hb.out.cell hbk⟩)
    (first
      | (go_at_call 79
         refine (mWord _ ?_).mono ?_
         · exact HT.out.at HBW.out.drew
         rintro r w1 ⟨rfl, hb⟩
         rw [← HMK.out]
         have Hb := Lib.hid (show Below W.heap.size W w1 from ⟨hb.os, hb.tape, hb.output, hb.size, hb.block⟩)
         clear hb))
  all_goals
    clear x0 x1
    go_wp2_with fail
    go_ret
    exact ⟨rfl, HBW.out.trans (Hb.out.mono (by omega))⟩
theorem infoFc : (Tryd.prog.info? 48).map (fun i => (i.zero, i.size, i.bytes)) = some (some (.agg #[.string ⟨#[]⟩, .slice none 0 0]), 2, 40) := by kernel_rfl
theorem make_fc (n : Nat) (hn : n ≤ 4398046511104) (w : World) : (Instr.makeSlice 41 (.int .i64 ((n : Int) + 1)) (.int .i64 ((n : Int) + 1))).run Tryd.prog w =
    .ok (.slice (some ⟨w.heap.size, 0, none⟩) (n + 1) (n + 1)) (w.alloc (.cells (madeCells #[.string ⟨#[]⟩, .slice none 0 0] ((n + 1) * 2)) 48)) := by
  obtain ⟨i, hi, hzz⟩ := Option.map_eq_some_iff.1 infoFc
  simp only [Prod.mk.injEq] at hzz
  obtain ⟨hz, hs, hb⟩ := hzz
  have h := run_make (P := Tryd.prog) w 41 48 i _ Tryd.underlying41 hi hz .i64 .i64 ((n : Int) + 1) ((n : Int) + 1) (by omega) (Int.le_refl _) (by rw [hb]; omega) (by omega)
  rw [h, hs, show ((n : Int) + 1).toNat = n + 1 by omega]
  rfl
def markFc : Fc := ⟨markB, [], .slice none 0 0⟩
/-- A copy of a list of facts in block a, with a mark behind it. -/
structure TwFc (w : World) (a : Nat) (fs gs : List Fc) : Prop where
  lt : a < w.heap.size
  len : gs.length = fs.length
  like : ∀ i, (h : i < fs.length) → (h' : i < gs.length) → FcLike fs[i] gs[i]
  cells : ∀ i, (h : i < gs.length) → FcCell w a (i * 2) gs[i]
  mark : FcCell w a (fs.length * 2) markFc
  kids : ∀ g ∈ gs, FcTw w (a + 1) g
  row : ∃ cs : Array Value, w.heap[a]? = some (.cells cs 48 (0, 0)) ∧ cs.size = (fs.length + 1) * 2
theorem TwFc.low {w w' : World} {a : Nat} {fs gs : List Fc} (h : TwFc w a fs gs) (hb : Below w.heap.size w w') : TwFc w' a fs gs :=
  ⟨Nat.lt_of_lt_of_le h.lt hb.size, h.len, h.like, fun i hi => (h.cells i hi).of_block (hb.block a h.lt), h.mark.of_block (hb.block a h.lt), fun g hg => (h.kids g hg).low hb, by obtain ⟨cs, h1, h2⟩ := h.row; exact ⟨cs, (hb.block a h.lt).trans h1, h2⟩⟩
theorem like_mem {fs gs : List Fc} (hl : gs.length = fs.length) (h : ∀ i, (h : i < fs.length) → (h' : i < gs.length) → FcLike fs[i] gs[i]) {P : Fc → Prop} {Q : Fc → Prop} (hf : ∀ f ∈ fs, P f) (hq : ∀ f g, FcLike f g → P f → Q g) : ∀ g ∈ gs, Q g := by
  intro g hg
  obtain ⟨i, hi, rfl⟩ := List.mem_iff_getElem.1 hg
  exact hq _ _ (h i (by omega) hi) (hf _ (List.getElem_mem (by omega)))
theorem TwFc.at {w : World} {a : Nat} {fs gs : List Fc} (h : TwFc w a fs gs) (hr : ∀ f ∈ fs, FcR f) : FcsAt w (some ⟨a, 0, none⟩) gs :=
  ⟨.inr ⟨a, 0, rfl, h.lt, fun i hi => by rw [Nat.zero_add]; exact h.cells i hi⟩, fun g hg => (h.kids g hg).sl (like_mem h.len h.like hr (fun _ _ h1 h2 => (h1.r h2)) g hg).n_⟩
/-- At the head of the copying rounds. -/
def TfRel (fs : List Fc) (w : World) (i : Value) (wr : World) : Prop :=
  ∃ (j : Nat) (gs : List Fc) (cs : Array Value), i = .int .i64 j ∧ j ≤ fs.length ∧ gs.length = j ∧ (∀ m, (h : m < fs.length) → (h' : m < gs.length) → FcLike fs[m] gs[m]) ∧
    wr.heap[w.heap.size]? = some (.cells cs 48 (0, 0)) ∧ cs.size = (fs.length + 1) * 2 ∧ (∀ m, (h : m < gs.length) → FcCell wr w.heap.size (m * 2) gs[m]) ∧ (∀ g ∈ gs, FcTw wr (w.heap.size + 1) g) ∧ Below w.heap.size w wr
theorem tf_next {fs gs : List Fc} {cs : Array Value} {w wr w1 : World} {j : Nat} {g : Fc} (hlt : j < fs.length) (hl : gs.length = j) (hal : ∀ m, (h : m < fs.length) → (h' : m < gs.length) → FcLike fs[m] gs[m])
    (hbk : wr.heap[w.heap.size]? = some (.cells cs 48 (0, 0))) (hcs : cs.size = (fs.length + 1) * 2) (hcell : ∀ m, (h : m < gs.length) → FcCell wr w.heap.size (m * 2) gs[m])
    (htw : ∀ g ∈ gs, FcTw wr (w.heap.size + 1) g) (hbe : Below w.heap.size w wr) (hal1 : FcLike fs[j] g) (htw1 : FcTw w1 wr.heap.size g) (hb1 : Below wr.heap.size wr w1) :
    TfRel fs w (.int .i64 ((j : Int) + 1)) (put2 w1 w.heap.size (j * 2) (.string g.p) g.sv) := by
  have hszr : w.heap.size < wr.heap.size := (Array.getElem?_eq_some_iff.1 hbk).1
  have hbk1 := (hb1.block w.heap.size hszr).trans hbk
  have hblk : ∀ k, w.heap.size + 1 ≤ k → k < w1.heap.size → (put2 w1 w.heap.size (j * 2) (.string g.p) g.sv).heap[k]? = w1.heap[k]? :=
    fun k hk _ => put2_block w1 (by omega) _ _ _
  refine ⟨j + 1, gs ++ [g], _, rfl, by omega, by simp [hl], ?_, put2_heap hbk1 _ _ _, by rw [set2_size]; exact hcs, ?_, ?_, put2_below (hbe.trans (hb1.mono (by omega))) (Nat.le_refl _) _ _ _⟩
  · intro m h h'
    by_cases hm : m < j
    · rw [List.getElem_append_left (by omega)]
      exact hal m h (by omega)
    · obtain rfl : m = j := by simp [hl] at h'; omega
      rw [List.getElem_append_right (by omega)]
      simpa [hl] using hal1
  · intro m h
    by_cases hm : m < j
    · rw [List.getElem_append_left (by omega)]
      exact put2_keeps hbk1 ((hcell m (by omega)).of_block (hb1.block _ hszr)) (by omega) _ _
    · obtain rfl : m = j := by simp [hl] at h; omega
      have e1 : (gs ++ [g])[m] = g := by
        rw [List.getElem_append_right (by omega)]
        simp [hl]
      rw [e1]
      exact put2_new hbk1 (by omega) _
  · intro t ht
    rcases List.mem_append.1 ht with ht | ht
    · have h1 : FcTw w1 (w.heap.size + 1) t := (htw t ht).up (Nat.le_refl _) hb1.size (fun k hk hk' => hb1.block k hk')
      exact h1.up (Nat.le_refl _) (by rw [put2_size]; omega) hblk
    · obtain rfl := List.mem_singleton.1 ht
      exact htw1.up (by omega) (by rw [put2_size]; omega) (fun k hk hk' => hblk k (by omega) hk')
/-- What a call leaves that copies a list of facts. -/
def TfsPost (fs : List Fc) (w : World) (r : Ending) (w' : World) : Prop :=
  ∃ a gs, r = .returned (.slice (some ⟨a, 0, none⟩) fs.length (fs.length + 1)) ∧ w.heap.size ≤ a ∧ TwFc w' a fs gs ∧ Below w.heap.size w w'
set_option maxHeartbeats 4000000 in
theorem twinFacts (fs : List Fc) (p : Option Addr) (cap : Nat) (w : World) (hs : FcsAt w p fs) (hr : ∀ f ∈ fs, FcR f) (hn : fs.length ≤ 4398046511104) (hT : Tabs w) :
    Calls Tryd.prog 17 #[.slice p fs.length cap] w (TfsPost fs w) := by
  have HS := Lib.hid hs; clear hs
  have HR := Lib.hid hr; clear hr
  have HT := Lib.hid hT; clear hT
  have hmk := fun w => make_fc fs.length hn w
  obtain ⟨Z, hZ⟩ : ∃ Z, Z = madeCells #[.string ⟨#[]⟩, .slice none 0 0] ((fs.length + 1) * 2) := ⟨_, rfl⟩
  have HZS := Lib.hid (show Z.size = (fs.length + 1) * 2 by rw [hZ]; exact size_madeCells _ _)
  simp only [← hZ] at hmk
  clear hZ
  go_enter Tryd.func17, Tryd.ntmps17
  go_wp2_with fail
  clear hmk
  go_loopw [4] (fun i wr => TfRel fs w i wr) (fun i _ => fs.length - (intOf i).toNat)
  case atStart => exact ⟨0, [], Z, rfl, by omega, rfl, fun m _ h => by simp at h, heap_alloc_new w _, HZS.out, fun m h => by simp at h, fun t h => by simp at h, below_alloc _ _⟩
  case round =>
    obtain ⟨j, gs, cs, rfl, hj, hl, hal, hbk, hcs, hcell, htw, hbe⟩ := hrel
    have HL := Lib.hid hl; clear hl
    have HAL := Lib.hid hal; clear hal
    have HCELL := Lib.hid hcell; clear hcell
    have HTW := Lib.hid htw; clear htw
    have HBE := Lib.hid hbe; clear hbe
    have HBK := Lib.hid hbk
    have hszr : w.heap.size < wr.heap.size := (Array.getElem?_eq_some_iff.1 hbk).1
    clear hbk
    by_cases hlt : j < fs.length
    · rcases HS.out.1 with h0 | ⟨a, o, hp, ha, hc⟩
      · omega
      subst hp
      have hck := (hc j hlt).up HBE.out ha
      clear hc
      have HE := Lib.hid ((HS.out.2 fs[j] (List.getElem_mem hlt)).up HBE.out)
      have HRk := Lib.hid (HR.out fs[j] (List.getElem_mem hlt))
      obtain ⟨tk, htk⟩ : ∃ tk, tk = fs[j] := ⟨_, rfl⟩
      rw [← htk] at hck HE HRk
      have HTK := Lib.hid htk; clear htk
      obtain ⟨c0, c1⟩ := hck
      have hcall := fun w' h => twinFact tk w' h HRk.out.n_
      obtain ⟨q, cp, hsv, hm, _⟩ := HE.out
      rw [hsv] at c1 hcall
      have HCALL := Lib.hid hcall; clear hcall
      have HSV := Lib.hid hsv; clear hsv
      go_wp2_with fail
      refine (HCALL.out _ (by rw [← HSV.out]; exact HE.out)).mono ?_
      rintro r w1 ⟨g, rfl, hal1, htw1, hb1⟩
      clear c0 c1
      have HTW1 := Lib.hid htw1
      obtain ⟨ag, hsg, _, _⟩ := htw1
      rw [hsg]
      have HSG := Lib.hid hsg; clear hsg
      have HAL1 := Lib.hid hal1; clear hal1
      have hbk1 := (hb1.block w.heap.size hszr).trans HBK.out
      have HB1 := Lib.hid hb1; clear hb1
      have q0 : w1.cell? ⟨w.heap.size, j * 2, none⟩ = some (cs[j * 2]'(by omega)) := by rw [Lib.cell_of_heap hbk1]; simp [show j * 2 < cs.size by omega]
      have q1 : w1.cell? ⟨w.heap.size, j * 2 + 1, none⟩ = some (cs[j * 2 + 1]'(by omega)) := by rw [Lib.cell_of_heap hbk1]; simp [show j * 2 + 1 < cs.size by omega]
      have f0 : w1.frozen? ⟨w.heap.size, j * 2, none⟩ = false := Lib.frozen_of_heap hbk1 _
      have f1 : w1.frozen? ⟨w.heap.size, j * 2 + 1, none⟩ = false := Lib.frozen_of_heap hbk1 _
      have HBK1 := Lib.hid hbk1; clear hbk1
      go_wp2_with fail
      go_roundw
      case rel =>
        have h1 := tf_next hlt HL.out HAL.out HBK.out hcs HCELL.out HTW.out HBE.out (HTK.out ▸ HAL1.out) HTW1.out HB1.out
        rw [HSG.out] at h1
        exact h1
      case measure => simp [intOf]; omega
    · obtain rfl : j = fs.length := by omega
      go_wp2_with fail
      refine (mFact _ (HT.out.at HBE.out)).mono ?_
      rintro r w1 ⟨rfl, hb1⟩
      have hbk1 := (hb1.block w.heap.size hszr).trans HBK.out
      have HB1 := Lib.hid hb1; clear hb1
      have q0 : w1.cell? ⟨w.heap.size, fs.length * 2, none⟩ = some (cs[fs.length * 2]'(by omega)) := by rw [Lib.cell_of_heap hbk1]; simp [show fs.length * 2 < cs.size by omega]
      have q1 : w1.cell? ⟨w.heap.size, fs.length * 2 + 1, none⟩ = some (cs[fs.length * 2 + 1]'(by omega)) := by rw [Lib.cell_of_heap hbk1]; simp [show fs.length * 2 + 1 < cs.size by omega]
      have f0 : w1.frozen? ⟨w.heap.size, fs.length * 2, none⟩ = false := Lib.frozen_of_heap hbk1 _
      have f1 : w1.frozen? ⟨w.heap.size, fs.length * 2 + 1, none⟩ = false := Lib.frozen_of_heap hbk1 _
      have HBK1 := Lib.hid hbk1; clear hbk1
      go_wp2_with fail
      go_ret
      refine ⟨w.heap.size, gs, rfl, Nat.le_refl _, ⟨?_, HL.out, HAL.out, ?_, put2_new HBK1.out (by omega) markFc, ?_, ⟨_, put2_heap HBK1.out _ _ _, by rw [set2_size]; exact hcs⟩⟩, put2_below (HBE.out.trans (HB1.out.mono (by omega))) (Nat.le_refl _) _ _ _⟩
      · show w.heap.size < (put2 w1 w.heap.size (fs.length * 2) _ _).heap.size
        rw [put2_size]
        have := HB1.out.size
        omega
      · intro m h
        exact put2_keeps HBK1.out ((HCELL.out m h).of_block (HB1.out.block _ hszr)) (by have := HL.out; omega) _ _
      · intro t ht
        have h1 : FcTw w1 (w.heap.size + 1) t := (HTW.out t ht).up (Nat.le_refl _) HB1.out.size (fun k hk hk' => HB1.out.block k hk')
        exact h1.up (by omega) (by show _ ≤ (put2 w1 w.heap.size (fs.length * 2) _ _).heap.size; rw [put2_size]; omega) (fun k hk _ => put2_block w1 (by omega) _ _ _)
set_option maxHeartbeats 4000000 in
theorem leftFacts (fs gs : List Fc) (a : Nat) (p : Option Addr) (cap : Nat) (w : World) (hs : FcsAt w p fs) (hr : ∀ f ∈ fs, FcR f) (hn : fs.length ≤ 4398046511104) (ht : TwFc w a fs gs) (hT : Tabs w) :
    Calls Tryd.prog 20 #[.slice (some ⟨a, 0, none⟩) fs.length (fs.length + 1), .slice p fs.length cap] w fun r w' => r = .returned (.bool true) ∧ Below w.heap.size w w' := by
  have HS := Lib.hid hs; clear hs
  have HR := Lib.hid hr; clear hr
  have HT := Lib.hid hT; clear hT
  have HTW := Lib.hid ht
  have ha := ht.lt
  clear ht
  go_enter Tryd.func20, Tryd.ntmps20
  go_wp2_with fail
  go_loopw [5] (fun i wr => ∃ j : Nat, j ≤ fs.length ∧ i = .int .i64 j ∧ Below w.heap.size w wr) (fun i _ => fs.length - (intOf i).toNat)
  case atStart => exact ⟨0, by omega, rfl, Below.refl _ _⟩
  case round =>
    obtain ⟨j, hj, rfl, hbe⟩ := hrel
    have HBE := Lib.hid hbe; clear hbe
    have har : a < wr.heap.size := Nat.lt_of_lt_of_le ha HBE.out.size
    by_cases hlt : j < fs.length
    · rcases HS.out.1 with h0 | ⟨b, o, hp, hb, hc⟩
      · omega
      subst hp
      have hbr : b < wr.heap.size := Nat.lt_of_lt_of_le hb HBE.out.size
      have hlt' : j < gs.length := by have := HTW.out.len; omega
      have hck := (hc j hlt).up HBE.out hb
      have hct := (HTW.out.cells j hlt').up HBE.out ha
      clear hc
      have HE := Lib.hid ((HS.out.2 fs[j] (List.getElem_mem hlt)).up HBE.out)
      have HN1 := Lib.hid (HR.out fs[j] (List.getElem_mem hlt)).n_
      have HAk := Lib.hid (HTW.out.like j hlt hlt')
      have HTk := Lib.hid ((HTW.out.kids gs[j] (List.getElem_mem hlt')).low HBE.out)
      obtain ⟨x, hx⟩ : ∃ x, x = fs[j] := ⟨_, rfl⟩
      obtain ⟨y, hy⟩ : ∃ y, y = gs[j] := ⟨_, rfl⟩
      rw [← hx] at hck HE HN1 HAk
      rw [← hy] at hct HAk HTk
      clear hx hy
      obtain ⟨c0, c1⟩ := hck
      obtain ⟨d0, d1⟩ := hct
      have hcall := fun w' h3 h4 => leftFact x y (a + 1) w' h3 HN1.out HAk.out h4
      obtain ⟨q, cp, hsv, hm, _⟩ := HE.out
      obtain ⟨ag, hsg, _, _⟩ := HTk.out
      rw [hsv] at c1 hcall
      rw [hsg] at d1 hcall
      have HCALL := Lib.hid hcall; clear hcall
      have HSV := Lib.hid hsv; clear hsv
      clear hsg
      go_wp2_with fail
      go_region_held3 (fun w' => w'.cell? ⟨a, j * 2, none⟩ = wr.cell? ⟨a, j * 2, none⟩ ∧ w'.cell? ⟨a, j * 2 + 1, none⟩ = wr.cell? ⟨a, j * 2 + 1, none⟩ ∧ w'.cell? ⟨b, o + j * 2, none⟩ = wr.cell? ⟨b, o + j * 2, none⟩ ∧ w'.cell? ⟨b, o + j * 2 + 1, none⟩ = wr.cell? ⟨b, o + j * 2 + 1, none⟩)
        (first | exact ⟨rfl, rfl, rfl, rfl⟩ | exact ⟨Hb.out.cell har, Hb.out.cell har, Hb.out.cell hbr, Hb.out.cell hbr⟩)
        (first
          | (go_at_call 49
             refine (HCALL.out _ ?_ ?_).mono ?_
             · rw [← HSV.out]; exact HE.out.up (Below.refl _ wr).drew
             · exact HTk.out.low (Below.refl _ wr).drew
             rintro r w1 ⟨rfl, hb⟩
             have Hb := Lib.hid (show Below wr.heap.size wr w1 from ⟨hb.os, hb.tape, hb.output, hb.size, hb.block⟩)
             clear hb))
      all_goals
        clear c0 c1 d0 d1
        go_wp2_with fail
        go_roundw
        case rel => exact ⟨j + 1, by omega, by go_num, HBE.out.trans (Hb.out.mono HBE.out.size)⟩
        case measure => simp [intOf]; omega
    · obtain rfl : j = fs.length := by omega
      obtain ⟨m0, m1⟩ := HTW.out.mark.up HBE.out ha
      simp only [markFc] at m0 m1
      obtain ⟨mk, hmk⟩ : ∃ mk, mk = markB := ⟨_, rfl⟩
      rw [← hmk] at m0
      have HMK := Lib.hid hmk; clear hmk
      go_wp2_with fail
      rw [HMK.out]
      refine (isMarkF _ (HT.out.at HBE.out)).mono ?_
      rintro r w1 ⟨rfl, hb⟩
      have Hb := Lib.hid hb; clear hb
      clear m0 m1
      go_wp2_with fail
      go_ret
      exact ⟨rfl, HBE.out.trans (Hb.out.mono HBE.out.size)⟩
def BfRel (fs : List Fc) (w : World) (v i : Value) (wr : World) : Prop := ∃ (j : Nat) (n : Int), i = .int .i64 j ∧ v = .int .i64 n ∧ j ≤ fs.length ∧ (j : Int) ≤ n ∧ n ≤ 1048576 ∧ wr = w
def BfPost (fs : List Fc) (w : World) (r : Ending) (w' : World) : Prop := ∃ b : Bool, r = .returned (.bool b) ∧ (b = false → fs.length ≤ 1048576) ∧ w' = w
set_option maxHeartbeats 2000000 in
theorem beyondFacts (fs : List Fc) (p : Option Addr) (cap : Nat) (w : World) (hs : FcsAt w p fs) (hr : ∀ f ∈ fs, FcR f) (hn : fs.length ≤ 4398046511104) :
    Calls Tryd.prog 16 #[.slice p fs.length cap] w (BfPost fs w) := by
  have HS := Lib.hid hs; clear hs
  have HR := Lib.hid hr; clear hr
  go_enter Tryd.func16, Tryd.ntmps16
  go_wp2_with fail
  go_loopw [3, 4] (fun v i wr => BfRel fs w v i wr) (fun _ i _ => fs.length - (intOf i).toNat)
  case atStart => exact ⟨0, 0, rfl, rfl, by omega, by omega, by omega, rfl⟩
  case round =>
    obtain ⟨j, n, rfl, rfl, hj, hn1, hn2, rfl⟩ := hrel
    by_cases hlt : j < fs.length
    · rcases HS.out.1 with h0 | ⟨b, o, hp, hb, hc⟩
      · omega
      subst hp
      have hck := hc j hlt
      clear hc
      have hxl := (HR.out fs[j] (List.getElem_mem hlt)).n_
      obtain ⟨q, cp, hsv, hm, _⟩ := HS.out.2 fs[j] (List.getElem_mem hlt)
      obtain ⟨x, hx⟩ : ∃ x, x = fs[j] := ⟨_, rfl⟩
      rw [← hx] at hck hxl hsv hm
      clear hx
      obtain ⟨c0, c1⟩ := hck
      rw [hsv] at c1
      clear hsv
      by_cases hbig : 1048576 < n + 1 + (x.xs.length : Int)
      · go_wp2_with fail
        go_ret
        exact ⟨true, rfl, (fun h => nomatch h), rfl⟩
      · go_wp2_with fail
        exact ⟨⟨j + 1, n + 1 + (x.xs.length : Int), by go_num, rfl, by omega, by omega, by omega, rfl⟩, by simp [intOf]; omega⟩
    · go_wp2_with fail
      go_ret
      exact ⟨false, rfl, (fun _ => by omega), rfl⟩
end Go.Proofs.YtlghiakckkhekaaDoor
