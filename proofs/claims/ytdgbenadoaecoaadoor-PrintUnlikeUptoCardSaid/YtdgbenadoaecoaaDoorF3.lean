/- Plain laws on worlds for the walk of PrintParts: blocks written whole; the empty expression; two copies in two new variables. Conditions: none. -/
import Derived.Test.YtdgbenadoaecoaaDoorF2
import Derived.Test.YtdgbenadoaecoaaDoorE2
import Derived.Test.YtdgbenadoaecoaaDoorC6
namespace Go.Proofs.YtdgbenadoaecoaaDoor
open Go.RowKit

/-- Two variables that hold copies, one of an atom, one of a literal. -/
def TwoTw {d : Nat} (W : World) (p : ByteArray) (ts : List Tm) (x : Lt d) (s5 s6 : Value) (wx : World) : Prop :=
  ∃ (bt bm a : Nat) (y : Lt d), s5 = .pointer (some ⟨bt, 0, none⟩) ∧ s6 = .pointer (some ⟨bm, 0, none⟩) ∧ W.heap.size ≤ bt ∧ W.heap.size ≤ bm ∧ wx.heap[bt]? = some (.cells #[.string p, .slice (some ⟨a, 0, none⟩) ts.length (ts.length + 1)] 29 (0, 0)) ∧
    wx.heap[bm]? = some (.cells #[.int .i8 y.k, .string y.p, y.sv, .int .i8 y.r, .int .i8 (exOp d y.l), .string (exTm d y.l).v, .int .i8 (exTm d y.l).x.k, .int .i64 (exTm d y.l).x.n, .string (exTm d y.l).x.t, exSl d y.l, .int .i8 (exOp d y.g), .string (exTm d y.g).v, .int .i8 (exTm d y.g).x.k, .int .i64 (exTm d y.g).x.n, .string (exTm d y.g).x.t, exSl d y.g] 94 (0, 0)) ∧ TwTm wx a ts ∧ LtLike x y ∧ LtTw wx W.heap.size y ∧ Below W.heap.size W wx
section
variable {d : Nat} {W w2 w3 : World} {p : ByteArray} {ts : List Tm} {x y : Lt d} {a B3 bt bm : Nat}
theorem two_end {wx : World} (hbt : W.heap.size ≤ bt) (hbm : W.heap.size ≤ bm) (h1 : wx.heap[bt]? = some (.cells #[.string p, .slice (some ⟨a, 0, none⟩) ts.length (ts.length + 1)] 29 (0, 0))) (h2 : wx.heap[bm]? = some (.cells #[.int .i8 y.k, .string y.p, y.sv, .int .i8 y.r, .int .i8 (exOp d y.l), .string (exTm d y.l).v, .int .i8 (exTm d y.l).x.k, .int .i64 (exTm d y.l).x.n, .string (exTm d y.l).x.t, exSl d y.l, .int .i8 (exOp d y.g), .string (exTm d y.g).v, .int .i8 (exTm d y.g).x.k, .int .i64 (exTm d y.g).x.n, .string (exTm d y.g).x.t, exSl d y.g] 94 (0, 0))) (hA : TwTm w2 a ts) (ha : wx.heap[a]? = w2.heap[a]?) (has : a < wx.heap.size) (hl : LtLike x y) (hy : LtTw w3 B3 y)
    (hB : W.heap.size ≤ B3) (hs : w3.heap.size ≤ wx.heap.size) (hk : ∀ k, B3 ≤ k → k < w3.heap.size → wx.heap[k]? = w3.heap[k]?) (hb : Below W.heap.size W wx) : TwoTw W p ts x (.pointer (some ⟨bt, 0, none⟩)) (.pointer (some ⟨bm, 0, none⟩)) wx :=
  ⟨bt, bm, a, y, rfl, rfl, hbt, hbm, h1, h2, hA.of_block has ha, hl, hy.up hB hs hk, hb⟩
/-- Both variables are older than the second copy. -/
theorem two_0 (hbt : W.heap.size ≤ bt) (hbm : W.heap.size ≤ bm) (hne : bt ≠ bm) (h1 : w3.heap[bt]? = some (.cells #[.string ⟨#[]⟩, .slice none 0 0] 29 (0, 0))) (h2 : w3.heap[bm]? = some (.cells #[.int .i8 0, .string ⟨#[]⟩, .slice none 0 0, .int .i8 0, .int .i8 0, .string ⟨#[]⟩, .int .i8 0, .int .i64 0, .string ⟨#[]⟩, .slice none 0 0, .int .i8 0, .string ⟨#[]⟩, .int .i8 0, .int .i64 0, .string ⟨#[]⟩, .slice none 0 0] 94 (0, 0))) (hA : TwTm w2 a ts) (h23 : Below w2.heap.size w2 w3) (hat : a ≠ bt) (ham : a ≠ bm)
    (hl : LtLike x y) (hy : LtTw w3 B3 y) (hB : W.heap.size ≤ B3) (ht3 : bt < B3) (hm3 : bm < B3) (hb : Below W.heap.size W w3) : TwoTw W p ts x (.pointer (some ⟨bt, 0, none⟩)) (.pointer (some ⟨bm, 0, none⟩)) (putL (putL w3 bt 0 [.string p, .slice (some ⟨a, 0, none⟩) ts.length (ts.length + 1)]) bm 0 [.int .i8 y.k, .string y.p, y.sv, .int .i8 y.r, .int .i8 (exOp d y.l), .string (exTm d y.l).v, .int .i8 (exTm d y.l).x.k, .int .i64 (exTm d y.l).x.n, .string (exTm d y.l).x.t, exSl d y.l, .int .i8 (exOp d y.g), .string (exTm d y.g).v, .int .i8 (exTm d y.g).x.k, .int .i64 (exTm d y.g).x.n, .string (exTm d y.g).x.t, exSl d y.g]) := by
  refine two_end hbt hbm ?_ ?_ hA ?_ ?_ hl hy hB (by rw [putL_size, putL_size]; exact Nat.le_refl _) (fun k hk1 hk2 => ?_) (putL_below hbm _ _ _ (putL_below hbt _ _ _ hb))
  · rw [putL_block hne]
    exact putL_heap _ h1 rfl
  · exact putL_heap _ ((putL_block (Ne.symm hne) _ _ _).trans h2) rfl
  · rw [putL_block ham, putL_block hat, h23.block a hA.lt]
  · rw [putL_size, putL_size]
    exact Nat.lt_of_lt_of_le hA.lt h23.size
  · rw [putL_block (by omega), putL_block (by omega)]
/-- The atom's variable is younger than the second copy. -/
theorem two_1 (hbm : W.heap.size ≤ bm) (h2 : w3.heap[bm]? = some (.cells #[.int .i8 0, .string ⟨#[]⟩, .slice none 0 0, .int .i8 0, .int .i8 0, .string ⟨#[]⟩, .int .i8 0, .int .i64 0, .string ⟨#[]⟩, .slice none 0 0, .int .i8 0, .string ⟨#[]⟩, .int .i8 0, .int .i64 0, .string ⟨#[]⟩, .slice none 0 0] 94 (0, 0))) (hA : TwTm w2 a ts) (h23 : Below w2.heap.size w2 w3) (ham : a ≠ bm) (hl : LtLike x y) (hy : LtTw w3 B3 y) (hB : W.heap.size ≤ B3) (hm3 : bm < B3) (hb : Below W.heap.size W w3) :
    TwoTw W p ts x (.pointer (some ⟨w3.heap.size, 0, none⟩)) (.pointer (some ⟨bm, 0, none⟩)) ((putL w3 bm 0 [.int .i8 y.k, .string y.p, y.sv, .int .i8 y.r, .int .i8 (exOp d y.l), .string (exTm d y.l).v, .int .i8 (exTm d y.l).x.k, .int .i64 (exTm d y.l).x.n, .string (exTm d y.l).x.t, exSl d y.l, .int .i8 (exOp d y.g), .string (exTm d y.g).v, .int .i8 (exTm d y.g).x.k, .int .i64 (exTm d y.g).x.n, .string (exTm d y.g).x.t, exSl d y.g]).alloc (.cells #[.string p, .slice (some ⟨a, 0, none⟩) ts.length (ts.length + 1)] 29)) := by
  have hbs : bm < w3.heap.size := (Array.getElem?_eq_some_iff.1 h2).1
  have hz : (putL w3 bm 0 [.int .i8 y.k, .string y.p, y.sv, .int .i8 y.r, .int .i8 (exOp d y.l), .string (exTm d y.l).v, .int .i8 (exTm d y.l).x.k, .int .i64 (exTm d y.l).x.n, .string (exTm d y.l).x.t, exSl d y.l, .int .i8 (exOp d y.g), .string (exTm d y.g).v, .int .i8 (exTm d y.g).x.k, .int .i64 (exTm d y.g).x.n, .string (exTm d y.g).x.t, exSl d y.g]).heap.size = w3.heap.size := putL_size _ _ _
  refine two_end hb.size hbm ?_ ?_ hA ?_ ?_ hl hy hB (by simp [hz]) (fun k hk1 hk2 => ?_) ((putL_below hbm _ _ _ hb).alloc (by rw [hz]; exact hb.size) _)
  · have h := heap_alloc_new (putL w3 bm 0 [.int .i8 y.k, .string y.p, y.sv, .int .i8 y.r, .int .i8 (exOp d y.l), .string (exTm d y.l).v, .int .i8 (exTm d y.l).x.k, .int .i64 (exTm d y.l).x.n, .string (exTm d y.l).x.t, exSl d y.l, .int .i8 (exOp d y.g), .string (exTm d y.g).v, .int .i8 (exTm d y.g).x.k, .int .i64 (exTm d y.g).x.n, .string (exTm d y.g).x.t, exSl d y.g]) (.cells #[.string p, .slice (some ⟨a, 0, none⟩) ts.length (ts.length + 1)] 29)
    rwa [hz] at h
  · rw [Lib.alloc_old _ _ _ (by rw [hz]; exact hbs)]
    exact putL_heap _ h2 rfl
  · have := hA.lt
    have := h23.size
    rw [Lib.alloc_old _ _ _ (by rw [hz]; omega), putL_block ham, h23.block a hA.lt]
  · have := hA.lt
    have := h23.size
    simp [hz]
    omega
  · rw [Lib.alloc_old _ _ _ (by rw [hz]; exact hk2), putL_block (by omega)]
/-- The literal's variable is younger than the second copy. -/
theorem two_2 (hbt : W.heap.size ≤ bt) (h1 : w3.heap[bt]? = some (.cells #[.string ⟨#[]⟩, .slice none 0 0] 29 (0, 0))) (hA : TwTm w2 a ts) (h23 : Below w2.heap.size w2 w3) (hat : a ≠ bt) (hl : LtLike x y) (hy : LtTw w3 B3 y) (hB : W.heap.size ≤ B3) (ht3 : bt < B3) (hb : Below W.heap.size W w3) :
    TwoTw W p ts x (.pointer (some ⟨bt, 0, none⟩)) (.pointer (some ⟨w3.heap.size, 0, none⟩)) ((putL w3 bt 0 [.string p, .slice (some ⟨a, 0, none⟩) ts.length (ts.length + 1)]).alloc (.cells #[.int .i8 y.k, .string y.p, y.sv, .int .i8 y.r, .int .i8 (exOp d y.l), .string (exTm d y.l).v, .int .i8 (exTm d y.l).x.k, .int .i64 (exTm d y.l).x.n, .string (exTm d y.l).x.t, exSl d y.l, .int .i8 (exOp d y.g), .string (exTm d y.g).v, .int .i8 (exTm d y.g).x.k, .int .i64 (exTm d y.g).x.n, .string (exTm d y.g).x.t, exSl d y.g] 94)) := by
  have hbs : bt < w3.heap.size := (Array.getElem?_eq_some_iff.1 h1).1
  have hz : (putL w3 bt 0 [.string p, .slice (some ⟨a, 0, none⟩) ts.length (ts.length + 1)]).heap.size = w3.heap.size := putL_size _ _ _
  refine two_end hbt hb.size ?_ ?_ hA ?_ ?_ hl hy hB (by simp [hz]) (fun k hk1 hk2 => ?_) ((putL_below hbt _ _ _ hb).alloc (by rw [hz]; exact hb.size) _)
  · rw [Lib.alloc_old _ _ _ (by rw [hz]; exact hbs)]
    exact putL_heap _ h1 rfl
  · have h := heap_alloc_new (putL w3 bt 0 [.string p, .slice (some ⟨a, 0, none⟩) ts.length (ts.length + 1)]) (.cells #[.int .i8 y.k, .string y.p, y.sv, .int .i8 y.r, .int .i8 (exOp d y.l), .string (exTm d y.l).v, .int .i8 (exTm d y.l).x.k, .int .i64 (exTm d y.l).x.n, .string (exTm d y.l).x.t, exSl d y.l, .int .i8 (exOp d y.g), .string (exTm d y.g).v, .int .i8 (exTm d y.g).x.k, .int .i64 (exTm d y.g).x.n, .string (exTm d y.g).x.t, exSl d y.g] 94)
    rwa [hz] at h
  · have := hA.lt
    have := h23.size
    rw [Lib.alloc_old _ _ _ (by rw [hz]; omega), putL_block hat, h23.block a hA.lt]
  · have := hA.lt
    have := h23.size
    simp [hz]
    omega
  · rw [Lib.alloc_old _ _ _ (by rw [hz]; exact hk2), putL_block (by omega)]
/-- Both are younger, the atom's first. -/
theorem two_3 (hA : TwTm w2 a ts) (h23 : Below w2.heap.size w2 w3) (hl : LtLike x y) (hy : LtTw w3 B3 y) (hB : W.heap.size ≤ B3) (hb : Below W.heap.size W w3) :
    TwoTw W p ts x (.pointer (some ⟨w3.heap.size, 0, none⟩)) (.pointer (some ⟨w3.heap.size + 1, 0, none⟩)) ((w3.alloc (.cells #[.string p, .slice (some ⟨a, 0, none⟩) ts.length (ts.length + 1)] 29)).alloc (.cells #[.int .i8 y.k, .string y.p, y.sv, .int .i8 y.r, .int .i8 (exOp d y.l), .string (exTm d y.l).v, .int .i8 (exTm d y.l).x.k, .int .i64 (exTm d y.l).x.n, .string (exTm d y.l).x.t, exSl d y.l, .int .i8 (exOp d y.g), .string (exTm d y.g).v, .int .i8 (exTm d y.g).x.k, .int .i64 (exTm d y.g).x.n, .string (exTm d y.g).x.t, exSl d y.g] 94)) := by
  have hs := hb.size
  have := hA.lt
  have := h23.size
  refine two_end hs (by omega) ?_ ?_ hA ?_ (by simp; omega) hl hy hB (by simp; omega) (fun k hk1 hk2 => ?_) ((hb.alloc hs _).alloc (by simp; omega) _)
  · rw [Lib.alloc_old _ _ _ (by simp)]
    exact heap_alloc_new w3 _
  · simpa using heap_alloc_new (w3.alloc (.cells #[.string p, .slice (some ⟨a, 0, none⟩) ts.length (ts.length + 1)] 29)) _
  · rw [Lib.alloc_old _ _ _ (by simp; omega), Lib.alloc_old _ _ _ (by omega), h23.block a hA.lt]
  · rw [Lib.alloc_old _ _ _ (by simp; omega), Lib.alloc_old _ _ _ (by omega)]
/-- Both are younger, the literal's first. -/
theorem two_4 (hA : TwTm w2 a ts) (h23 : Below w2.heap.size w2 w3) (hl : LtLike x y) (hy : LtTw w3 B3 y) (hB : W.heap.size ≤ B3) (hb : Below W.heap.size W w3) :
    TwoTw W p ts x (.pointer (some ⟨w3.heap.size + 1, 0, none⟩)) (.pointer (some ⟨w3.heap.size, 0, none⟩)) ((w3.alloc (.cells #[.int .i8 y.k, .string y.p, y.sv, .int .i8 y.r, .int .i8 (exOp d y.l), .string (exTm d y.l).v, .int .i8 (exTm d y.l).x.k, .int .i64 (exTm d y.l).x.n, .string (exTm d y.l).x.t, exSl d y.l, .int .i8 (exOp d y.g), .string (exTm d y.g).v, .int .i8 (exTm d y.g).x.k, .int .i64 (exTm d y.g).x.n, .string (exTm d y.g).x.t, exSl d y.g] 94)).alloc (.cells #[.string p, .slice (some ⟨a, 0, none⟩) ts.length (ts.length + 1)] 29)) := by
  have hs := hb.size
  have := hA.lt
  have := h23.size
  refine two_end (by omega) hs ?_ ?_ hA ?_ (by simp; omega) hl hy hB (by simp; omega) (fun k hk1 hk2 => ?_) ((hb.alloc hs _).alloc (by simp; omega) _)
  · simpa using heap_alloc_new (w3.alloc (.cells #[.int .i8 y.k, .string y.p, y.sv, .int .i8 y.r, .int .i8 (exOp d y.l), .string (exTm d y.l).v, .int .i8 (exTm d y.l).x.k, .int .i64 (exTm d y.l).x.n, .string (exTm d y.l).x.t, exSl d y.l, .int .i8 (exOp d y.g), .string (exTm d y.g).v, .int .i8 (exTm d y.g).x.k, .int .i64 (exTm d y.g).x.n, .string (exTm d y.g).x.t, exSl d y.g] 94)) _
  · rw [Lib.alloc_old _ _ _ (by simp)]
    exact heap_alloc_new w3 _
  · rw [Lib.alloc_old _ _ _ (by simp; omega), Lib.alloc_old _ _ _ (by omega), h23.block a hA.lt]
  · rw [Lib.alloc_old _ _ _ (by simp; omega), Lib.alloc_old _ _ _ (by omega)]
end
theorem keep18 {W w' : World} {ba bl : Nat} (h : Below W.heap.size W w') (h1 : ba < W.heap.size) (h2 : bl < W.heap.size) : w'.cell? ⟨ba, 0, none⟩ = W.cell? ⟨ba, 0, none⟩ ∧ w'.cell? ⟨ba, 1, none⟩ = W.cell? ⟨ba, 1, none⟩ ∧ w'.cell? ⟨bl, 0, none⟩ = W.cell? ⟨bl, 0, none⟩ ∧ w'.cell? ⟨bl, 1, none⟩ = W.cell? ⟨bl, 1, none⟩ ∧ w'.cell? ⟨bl, 2, none⟩ = W.cell? ⟨bl, 2, none⟩ ∧ w'.cell? ⟨bl, 3, none⟩ = W.cell? ⟨bl, 3, none⟩ ∧ w'.cell? ⟨bl, 4, none⟩ = W.cell? ⟨bl, 4, none⟩ ∧ w'.cell? ⟨bl, 5, none⟩ = W.cell? ⟨bl, 5, none⟩ ∧ w'.cell? ⟨bl, 6, none⟩ = W.cell? ⟨bl, 6, none⟩ ∧ w'.cell? ⟨bl, 7, none⟩ = W.cell? ⟨bl, 7, none⟩ ∧ w'.cell? ⟨bl, 8, none⟩ = W.cell? ⟨bl, 8, none⟩ ∧ w'.cell? ⟨bl, 9, none⟩ = W.cell? ⟨bl, 9, none⟩ ∧ w'.cell? ⟨bl, 10, none⟩ = W.cell? ⟨bl, 10, none⟩ ∧ w'.cell? ⟨bl, 11, none⟩ = W.cell? ⟨bl, 11, none⟩ ∧ w'.cell? ⟨bl, 12, none⟩ = W.cell? ⟨bl, 12, none⟩ ∧ w'.cell? ⟨bl, 13, none⟩ = W.cell? ⟨bl, 13, none⟩ ∧ w'.cell? ⟨bl, 14, none⟩ = W.cell? ⟨bl, 14, none⟩ ∧ w'.cell? ⟨bl, 15, none⟩ = W.cell? ⟨bl, 15, none⟩ :=
  ⟨h.cell (p := ⟨ba, 0, none⟩) h1, h.cell (p := ⟨ba, 1, none⟩) h1, h.cell (p := ⟨bl, 0, none⟩) h2, h.cell (p := ⟨bl, 1, none⟩) h2, h.cell (p := ⟨bl, 2, none⟩) h2, h.cell (p := ⟨bl, 3, none⟩) h2, h.cell (p := ⟨bl, 4, none⟩) h2, h.cell (p := ⟨bl, 5, none⟩) h2, h.cell (p := ⟨bl, 6, none⟩) h2, h.cell (p := ⟨bl, 7, none⟩) h2, h.cell (p := ⟨bl, 8, none⟩) h2, h.cell (p := ⟨bl, 9, none⟩) h2, h.cell (p := ⟨bl, 10, none⟩) h2, h.cell (p := ⟨bl, 11, none⟩) h2, h.cell (p := ⟨bl, 12, none⟩) h2, h.cell (p := ⟨bl, 13, none⟩) h2, h.cell (p := ⟨bl, 14, none⟩) h2, h.cell (p := ⟨bl, 15, none⟩) h2⟩
theorem Alike.len : ∀ {d : Nat} {e f : Ex d}, Alike d e f → exLen d e = exLen d f
  | 0, e, _, _ => nomatch e
  | _ + 1, _, _, h => h.2.2.1
theorem LtLike.ok {d : Nat} {x y : Lt d} (h : LtLike x y) : ltOk x = ltOk y := by
  unfold ltOk
  rw [h.k_, h.p_, h.ts_, h.r_, h.l_.op, h.l_.tm, h.l_.len, h.g_.op, h.g_.tm, h.g_.len, h.l_.ok, h.g_.ok]
theorem LtLike.txt {d : Nat} {x y : Lt d} (h : LtLike x y) : litL x = litL y := by
  unfold litL
  rw [h.k_, h.p_, h.ts_, h.r_, h.l_.txt, h.g_.txt]
theorem LtLike.r {d : Nat} {x y : Lt d} (h : LtLike x y) (hr : LtR x) : LtR y :=
  ⟨by rw [← h.p_]; exact hr.p_, by rw [← h.ts_]; exact hr.ts_, h.l_.r hr.l_, h.g_.r hr.g_⟩
/-- Below, over new blocks and a draw. -/
theorem bel1 {W X : World} {O : Obj} (h : Below W.heap.size W X) : Below W.heap.size W (X.alloc O) := h.alloc h.size _
theorem bel2 {W X : World} {O O2 : Obj} (h : Below W.heap.size W X) : Below W.heap.size W ((X.alloc O).alloc O2) := bel1 (bel1 h)
theorem bel0d {W X : World} (h : Below W.heap.size W X) : Below W.heap.size W X.drew := h.drew
theorem bel1d {W X : World} {O : Obj} (h : Below W.heap.size W X) : Below W.heap.size W (X.alloc O).drew := (bel1 h).drew
theorem bel2d {W X : World} {O O2 : Obj} (h : Below W.heap.size W X) : Below W.heap.size W ((X.alloc O).alloc O2).drew := (bel2 h).drew
theorem bel_call {W X w' : World} (h : Below W.heap.size W X) (hb : Below X.heap.size X w') : Below W.heap.size W w' := h.trans (hb.mono h.size)
/-- A variable that a row of new blocks holds, behind a call. -/
theorem al1 {z w' : World} (O : Obj) (hb : Below (z.alloc O).heap.size (z.alloc O) w') : w'.heap[z.heap.size]? = some O := (hb.block _ (by simp)).trans (heap_alloc_new z O)
theorem al2 {z w' : World} (O : Obj) {O2 : Obj} (hb : Below ((z.alloc O).alloc O2).heap.size ((z.alloc O).alloc O2) w') : w'.heap[z.heap.size]? = some O := (hb.block _ (by simp; omega)).trans ((Lib.alloc_old _ _ _ (by simp)).trans (heap_alloc_new z O))
theorem al3 {z w' : World} (O : Obj) {O2 : Obj} (hb : Below ((z.alloc O2).alloc O).heap.size ((z.alloc O2).alloc O) w') : w'.heap[z.heap.size + 1]? = some O := (hb.block _ (by simp)).trans (by simpa using heap_alloc_new (z.alloc O2) O)
theorem al1d {z w' : World} (O : Obj) (hb : Below (z.alloc O).drew.heap.size (z.alloc O).drew w') : w'.heap[z.heap.size]? = some O := (hb.block _ (by simp)).trans (heap_alloc_new z O)
theorem al2d {z w' : World} (O : Obj) {O2 : Obj} (hb : Below ((z.alloc O).alloc O2).drew.heap.size ((z.alloc O).alloc O2).drew w') : w'.heap[z.heap.size]? = some O := (hb.block _ (by simp; omega)).trans ((Lib.alloc_old _ _ _ (by simp)).trans (heap_alloc_new z O))
theorem al3d {z w' : World} (O : Obj) {O2 : Obj} (hb : Below ((z.alloc O2).alloc O).drew.heap.size ((z.alloc O2).alloc O).drew w') : w'.heap[z.heap.size + 1]? = some O := (hb.block _ (by simp)).trans (show ((z.alloc O2).alloc O).heap[z.heap.size + 1]? = some O by simpa using heap_alloc_new (z.alloc O2) O)
theorem kb0 {z w' : World} {c : Nat} {O : Obj} (h : z.heap[c]? = some O) (hb : Below z.heap.size z w') : w'.heap[c]? = some O := (hb.block _ (Array.getElem?_eq_some_iff.1 h).1).trans h
theorem kb1 {z w' : World} {c : Nat} {O O1 : Obj} (h : z.heap[c]? = some O) (hb : Below (z.alloc O1).heap.size (z.alloc O1) w') : w'.heap[c]? = some O :=
  (hb.block _ (by have := (Array.getElem?_eq_some_iff.1 h).1; simp; omega)).trans ((Lib.alloc_old _ _ _ (Array.getElem?_eq_some_iff.1 h).1).trans h)
theorem kb2 {z w' : World} {c : Nat} {O O1 O2 : Obj} (h : z.heap[c]? = some O) (hb : Below ((z.alloc O1).alloc O2).heap.size ((z.alloc O1).alloc O2) w') : w'.heap[c]? = some O :=
  (hb.block _ (by have := (Array.getElem?_eq_some_iff.1 h).1; simp; omega)).trans ((Lib.alloc_old _ _ _ (by have := (Array.getElem?_eq_some_iff.1 h).1; simp; omega)).trans ((Lib.alloc_old _ _ _ (Array.getElem?_eq_some_iff.1 h).1).trans h))
/-- The empty expression. -/
def exZ (d : Nat) : Ex (d + 1) := (0, ⟨⟨#[]⟩, ⟨0, 0, ⟨#[]⟩⟩⟩, .slice none 0 0, [])
theorem exZ_at (w : World) (d : Nat) : ExAt w (d + 1) (exZ d) := ⟨none, 0, rfl, by unfold maxLen; simp [exZ], .inl rfl, fun k hk => by simp [exZ] at hk⟩
theorem exZ_b (d : Nat) : ExB (d + 1) (exZ d) := ⟨by simp [exZ], fun k hk => by simp [exZ] at hk⟩
/-- A literal that is an atom, without a kind. -/
def ltA (d : Nat) (p : ByteArray) (sv : Value) (ts : List Tm) : Lt (d + 1) := ⟨0, p, ts, sv, 0, exZ d, exZ d⟩
theorem lts_two {w : World} {d b : Nat} {x : Lt (d + 1)} {p : ByteArray} {sv : Value} {ts : List Tm} {t : TypeId} {fz : Nat × Nat} (h : w.heap[b]? = some (.cells #[.int .i8 x.k, .string x.p, x.sv, .int .i8 x.r, .int .i8 (exOp (d + 1) x.l), .string (exTm (d + 1) x.l).v, .int .i8 (exTm (d + 1) x.l).x.k, .int .i64 (exTm (d + 1) x.l).x.n, .string (exTm (d + 1) x.l).x.t, exSl (d + 1) x.l, .int .i8 (exOp (d + 1) x.g), .string (exTm (d + 1) x.g).v, .int .i8 (exTm (d + 1) x.g).x.k, .int .i64 (exTm (d + 1) x.g).x.n, .string (exTm (d + 1) x.g).x.t, exSl (d + 1) x.g, .int .i8 0, .string p, sv, .int .i8 0, .int .i8 0, .string ⟨#[]⟩, .int .i8 0, .int .i64 0, .string ⟨#[]⟩, .slice none 0 0, .int .i8 0, .string ⟨#[]⟩, .int .i8 0, .int .i64 0, .string ⟨#[]⟩, .slice none 0 0] t fz))
    (hx : LtAt w x) (hts : TmSl w sv ts) : LtsAt w (d + 1) (some ⟨b, 0, none⟩) [x, ltA d p sv ts] := by
  refine ⟨.inr ⟨b, 0, rfl, (Array.getElem?_eq_some_iff.1 h).1, fun i hi => ?_⟩, fun z hz => ?_⟩
  · have : i = 0 ∨ i = 1 := by simp at hi; omega
    rcases this with rfl | rfl
    · exact ⟨by rw [Lib.cell_of_heap h]; rfl, by rw [Lib.cell_of_heap h]; rfl, by rw [Lib.cell_of_heap h]; rfl, by rw [Lib.cell_of_heap h]; rfl, by rw [Lib.cell_of_heap h]; rfl, by rw [Lib.cell_of_heap h]; rfl, by rw [Lib.cell_of_heap h]; rfl, by rw [Lib.cell_of_heap h]; rfl, by rw [Lib.cell_of_heap h]; rfl, by rw [Lib.cell_of_heap h]; rfl, by rw [Lib.cell_of_heap h]; rfl, by rw [Lib.cell_of_heap h]; rfl, by rw [Lib.cell_of_heap h]; rfl, by rw [Lib.cell_of_heap h]; rfl, by rw [Lib.cell_of_heap h]; rfl, by rw [Lib.cell_of_heap h]; rfl⟩
    · exact ⟨by rw [Lib.cell_of_heap h]; rfl, by rw [Lib.cell_of_heap h]; rfl, by rw [Lib.cell_of_heap h]; rfl, by rw [Lib.cell_of_heap h]; rfl, by rw [Lib.cell_of_heap h]; rfl, by rw [Lib.cell_of_heap h]; rfl, by rw [Lib.cell_of_heap h]; rfl, by rw [Lib.cell_of_heap h]; rfl, by rw [Lib.cell_of_heap h]; rfl, by rw [Lib.cell_of_heap h]; rfl, by rw [Lib.cell_of_heap h]; rfl, by rw [Lib.cell_of_heap h]; rfl, by rw [Lib.cell_of_heap h]; rfl, by rw [Lib.cell_of_heap h]; rfl, by rw [Lib.cell_of_heap h]; rfl, by rw [Lib.cell_of_heap h]; rfl⟩
  · simp at hz
    rcases hz with rfl | rfl
    · exact hx
    · exact ⟨hts, exZ_at w d, exZ_at w d⟩
end Go.Proofs.YtdgbenadoaecoaaDoor
