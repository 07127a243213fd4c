/- Where the lists of expressions and literals lie: a world that keeps those blocks keeps them; the rounds of the reference's ApplyExpr. The reference's ApplyExpr: an expression with its variables replaced. Conditions: none. the pairs and the expression lie in memory as they are told; beside a variable a term bears no value; no expression has more than two kids. -/
import Derived.Test.YtafjjececdhmjaaGreatNKm
import Derived.Deep.Cut
namespace Go.Proofs.YtafjjececdhmjaaGreat
open Go.RowKit

/-- An expression's lists lie in blocks of a kind. -/
def ExIn (N : Nat → Prop) : (d : Nat) → Ex d → Prop
  | 0, _ => True
  | d + 1, e => (∀ a, e.2.2.1.ownBlock = some a → N a) ∧ ∀ k ∈ e.2.2.2, ExIn N d k
theorem ExIn.mono {N M : Nat → Prop} (h : ∀ a, N a → M a) : ∀ (d : Nat) (e : Ex d), ExIn N d e → ExIn M d e
  | 0, _, _ => trivial
  | d + 1, _, ⟨h1, h2⟩ => ⟨fun a ha => h a (h1 a ha), fun k hk => ExIn.mono h d k (h2 k hk)⟩
theorem cell_eq {w w' : World} {a : Nat} (h : w'.heap[a]? = w.heap[a]?) (o : Nat) : w'.cell? ⟨a, o, none⟩ = w.cell? ⟨a, o, none⟩ := World.cell?_of_block (w := w) (a := ⟨a, o, none⟩) h
theorem ExCell.eq {w w' : World} {a o : Nat} {op : Int} {t : Tm} {s : Value} (h : ExCell w a o op t s) (e : w'.heap[a]? = w.heap[a]?) : ExCell w' a o op t s :=
  ⟨(cell_eq e _).trans h.c0, (cell_eq e _).trans h.c1, (cell_eq e _).trans h.c2, (cell_eq e _).trans h.c3, (cell_eq e _).trans h.c4, (cell_eq e _).trans h.c5⟩
/-- What a world keeps that keeps the blocks of a kind. -/
structure KpW (N : Nat → Prop) (w w' : World) : Prop where
  s_ : w.heap.size ≤ w'.heap.size
  k_ : ∀ a, N a → a < w.heap.size → w'.heap[a]? = w.heap[a]?
theorem ExAt.keep {N : Nat → Prop} {w w' : World} (h : KpW N w w') : ∀ (d : Nat) (e : Ex d), ExIn N d e → ExAt w d e → ExAt w' d e
  | 0, _, _, _ => trivial
  | d + 1, _, ⟨hn, hi⟩, ⟨p, cap, h1, h2, h3, h4⟩ =>
    ⟨p, cap, h1, h2, h3.imp id fun ⟨a, o, hp, ha, hc⟩ => ⟨a, o, hp, Nat.lt_of_lt_of_le ha h.s_, fun i hi' => (hc i hi').eq (h.k_ a (hn a (by rw [h1, hp]; rfl)) ha)⟩, fun k hk' => ExAt.keep h d k (hi k hk') (h4 k hk')⟩
theorem TmSl.keep {N : Nat → Prop} {w w' : World} {v : Value} {ts : List Tm} (h : KpW N w w') (hn : ∀ a, v.ownBlock = some a → N a) : TmSl w v ts → TmSl w' v ts
  | ⟨p, cap, h1, h2, h3⟩ => ⟨p, cap, h1, h2, h3.imp id fun ⟨a, o, hp, hc⟩ => ⟨a, o, hp, Nat.lt_of_lt_of_le hc.lt h.s_, fun i hi =>
    have e := h.k_ a (hn a (by rw [h1, hp]; rfl)) hc.lt
    have c := hc.at_ i hi
    ⟨(cell_eq e _).trans c.c0, (cell_eq e _).trans c.c1, (cell_eq e _).trans c.c2, (cell_eq e _).trans c.c3⟩⟩⟩
/-- A literal's lists lie in blocks of a kind. -/
structure LtIn (N : Nat → Prop) {d : Nat} (x : Lt d) : Prop where
  s_ : ∀ a, x.sv.ownBlock = some a → N a
  l_ : ExIn N d x.l
  g_ : ExIn N d x.g
theorem LtIn.mono {N M : Nat → Prop} (h : ∀ a, N a → M a) {d : Nat} {x : Lt d} (k : LtIn N x) : LtIn M x := ⟨fun a ha => h a (k.s_ a ha), ExIn.mono h d _ k.l_, ExIn.mono h d _ k.g_⟩
theorem LtAt.keep {N : Nat → Prop} {w w' : World} (h : KpW N w w') {d : Nat} {x : Lt d} (k : LtIn N x) (hx : LtAt w x) : LtAt w' x := ⟨hx.at_.keep h k.s_, ExAt.keep h d _ k.l_ hx.l_, ExAt.keep h d _ k.g_ hx.g_⟩
/-- The blocks behind b that are there, but for a row's own. -/
def Free (b : Nat) (v : Value) (w : World) (a : Nat) : Prop := b < a ∧ a < w.heap.size ∧ v.ownBlock ≠ some a
theorem step_keeps {wr w1 w2 : World} {o : Obj} {b c : Nat} {v v' : Value} (h1 : Below wr.heap.size wr w1) (hg : (w1.alloc o).grownBy w2 v.ownBlock) : KpW (Free b v wr) wr (w2.setCell ⟨b, c, none⟩ v') := by
  have hs := h1.size
  have hs2 := hg.size
  have e : (w1.alloc o).heap.size = w1.heap.size + 1 := by simp
  refine ⟨by simp [World.setCell]; omega, fun a ⟨hb, hl, hn⟩ _ => ?_⟩
  rw [Below.heap_setCell _ _ _ _ (show a ≠ (⟨b, c, none⟩ : Addr).block from fun e => by have e' : a = b := e; omega), hg.block a (by omega) (fun e => hn e.symm), Below.heap_alloc _ _ _ (by omega), h1.block a hl]
theorem step_keeps_new {wr w1 w2 : World} {o : Obj} {b c : Nat} {v v' : Value} (hb : b < wr.heap.size) (hown : ∀ g, v.ownBlock = some g → g < wr.heap.size) (hg : (w1.alloc o).grownBy w2 v.ownBlock) : KpW (fun a => wr.heap.size ≤ a) w1 (w2.setCell ⟨b, c, none⟩ v') := by
  have hs2 := hg.size
  have e : (w1.alloc o).heap.size = w1.heap.size + 1 := by simp
  refine ⟨by simp [World.setCell]; omega, fun a hn hl => ?_⟩
  rw [Below.heap_setCell _ _ _ _ (show a ≠ (⟨b, c, none⟩ : Addr).block from fun e => by have e' : a = b := e; omega), hg.block a (by omega) (fun e => by have := hown a e.symm; omega), Below.heap_alloc _ _ _ hl]
theorem free_next {wr w1 w2 : World} {o : Obj} {b c g : Nat} {v v' x : Value} (h1 : Below wr.heap.size wr w1) (hg : (w1.alloc o).grownBy w2 v.ownBlock) (hv : v'.ownBlock = some g) (hat : v.ownBlock = some g ∨ g = w1.heap.size + 1) :
    ∀ a, Free b v wr a → Free b v' (w2.setCell ⟨b, c, none⟩ x) a := by
  have hs := h1.size
  have hs2 := hg.size
  have e : (w1.alloc o).heap.size = w1.heap.size + 1 := by simp
  intro a ⟨h2, h3, h4⟩
  refine ⟨h2, by simp [World.setCell]; omega, ?_⟩
  rw [hv]
  rcases hat with h5 | h5
  · rw [← h5]; exact h4
  · intro h6
    injection h6 with h6
    omega
theorem free_new {wr w1 w2 : World} {o : Obj} {b c g : Nat} {v v' x : Value} (hb : b < wr.heap.size) (hown : ∀ g, v.ownBlock = some g → g < wr.heap.size) (hg : (w1.alloc o).grownBy w2 v.ownBlock) (hv : v'.ownBlock = some g) (hat : v.ownBlock = some g ∨ g = w1.heap.size + 1) :
    ∀ a, wr.heap.size ≤ a ∧ a < w1.heap.size → Free b v' (w2.setCell ⟨b, c, none⟩ x) a := by
  have hs2 := hg.size
  have e : (w1.alloc o).heap.size = w1.heap.size + 1 := by simp
  intro a ⟨h2, h3⟩
  refine ⟨by omega, by simp [World.setCell]; omega, ?_⟩
  rw [hv]
  intro h6
  injection h6 with h6
  rcases hat with h5 | h5
  · have := hown g h5; omega
  · omega
/-! The rounds of ApplyExpr. -/
/-- What a call leaves that replaces the variables of an expression. -/
def AxPost (ρ : ByteArray → ByteArray) (d : Nat) (e : Ex d) (w : World) (r : Ending) (w' : World) : Prop :=
  ∃ (e' : Ex d) (p : Option Addr) (c : Nat), r = .returned (.agg #[.int .i8 (exOp d e), .string (rnB ρ (exTm d e).v), .int .i8 (exTm d e).x.k, .int .i64 (exTm d e).x.n, .string (exTm d e).x.t, .slice p (exLen d e) c]) ∧
    exCells d e' = [.int .i8 (exOp d e), .string (rnB ρ (exTm d e).v), .int .i8 (exTm d e).x.k, .int .i64 (exTm d e).x.n, .string (exTm d e).x.t, .slice p (exLen d e) c] ∧
    ExAt w' d e' ∧ ExIn (fun a => w.heap.size ≤ a ∧ a < w'.heap.size) d e' ∧ nfEx d e' = nfEx d (rnEx ρ d e) ∧ Below w.heap.size w w'
/-- Where the row of an answer grows whose header lies in block b. -/
structure AxR (ρ : ByteArray → ByteArray) (d : Nat) (op : Int) (t : Tm) (ks : List (Ex d)) (V : World) (b j : Nat) (v : Value) (wr : World) : Prop where
  lt : V.heap.size ≤ b
  b_ : wr.heap[b]? = some (.cells #[.int .i8 op, .string t.v, .int .i8 t.x.k, .int .i64 t.x.n, .string t.x.t, v] 112 (0, 0))
  u_ : Below V.heap.size V wr
  ex : ∃ L : List (Ex d), L.length = j ∧ wr.ownsRow (b + 1) 112 6 v j (L.flatMap (exCells d)) ∧ L.map (nfEx d) = (ks.take j).map (fun k => nfEx d (rnEx ρ d k)) ∧ (∀ k ∈ L, ExAt wr d k) ∧ ∀ k ∈ L, ExIn (Free b v wr) d k
theorem AxR.start {ρ : ByteArray → ByteArray} {d : Nat} {op : Int} {t : Tm} (ks : List (Ex d)) {V wx : World} {b : Nat} (lt : V.heap.size ≤ b) (hb : Below V.heap.size V wx)
    (h : wx.heap[b]? = some (.cells #[.int .i8 op, .string t.v, .int .i8 t.x.k, .int .i64 t.x.n, .string t.x.t, .slice none 0 0] 112 (0, 0))) : AxR ρ d op t ks V b 0 (.slice none 0 0) wx :=
  ⟨lt, h, hb, [], rfl, ownR_nil _ _ _ _, rfl, fun k hk => by simp at hk, fun k hk => by simp at hk⟩
theorem AxR.next {ρ : ByteArray → ByteArray} {d : Nat} {op : Int} {t : Tm} {ks : List (Ex d)} {V wr w1 w2 : World} {b j : Nat} {v : Value} {xs : List Value} (h : AxR ρ d op t ks V b j v wr) (hj : j < ks.length) (hr : wr.ownsRow (b + 1) 112 6 v j xs)
    {e' : Ex d} (h1 : Below wr.heap.size wr w1) (he : ExAt w1 d e') (hi : ExIn (fun a => wr.heap.size ≤ a ∧ a < w1.heap.size) d e') (hn : nfEx d e' = nfEx d (rnEx ρ d ks[j]))
    {o : Obj} {g cap : Nat} (hg : (w1.alloc o).grownBy w2 v.ownBlock) (hat : v.ownBlock = some g ∨ g = w1.heap.size + 1)
    (hown : w2.ownsRow (b + 1) 112 6 (.slice (some ⟨g, 0, none⟩) (j + 1) cap) (j + 1) (xs ++ exCells d e')) :
    AxR ρ d op t ks V b (j + 1) (.slice (some ⟨g, 0, none⟩) (j + 1) cap) (w2.setCell ⟨b, 5, none⟩ (.slice (some ⟨g, 0, none⟩) (j + 1) cap)) := by
  obtain ⟨L, hl, hL, hm, ha, hf⟩ := h.ex
  have hxs : xs = L.flatMap (exCells d) := by
    rcases hr.2 with ⟨hv, h0⟩ | ⟨g', cap', cur, hv, _, hg', _, _, _, hx⟩
    · have e1 := hr.1
      have e2 := hL.1
      rw [h0] at e1 e2
      rw [List.eq_nil_of_length_eq_zero (by omega : xs.length = 0), List.eq_nil_of_length_eq_zero (by omega : (L.flatMap (exCells d)).length = 0)]
    · rcases hL.2 with ⟨hv2, _⟩ | ⟨g2, cap2, cur2, hv2, _, hg2, _, _, _, hx2⟩
      · rw [hv] at hv2; cases hv2
      · rw [hv] at hv2
        obtain rfl : g' = g2 := by simp at hv2; exact hv2.1
        rw [hg'] at hg2
        simp only [Option.some.injEq, Obj.cells.injEq] at hg2
        rw [← hx, ← hx2, hg2.1]
  rw [hxs] at hown
  have hbl : b < wr.heap.size := (Array.getElem?_eq_some_iff.1 h.b_).1
  have hlt : ∀ g, v.ownBlock = some g → g < wr.heap.size := fun g hg => (ownR_lt hL hg).2
  have hb2 : Below (b + 1) wr w2 := ap_below h1 (Nat.succ_le_of_lt hbl) (ownR_up hL h1) hg
  have e1 := (hb2.block b (Nat.lt_succ_self b)).trans h.b_
  have hk1 := step_keeps (b := b) (c := 5) (v' := .slice (some ⟨g, 0, none⟩) (j + 1) cap) h1 hg
  have hk2 := step_keeps_new (b := b) (c := 5) (v' := .slice (some ⟨g, 0, none⟩) (j + 1) cap) hbl hlt hg
  have hf1 := free_next (b := b) (c := 5) (v' := .slice (some ⟨g, 0, none⟩) (j + 1) cap) (x := .slice (some ⟨g, 0, none⟩) (j + 1) cap) h1 hg rfl hat
  have hf2 := free_new (b := b) (c := 5) (v' := .slice (some ⟨g, 0, none⟩) (j + 1) cap) (x := .slice (some ⟨g, 0, none⟩) (j + 1) cap) hbl hlt hg rfl hat
  refine ⟨h.lt, ?_, (h.u_.trans (hb2.mono (by have := h.lt; omega))).setCell (p := ⟨b, 5, none⟩) h.lt _, L ++ [e'], by simp [hl], ?_, ?_, ?_, ?_⟩
  · simp [World.setCell, Array.getElem?_modify, e1]
  · rw [List.flatMap_append, List.flatMap_cons, List.flatMap_nil, List.append_nil]
    exact ownR_set hown (Nat.lt_succ_self b)
  · rw [List.map_append, hm, List.take_succ_eq_append_getElem hj, List.map_append, List.map_cons, List.map_nil, List.map_cons, List.map_nil, hn]
  · intro k hk
    rcases List.mem_append.1 hk with h5 | h5
    · exact ExAt.keep hk1 d k (hf k h5) (ha k h5)
    · rw [List.mem_singleton.1 h5]
      exact ExAt.keep hk2 d e' (ExIn.mono (fun a h => h.1) d e' hi) he
  · intro k hk
    rcases List.mem_append.1 hk with h5 | h5
    · exact ExIn.mono hf1 d k (hf k h5)
    · rw [List.mem_singleton.1 h5]
      exact ExIn.mono hf2 d e' hi
/-- What the rounds have made, once they are over. -/
theorem AxR.done {ρ : ByteArray → ByteArray} {d : Nat} {op : Int} {t : Tm} {ks : List (Ex d)} {V wr : World} {b : Nat} {p : Option Addr} {c : Nat} (h : AxR ρ d op t ks V b ks.length (.slice p ks.length c) wr) (hk : ks.length ≤ 10000) (w' : World)
    (hw : KpW (fun a => b < a) wr w') : ∃ e' : Ex (d + 1), exCells (d + 1) e' = [.int .i8 op, .string t.v, .int .i8 t.x.k, .int .i64 t.x.n, .string t.x.t, .slice p ks.length c] ∧
      ExAt w' (d + 1) e' ∧ ExIn (fun a => b < a ∧ a < w'.heap.size) (d + 1) e' ∧ nfEx (d + 1) e' = (op, t, .slice none 0 0, ks.map fun k => nfEx d (rnEx ρ d k)) := by
  obtain ⟨L, hl, hL, hm, ha, hf⟩ := h.ex
  rw [List.take_of_length_le (Nat.le_refl _)] at hm
  rw [← hl] at hL ⊢
  have hi : ExIn (fun a => b < a ∧ a < w'.heap.size) (d + 1) (op, t, .slice p L.length c, L) := by
    refine ⟨fun a h1 => ?_, fun k h1 => ExIn.mono (fun a h => ⟨h.1, Nat.lt_of_lt_of_le h.2.1 hw.s_⟩) d k (hf k h1)⟩
    have := ownR_lt hL h1
    have := hw.s_
    exact ⟨by omega, by omega⟩
  refine ⟨(op, t, .slice p L.length c, L), rfl, ?_, hi, ?_⟩
  · obtain ⟨p', cap', hv, hk1, hk2⟩ := own_ksl (World.ownsRowF_of hL) ha
    have hat : ExAt wr (d + 1) (op, t, .slice p L.length c, L) := ⟨p', cap', hv, by show L.length ≤ maxLen; unfold maxLen; omega, hk1, hk2⟩
    exact ExAt.keep hw (d + 1) _ (ExIn.mono (fun a h => h.1) _ _ hi) hat
  · show (op, t, Value.slice none 0 0, L.map (nfEx d)) = _
    rw [hm]
end Go.Proofs.YtafjjececdhmjaaGreat

namespace Go.Proofs.YtafjjececdhmjaaGreat
open Go.RowKit

/-- The contract, at a depth. -/
def AxAt (l : List (ByteArray × ByteArray)) (p : Option Addr) (c : Nat) (d : Nat) : Prop := ∀ (e : Ex d) (w : World), PrsAt w p l → ExAt w d e → PutE d e →
  Calls Tryz.prog 98 #[.slice p l.length c, .agg #[.int .i8 (exOp d e), .string (exTm d e).v, .int .i8 (exTm d e).x.k, .int .i64 (exTm d e).x.n, .string (exTm d e).x.t, exSl d e]] w (AxPost (rhoP l) d e w)
set_option maxRecDepth 100000 in
set_option maxHeartbeats 8000000 in
theorem ax_step (l : List (ByteArray × ByteArray)) (p : Option Addr) (c : Nat) (hn : l.length ≤ 10000) (d : Nat) (ih : AxAt l p c d) : AxAt l p c (d + 1) := by
  rintro ⟨op, ⟨v, ⟨k, n, t⟩⟩, s, ks⟩ w hl ⟨q, cap, hs, hm, hc, hka⟩ ⟨hz, h2, hpk⟩
  change s = .slice q ks.length cap at hs
  change ks.length = 0 ∨ ∃ a o, q = some ⟨a, o, none⟩ ∧ a < w.heap.size ∧ ∀ i, (h : i < ks.length) → ExCell w a (o + i * 6) (exOp d ks[i]) (exTm d ks[i]) (exSl d ks[i]) at hc
  change ∀ k ∈ ks, ExAt w d k at hka
  change PutT ⟨v, ⟨k, n, t⟩⟩ at hz
  change ks.length ≤ 2 at h2
  change ∀ k ∈ ks, PutE d k at hpk
  subst hs
  obtain ⟨R, hR⟩ : ∃ R : Ending → World → Prop, R = AxPost (rhoP l) (d + 1) (op, ⟨v, ⟨k, n, t⟩⟩, .slice q ks.length cap, ks) w := ⟨_, rfl⟩
  obtain ⟨nv, hnv⟩ : ∃ nv, nv = rnB (rhoP l) v := ⟨_, rfl⟩
  have HEND := Lib.hid (show ∀ (e' : Ex (d + 1)) (p' : Option Addr) (c' : Nat) (w' : World), exCells (d + 1) e' = [.int .i8 op, .string nv, .int .i8 k, .int .i64 n, .string t, .slice p' ks.length c'] → ExAt w' (d + 1) e' → ExIn (fun a => w.heap.size ≤ a ∧ a < w'.heap.size) (d + 1) e' →
      nfEx (d + 1) e' = (op, ⟨nv, ⟨k, n, t⟩⟩, .slice none 0 0, ks.map fun k => nfEx d (rnEx (rhoP l) d k)) → Below w.heap.size w w' → R (.returned (.agg #[.int .i8 op, .string nv, .int .i8 k, .int .i64 n, .string t, .slice p' ks.length c'])) w' by
    intro e' p' c' w' h1 h2 h3 h4 h5
    rw [hR]
    rw [hnv] at h1 h4 ⊢
    refine ⟨e', p', c', rfl, h1, h2, h3, h4.trans ?_, h5⟩
    show _ = (op, rnTm (rhoP l) ⟨v, ⟨k, n, t⟩⟩, Value.slice none 0 0, (ks.map (rnEx (rhoP l) d)).map (nfEx d))
    rw [List.map_map]
    rfl)
  show Calls _ _ #[.slice p l.length c, .agg #[.int .i8 op, .string v, .int .i8 k, .int .i64 n, .string t, .slice q ks.length cap]] w (AxPost (rhoP l) (d + 1) (op, ⟨v, ⟨k, n, t⟩⟩, .slice q ks.length cap, ks) w)
  rw [← hR]
  clear hR
  obtain ⟨i0, hi, hzz⟩ := Option.map_eq_some_iff.1 infoEx
  simp only [Prod.mk.injEq] at hzz
  obtain ⟨hz0, hz1, hz2⟩ := hzz
  have HI := Lib.hid hi; clear hi
  have HZ0 := Lib.hid hz0; clear hz0
  have HZ1 := Lib.hid hz1; clear hz1
  have HZ2 := Lib.hid hz2; clear hz2
  have HC := Lib.hid hc; clear hc
  have HKA := Lib.hid hka; clear hka
  have HPK := Lib.hid hpk; clear hpk
  have HL := Lib.hid hl; clear hl
  obtain ⟨V, hV⟩ : ∃ V, V = (w.alloc (.cells #[.int .i8 op, .string v, .int .i8 k, .int .i64 n, .string t, .slice q ks.length cap] 112)).alloc (.cells #[.int .i8 0, .string ⟨#[]⟩, .int .i8 0, .int .i64 0, .string ⟨#[]⟩, .slice none 0 0] 112) := ⟨_, rfl⟩
  have HBV := Lib.hid (show Below w.heap.size w V by rw [hV]; exact (below_alloc _ _).trans ((below_alloc _ _).mono (by simp)))
  have HSV := Lib.hid (show V.heap.size = w.heap.size + 1 + 1 by rw [hV]; simp)
  have HB1 := Lib.hid (show V.heap[w.heap.size]? = some (.cells #[.int .i8 op, .string v, .int .i8 k, .int .i64 n, .string t, .slice q ks.length cap] 112 (0, 0)) by
    have h1 := heap_alloc_new w (.cells #[.int .i8 op, .string v, .int .i8 k, .int .i64 n, .string t, .slice q ks.length cap] 112)
    rw [hV]
    exact ((below_alloc (w.alloc _) _).block _ (by simp)).trans h1)
  have HB2 := Lib.hid (show V.heap[w.heap.size + 1]? = some (.cells #[.int .i8 0, .string ⟨#[]⟩, .int .i8 0, .int .i64 0, .string ⟨#[]⟩, .slice none 0 0] 112 (0, 0)) by rw [hV]; simpa using heap_alloc_new (w.alloc _) _)
  have HPUT := Lib.hid (show ∀ V' : World, Below V.heap.size V V' → Calls Tryz.prog 57 #[.slice p l.length c, .agg #[.string v, .int .i8 k, .int .i64 n, .string t]] V' fun e w' => e = .returned (.agg #[.string nv, .int .i8 k, .int .i64 n, .string t]) ∧ Below V'.heap.size V' w' by
    intro V' h
    rw [hnv]
    exact rPut l p c ⟨v, ⟨k, n, t⟩⟩ V' (HL.out.up (HBV.out.trans (h.mono HBV.out.size))) hz hn)
  clear hz hnv
  have hbk : w.heap.size < V.heap.size := by rw [HSV.out]; omega
  go_enter Tryz.func98, Tryz.ntmps98
  go_upto_region 1 with (fail)
  rw [← hV]
  clear hV
  go_cut [5] from 7 to 13 (fun t5 wx => ∃ b, t5 = .pointer (some ⟨b, 0, none⟩) ∧ AxR (rhoP l) d op ⟨nv, ⟨k, n, t⟩⟩ ks V b 0 (.slice none 0 0) wx)
  case first =>
    have HK := Lib.hid (show ∀ w', Below V.heap.size V w' → w'.cell? ⟨w.heap.size, 0, none⟩ = some (.int .i8 op) ∧ w'.cell? ⟨w.heap.size, 1, none⟩ = some (.string v) ∧ w'.cell? ⟨w.heap.size, 2, none⟩ = some (.int .i8 k) ∧ w'.cell? ⟨w.heap.size, 3, none⟩ = some (.int .i64 n) ∧ w'.cell? ⟨w.heap.size, 4, none⟩ = some (.string t) from fun w' h => by
      obtain ⟨x0, x1, x2, x3, x4, _⟩ := six ((h.block w.heap.size hbk).trans HB1.out)
      exact ⟨x0, x1, x2, x3, x4⟩)
    have Hb := Lib.hid ((Below.refl V.heap.size V).drew)
    go_region_held3 (fun w' => w'.cell? ⟨w.heap.size, 0, none⟩ = some (.int .i8 op) ∧ w'.cell? ⟨w.heap.size, 1, none⟩ = some (.string v) ∧ w'.cell? ⟨w.heap.size, 2, none⟩ = some (.int .i8 k) ∧ w'.cell? ⟨w.heap.size, 3, none⟩ = some (.int .i64 n) ∧ w'.cell? ⟨w.heap.size, 4, none⟩ = some (.string t))
      (first
        | (refine HK.out _ ?_
           repeat (with_reducible first | exact Hb.out | exact Below.refl _ _ | refine Below.drew ?_ | refine Below.setCell ?_ ?_ _ | refine Below.alloc ?_ ?_ _)
           all_goals (first | (with_reducible exact Nat.le_refl _) | (with_reducible exact Hb.out.size) | (have := Hb.out.size; simp; omega))))
      (first
        | (go_at_call 57
           refine (HPUT.out _ ?_).mono ?_
           · with_reducible first
               | exact Hb.out
               | exact (below_alloc V _).drew
           rintro r w1 ⟨rfl, hb1⟩
           first
             | (have hz6 : w1.heap[V.heap.size]? = some (.cells #[.int .i8 0, .string ⟨#[]⟩, .int .i8 0, .int .i64 0, .string ⟨#[]⟩, .slice none 0 0] 112 (0, 0)) := (hb1.block _ (by show V.heap.size < (V.alloc _).heap.size; simp)).trans (heap_alloc_new V _)
                have HZ6 := Lib.hid hz6
                obtain ⟨z0, z1, z2, z3, z4, z5⟩ := six hz6
                have g0 : w1.frozen? ⟨V.heap.size, 0, none⟩ = false := Lib.frozen_of_heap hz6 0
                have g1 : w1.frozen? ⟨V.heap.size, 1, none⟩ = false := Lib.frozen_of_heap hz6 1
                have g2 : w1.frozen? ⟨V.heap.size, 2, none⟩ = false := Lib.frozen_of_heap hz6 2
                have g3 : w1.frozen? ⟨V.heap.size, 3, none⟩ = false := Lib.frozen_of_heap hz6 3
                have g4 : w1.frozen? ⟨V.heap.size, 4, none⟩ = false := Lib.frozen_of_heap hz6 4
                have g5 : w1.frozen? ⟨V.heap.size, 5, none⟩ = false := Lib.frozen_of_heap hz6 5
                have Hb := Lib.hid (show Below V.heap.size V w1 from (below_alloc V _).drew.trans (hb1.mono (by show V.heap.size ≤ (V.alloc _).heap.size; simp)))
                clear hz6 hb1)
             | (have Hb := Lib.hid (show Below V.heap.size V w1 from ⟨hb1.os, hb1.tape, hb1.output, hb1.size, hb1.block⟩)
                clear hb1)))
    all_goals
      go_wp2_with fail
      go_meet
      first
        | (have HZ6' := HZ6
           refine ⟨_, rfl, ?_⟩
           change AxR _ _ _ _ _ _ _ _ _ (put6 w1 V.heap.size 0 (.int .i8 op) (.string nv) (.int .i8 k) (.int .i64 n) (.string t) (.slice none 0 0))
           exact AxR.start ks (Nat.le_refl _) (put6_below Hb.out (Nat.le_refl _) 0 _ _ _ _ _ _) (put6_heap HZ6.out 0 (.int .i8 op) (.string nv) (.int .i8 k) (.int .i64 n) (.string t) (.slice none 0 0)))
        | exact ⟨_, rfl, AxR.start ks Hb.out.size (Hb.out.alloc Hb.out.size _) (heap_alloc_new w1 _)⟩
  case rest =>
    obtain ⟨b, rfl, hr0⟩ := hcut
    have HR0 := Lib.hid hr0; clear hr0
    clear HPUT
    go_wp2_with fail
    go_loopw [6] (fun i wr => ∃ (j : Nat) (v : Value), j ≤ ks.length ∧ i = .int .i64 j ∧ AxR (rhoP l) d op ⟨nv, ⟨k, n, t⟩⟩ ks V b j v wr) (fun i _ => ks.length - (intOf i).toNat)
    case atStart => exact ⟨0, _, by omega, rfl, HR0.out⟩
    case round =>
      clear HR0
      obtain ⟨j, v', hj, rfl, hr⟩ := hrel
      have HR := Lib.hid hr; clear hr
      rename World => wr
      have hsz := HR.out.u_.size
      have hvb := HR.out.lt
      obtain ⟨L, _, hL, _⟩ := HR.out.ex
      obtain ⟨xs, hxs⟩ : ∃ xs, xs = L.flatMap (exCells d) := ⟨_, rfl⟩
      rw [← hxs] at hL
      clear hxs
      obtain ⟨pv, cv, rfl⟩ := ownR_slice hL
      have HROW := Lib.hid hL; clear hL
      obtain ⟨x0, x1, x2, x3, x4, x5⟩ := six ((HR.out.u_.block w.heap.size hbk).trans HB1.out)
      obtain ⟨y0, y1, y2, y3, y4, y5⟩ := six HR.out.b_
      have f5 : wr.frozen? ⟨b, 5, none⟩ = false := Lib.frozen_of_heap HR.out.b_ 5
      by_cases hlt : j < ks.length
      · rcases HC.out with hx | ⟨a, o, rfl, hta, hcc⟩
        · omega
        · have Hwr := Lib.hid (HBV.out.trans (HR.out.u_.mono HBV.out.size))
          have hck := (hcc j hlt).up Hwr.out hta
          clear hcc
          obtain ⟨pk, ck, hsk⟩ := ex_sl2 (HKA.out _ (List.getElem_mem hlt))
          have HREC := Lib.hid (fun V' (hV' : Below wr.heap.size wr V') => ih ks[j] V' (HL.out.up (Hwr.out.trans (hV'.mono Hwr.out.size))) (ExAt.up (Hwr.out.trans (hV'.mono Hwr.out.size)) d _ (HKA.out _ (List.getElem_mem hlt))) (HPK.out _ (List.getElem_mem hlt)))
          have HNX := Lib.hid (fun (w1 w2 : World) (e' : Ex d) (o' : Obj) (g cap' : Nat) h1 he hi hn hg hat hown => HR.out.next (w1 := w1) (w2 := w2) (e' := e') (o := o') (g := g) (cap := cap') hlt HROW.out h1 he hi hn hg hat hown)
          obtain ⟨y, hy⟩ : ∃ y, y = ks[j] := ⟨_, rfl⟩
          rw [← hy] at hck hsk HREC HNX
          clear hy
          unfold AxPost at HREC
          rw [hsk] at hck
          simp only [hsk] at HREC
          clear hsk
          obtain ⟨N, hN⟩ : ∃ N, N = nfEx d (rnEx (rhoP l) d y) := ⟨_, rfl⟩
          rw [← hN] at HREC HNX
          clear hN
          generalize exTm d y = ym at hck HREC
          generalize exOp d y = yo at hck HREC
          generalize exLen d y = yl at hck HREC
          obtain ⟨yv, ⟨yk, yn, yt⟩⟩ := ym
          obtain ⟨uv, hu⟩ : ∃ u, u = rnB (rhoP l) yv := ⟨_, rfl⟩
          simp only [← hu] at HREC
          clear hu
          obtain ⟨k0, k1, k2, k3, k4, k5⟩ := hck
          simp only at k0 k1 k2 k3 k4 k5
          have hk0 : (0 : Int) ≤ (j : Int) := by omega
          have hki : (j : Int) < (ks.length : Int) := by omega
          have hb5 : b < wr.heap.size := (Array.getElem?_eq_some_iff.1 HR.out.b_).1
          have hb3 : w.heap.size < wr.heap.size := by omega
          have hba : a < wr.heap.size := by have := Hwr.out.size; omega
          go_wp2_with fail
          have y5a := y5
          have f5a := f5
          go_region_law
            (first
              | (go_simp
                 go_at_call 98
                 refine (HREC.out _ ?_).mono ?_
                 · exact ⟨rfl, rfl, rfl, Nat.le_refl _, fun _ _ => rfl⟩
                 rintro r w1 ⟨e', pe, ce, rfl, hcs, hae, hie, hne, hb1⟩
                 have Hb := Lib.hid (show Below wr.heap.size wr w1 from ⟨hb1.os, hb1.tape, hb1.output, hb1.size, hb1.block⟩)
                 have HIE := Lib.hid (show ExIn (fun a => wr.heap.size ≤ a ∧ a < w1.heap.size) d e' from hie)
                 have HAE := Lib.hid hae
                 have HNE := Lib.hid hne
                 have HCS := Lib.hid hcs
                 clear hb1 hie hae hne hcs
                 have HO := Lib.hid (ownR_up HROW.out Hb.out)
                 have HS1 := Lib.hid Hb.out.size
                 have x5 := (Hb.out.cell (p := ⟨w.heap.size, 5, none⟩) hb3).trans x5
                 have y5 := (Hb.out.cell (p := ⟨b, 5, none⟩) hb5).trans y5
                 have f5 := (Hb.out.frozen (p := ⟨b, 5, none⟩) hb5).trans f5
                 have nn : ∀ (cs : Array Value) (t : TypeId) (f : Nat × Nat), (w1.alloc (.cells cs t f)).cell? ⟨b, 5, none⟩ = some (.slice pv j cv) := fun cs t f => ((below_alloc w1 (.cells cs t f)).cell (p := ⟨b, 5, none⟩) (Nat.lt_of_lt_of_le hb5 HS1.out)).trans y5
                 dsimp only)
              | (refine step_append_lies _ (by rfl) _ _ _ (by rfl) (b + 1) 112 i0 _ 6 80 Tryz.underlying110 HI.out HZ0.out HZ1.out HZ2.out rfl (by decide) (.slice pv j cv) j _ (by rfl) (ownR_alloc HO.out _) ⟨w1.heap.size, 0, none⟩ 1 1 [.int .i8 yo, .string uv, .int .i8 yk, .int .i64 yn, .string yt, .slice pe yl ce] (by rfl) (by rfl) (World.news_of_block (cs := #[.int .i8 yo, .string uv, .int .i8 yk, .int .i64 yn, .string yt, .slice pe yl ce]) (t := 112) (fr := (0, 0)) (heap_alloc_new w1 _)) (by simp [Value.oneCell']) (by omega) (by unfold maxLen; omega) (by omega) (by have := HS1.out; simp; omega) (w1.heap.size + 1) (by simp) ?_
                 intro g cap' w2 hown2 hgrow hat hlt2
                 have HF := Lib.hid (HNX.out w1 w2 e' _ g cap' Hb.out HAE.out HIE.out HNE.out hgrow hat (by rw [HCS.out]; exact hown2))
                 have Hb2 := Lib.hid (show Below (b + 1) wr w2 from ap_below Hb.out (Nat.succ_le_of_lt hb5) HO.out hgrow)
                 have y5 := (Hb2.out.cell (p := ⟨b, 5, none⟩) (Nat.lt_succ_self _)).trans y5a
                 have f5 := (Hb2.out.frozen (p := ⟨b, 5, none⟩) (Nat.lt_succ_self _)).trans f5a
                 clear hat hgrow))
          all_goals
            clear x0 x1 x2 x3 x4 x5 y0 y1 y2 y3 y4 y5 f5 y5a f5a k0 k1 k2 k3 k4 k5 nn hown2
            go_wp2_with fail
            go_roundw
            case rel => exact ⟨j + 1, _, by omega, by go_num, HF.out⟩
            case measure => simp [intOf]; omega
      · obtain rfl : j = ks.length := by omega
        have hbs : w.heap.size + 1 < V.heap.size := by rw [HSV.out]; omega
        have HC4 := Lib.hid ((HR.out.u_.block (w.heap.size + 1) hbs).trans HB2.out)
        have f0 : wr.frozen? ⟨w.heap.size + 1, 0, none⟩ = false := Lib.frozen_of_heap HC4.out 0
        have f1 : wr.frozen? ⟨w.heap.size + 1, 1, none⟩ = false := Lib.frozen_of_heap HC4.out 1
        have f2 : wr.frozen? ⟨w.heap.size + 1, 2, none⟩ = false := Lib.frozen_of_heap HC4.out 2
        have f3 : wr.frozen? ⟨w.heap.size + 1, 3, none⟩ = false := Lib.frozen_of_heap HC4.out 3
        have f4 : wr.frozen? ⟨w.heap.size + 1, 4, none⟩ = false := Lib.frozen_of_heap HC4.out 4
        have f6 : wr.frozen? ⟨w.heap.size + 1, 5, none⟩ = false := Lib.frozen_of_heap HC4.out 5
        obtain ⟨z0, z1, z2, z3, z4, z5⟩ := six HC4.out
        go_wp2_with fail
        change bodyPost _ _ _ _ _ (put6 wr (w.heap.size + 1) 0 (.int .i8 op) (.string nv) (.int .i8 k) (.int .i64 n) (.string t) (.slice pv ks.length cv))
        clear x0 x1 x2 x3 x4 x5 y0 y1 y2 y3 y4 y5 f0 f1 f2 f3 f4 f5 f6 z0 z1 z2 z3 z4 z5
        have HK := Lib.hid (show KpW (fun a => b < a) wr (put6 wr (w.heap.size + 1) 0 (.int .i8 op) (.string nv) (.int .i8 k) (.int .i64 n) (.string t) (.slice pv ks.length cv)) from
          ⟨Nat.le_of_eq (put6_size _ _ _ _ _ _ _ _ _).symm, fun a ha _ => put6_block _ (by omega) _ _ _ _ _ _ _⟩)
        have hb2 := put6_heap HC4.out 0 (.int .i8 op) (.string nv) (.int .i8 k) (.int .i64 n) (.string t) (.slice pv ks.length cv)
        have HBp := Lib.hid (put6_below (HBV.out.trans (HR.out.u_.mono HBV.out.size)) (Nat.le_succ _) 0 (.int .i8 op) (.string nv) (.int .i8 k) (.int .i64 n) (.string t) (.slice pv ks.length cv))
        obtain ⟨W2, hW2⟩ : ∃ W2, W2 = put6 wr (w.heap.size + 1) 0 (.int .i8 op) (.string nv) (.int .i8 k) (.int .i64 n) (.string t) (.slice pv ks.length cv) := ⟨_, rfl⟩
        rw [← hW2] at hb2 HBp HK ⊢
        clear hW2
        obtain ⟨e', h1, h2, h3, h4⟩ := HR.out.done (by omega) W2 HK.out
        have HE := Lib.hid (HEND.out e' pv cv W2 h1 h2 (ExIn.mono (fun a h => ⟨by have := HBV.out.size; omega, h.2⟩) _ _ h3) h4 HBp.out)
        clear h1 h2 h3 h4
        obtain ⟨z0, z1, z2, z3, z4, z5⟩ := six (show W2.heap[w.heap.size + 1]? = some (.cells #[.int .i8 op, .string nv, .int .i8 k, .int .i64 n, .string t, .slice pv ks.length cv] 112 (0, 0)) from hb2)
        refine bodyPost_ret (v := .agg #[.int .i8 op, .string nv, .int .i8 k, .int .i64 n, .string t, .slice pv ks.length cv]) (by simp [results, Tryz.results98, go_sem, z0, z1, z2, z3, z4, z5]) rfl ?_
        exact HE.out
/-- **The reference's ApplyExpr.** -/
theorem rApplyExpr (l : List (ByteArray × ByteArray)) (p : Option Addr) (c : Nat) (hn : l.length ≤ 10000) : ∀ d, AxAt l p c d
  | 0 => fun e => nomatch e
  | d + 1 => ax_step l p c hn d (rApplyExpr l p c hn d)
end Go.Proofs.YtafjjececdhmjaaGreat
