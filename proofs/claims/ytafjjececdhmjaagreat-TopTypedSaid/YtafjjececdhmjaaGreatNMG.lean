/- Copies of expressions; the count of their parts. Conditions: each part says its own. -/
import Derived.Test.YtafjjececdhmjaaGreatNME
import Derived.Deep.RegionHeld3
import Derived.Deep.OwnRows
/- The marks behind the copies: the contracts of word, markExpr, isExpr. Conditions: the tables lie as they are laid. -/
namespace Go.Proofs.YtafjjececdhmjaaGreat
open Go.RowKit

/-- Six cells of a block, written one by one. -/
def put6 (w : World) (a o : Nat) (v0 v1 v2 v3 v4 v5 : Value) : World :=
  (((((w.setCell ⟨a, o, none⟩ v0).setCell ⟨a, o + 1, none⟩ v1).setCell ⟨a, o + 2, none⟩ v2).setCell ⟨a, o + 3, none⟩ v3).setCell ⟨a, o + 4, none⟩ v4).setCell ⟨a, o + 5, none⟩ v5
def set6 (cs : Array Value) (o : Nat) (v0 v1 v2 v3 v4 v5 : Value) : Array Value :=
  (((((cs.setIfInBounds o v0).setIfInBounds (o + 1) v1).setIfInBounds (o + 2) v2).setIfInBounds (o + 3) v3).setIfInBounds (o + 4) v4).setIfInBounds (o + 5) v5
theorem set6_size (cs : Array Value) (o : Nat) (v0 v1 v2 v3 v4 v5 : Value) : (set6 cs o v0 v1 v2 v3 v4 v5).size = cs.size := by simp [set6]
theorem set6_far (cs : Array Value) (o : Nat) (v0 v1 v2 v3 v4 v5 : Value) (i : Nat) (h : i < o ∨ o + 5 < i) : (set6 cs o v0 v1 v2 v3 v4 v5)[i]? = cs[i]? := by
  unfold set6
  rw [Array.getElem?_setIfInBounds_ne (by omega), Array.getElem?_setIfInBounds_ne (by omega), Array.getElem?_setIfInBounds_ne (by omega), Array.getElem?_setIfInBounds_ne (by omega), Array.getElem?_setIfInBounds_ne (by omega), Array.getElem?_setIfInBounds_ne (by omega)]
theorem set6_at (cs : Array Value) (o : Nat) (v0 v1 v2 v3 v4 v5 : Value) (h : o + 5 < cs.size) :
    (set6 cs o v0 v1 v2 v3 v4 v5)[o]? = some v0 ∧ (set6 cs o v0 v1 v2 v3 v4 v5)[o + 1]? = some v1 ∧ (set6 cs o v0 v1 v2 v3 v4 v5)[o + 2]? = some v2 ∧ (set6 cs o v0 v1 v2 v3 v4 v5)[o + 3]? = some v3 ∧
      (set6 cs o v0 v1 v2 v3 v4 v5)[o + 4]? = some v4 ∧ (set6 cs o v0 v1 v2 v3 v4 v5)[o + 5]? = some v5 := by
  have h0 : o < cs.size := by omega
  have h1 : o + 1 < cs.size := by omega
  have h2 : o + 2 < cs.size := by omega
  have h3 : o + 3 < cs.size := by omega
  have h4 : o + 4 < cs.size := by omega
  unfold set6
  simp [h, h0, h1, h2, h3, h4]
theorem put6_heap {w : World} {a : Nat} {cs : Array Value} {t : TypeId} {fz : Nat × Nat} (h : w.heap[a]? = some (.cells cs t fz)) (o : Nat) (v0 v1 v2 v3 v4 v5 : Value) :
    (put6 w a o v0 v1 v2 v3 v4 v5).heap[a]? = some (.cells (set6 cs o v0 v1 v2 v3 v4 v5) t fz) := by
  simp [put6, set6, World.setCell, Array.getElem?_modify, h]
theorem put6_block (w : World) {a k : Nat} (h : k ≠ a) (o : Nat) (v0 v1 v2 v3 v4 v5 : Value) : (put6 w a o v0 v1 v2 v3 v4 v5).heap[k]? = w.heap[k]? := by
  unfold put6
  rw [Below.heap_setCell _ _ _ _ h, Below.heap_setCell _ _ _ _ h, Below.heap_setCell _ _ _ _ h, Below.heap_setCell _ _ _ _ h, Below.heap_setCell _ _ _ _ h, Below.heap_setCell _ _ _ _ h]
theorem put6_below {B : Nat} {w0 w : World} (h : Below B w0 w) {a : Nat} (ha : B ≤ a) (o : Nat) (v0 v1 v2 v3 v4 v5 : Value) : Below B w0 (put6 w a o v0 v1 v2 v3 v4 v5) :=
  (((((h.setCell (p := ⟨a, o, none⟩) ha v0).setCell (p := ⟨a, o + 1, none⟩) ha v1).setCell (p := ⟨a, o + 2, none⟩) ha v2).setCell (p := ⟨a, o + 3, none⟩) ha v3).setCell (p := ⟨a, o + 4, none⟩) ha v4).setCell (p := ⟨a, o + 5, none⟩) ha v5
theorem put6_size (w : World) (a o : Nat) (v0 v1 v2 v3 v4 v5 : Value) : (put6 w a o v0 v1 v2 v3 v4 v5).heap.size = w.heap.size := by simp [put6, World.setCell]
/-- The mark's text: #777777. -/
def markB : ByteArray := ⟨#[35, 55, 55, 55, 55, 55, 55]⟩
def markTm : Tm := ⟨markB, ⟨0, 0, ⟨#[]⟩⟩⟩
theorem mark_digits : Lib.itoa 777777 = [55, 55, 55, 55, 55, 55] := by kernel_rfl
end Go.Proofs.YtafjjececdhmjaaGreat

/- Copies of expressions: what they are, and the contracts of TwinExpr and TwinExprs. Conditions: the expression lies in memory as it is told, its lists are not too long. -/
namespace Go.Proofs.YtafjjececdhmjaaGreat
open Go.RowKit

/-- Two expressions alike but for where their kids' lists lie. -/
def Alike : (d : Nat) → Ex d → Ex d → Prop
  | 0, e, _ => nomatch e
  | d + 1, e, f => e.1 = f.1 ∧ e.2.1 = f.2.1 ∧ e.2.2.2.length = f.2.2.2.length ∧ ∀ i, (h : i < e.2.2.2.length) → (h' : i < f.2.2.2.length) → Alike d e.2.2.2[i] f.2.2.2[i]
theorem Alike.op : ∀ {d : Nat} {e f : Ex d}, Alike d e f → exOp d e = exOp d f
  | 0, e, _, _ => nomatch e
  | _ + 1, _, _, h => h.1
theorem Alike.tm : ∀ {d : Nat} {e f : Ex d}, Alike d e f → exTm d e = exTm d f
  | 0, e, _, _ => nomatch e
  | _ + 1, _, _, h => h.2.1
theorem alike_map {α β : Type} (g : α → β) {ks ts : List α} (hl : ks.length = ts.length) (h : ∀ i, (h : i < ks.length) → (h' : i < ts.length) → g ks[i] = g ts[i]) : ks.map g = ts.map g := by
  apply List.ext_getElem (by simp [hl])
  intro i h1 h2
  simp at h1 h2
  simp [h i h1 h2]
theorem all_map {α : Type} (p : α → Bool) (l : List α) : l.all p = (l.map p).all id := by simp [List.all_map]
theorem Alike.ok : ∀ {d n : Nat} {e f : Ex d}, Alike d e f → exOk n d e = exOk n d f
  | 0, _, e, _, _ => nomatch e
  | _ + 1, 0, _, _, _ => rfl
  | d + 1, n + 1, (op, tm, sl, ks), (op', tm', sl', ts), h => by
    obtain ⟨h1, h2, h3, h4⟩ := h
    have h1' : op = op' := h1
    have h2' : tm = tm' := h2
    have h3' : ks.length = ts.length := h3
    subst h1' h2'
    show (if op = 0 then ks.isEmpty && solidB tm else tmZero tm && decide ((ks.length : Int) = arityI op) && ks.all (exOk n d)) = (if op = 0 then ts.isEmpty && solidB tm else tmZero tm && decide ((ts.length : Int) = arityI op) && ts.all (exOk n d))
    have he : ks.isEmpty = ts.isEmpty := by
      cases ks <;> cases ts <;> simp_all
    have ha : ks.all (exOk n d) = ts.all (exOk n d) := by
      rw [all_map (exOk n d) ks, all_map (exOk n d) ts, alike_map (exOk n d) h3' (fun i h h' => (h4 i h h').ok)]
    rw [he, ha, h3']
theorem exprL_map {d : Nat} (op : Int) (tm : Tm) (sl sl' : Value) (ks ts : List (Ex d)) (h : ks.map (fun k => (exprL d k, exOp d k, exTm d k)) = ts.map (fun k => (exprL d k, exOp d k, exTm d k))) :
    exprL (d + 1) (op, tm, sl, ks) = exprL (d + 1) (op, tm, sl', ts) := by
  match ks, ts, h with
  | [], [], _ => rfl
  | [a], [b], h =>
    simp only [List.map_cons, List.map_nil, List.cons.injEq, Prod.mk.injEq, and_true] at h
    obtain ⟨h1, h2, h3⟩ := h
    simp only [exprL, h1, h2, h3]
  | [a, b], [a', b'], h =>
    simp only [List.map_cons, List.map_nil, List.cons.injEq, Prod.mk.injEq, and_true] at h
    obtain ⟨⟨h1, h2, h3⟩, h4, h5, h6⟩ := h
    simp only [exprL, h1, h2, h4, h5]
  | _ :: _ :: _ :: _, _ :: _ :: _ :: _, _ => rfl
  | [], _ :: _, h => simp at h
  | _ :: _, [], h => simp at h
  | [_], _ :: _ :: _, h => simp at h
  | _ :: _ :: _, [_], h => simp at h
  | [_, _], _ :: _ :: _ :: _, h => simp at h
  | _ :: _ :: _ :: _, [_, _], h => simp at h
theorem Alike.txt : ∀ {d : Nat} {e f : Ex d}, Alike d e f → exprL d e = exprL d f
  | 0, e, _, _ => nomatch e
  | d + 1, (op, tm, sl, ks), (op', tm', sl', ts), h => by
    obtain ⟨h1, h2, h3, h4⟩ := h
    have h1' : op = op' := h1
    have h2' : tm = tm' := h2
    have h3' : ks.length = ts.length := h3
    subst h1' h2'
    exact exprL_map op tm sl sl' ks ts (alike_map _ h3' (fun i h h' => by
      have := h4 i h h'
      show (_, _, _) = (_, _, _)
      rw [this.txt, this.op, this.tm]))
theorem Alike.r : ∀ {d : Nat} {e f : Ex d}, Alike d e f → ExR d e → ExR d f
  | 0, e, _, _, _ => nomatch e
  | d + 1, (op, tm, sl, ks), (op', tm', sl', ts), h, hr => by
    obtain ⟨h1, h2, h3, h4⟩ := h
    obtain ⟨r1, r2, r3⟩ := hr
    have h1' : op = op' := h1
    have h2' : tm = tm' := h2
    have h3' : ks.length = ts.length := h3
    subst h1' h2'
    refine ⟨r1, r2, fun t ht => ?_⟩
    obtain ⟨i, hi, rfl⟩ := List.mem_iff_getElem.1 ht
    have hi' : i < ts.length := hi
    exact (h4 i (by show i < ks.length; omega) hi).r (r3 _ (List.getElem_mem (show i < ks.length by omega)))
/-- An expression whose lists are not too long. -/
def ExB : (d : Nat) → Ex d → Prop
  | 0, _ => True
  | d + 1, e => e.2.2.2.length ≤ 2199023255552 ∧ ∀ k ∈ e.2.2.2, ExB d k
theorem ExCell.of_block {w w' : World} {a o : Nat} {op : Int} {t : Tm} {s : Value} (h : ExCell w a o op t s) (hb : w'.heap[a]? = w.heap[a]?) : ExCell w' a o op t s :=
  ⟨(World.cell?_of_block (w := w) hb).trans h.c0, (World.cell?_of_block (w := w) hb).trans h.c1, (World.cell?_of_block (w := w) hb).trans h.c2, (World.cell?_of_block (w := w) hb).trans h.c3, (World.cell?_of_block (w := w) hb).trans h.c4, (World.cell?_of_block (w := w) hb).trans h.c5⟩
/-- A copy: its lists lie in blocks from B on, each with a mark behind it. -/
def TwAt (w : World) (B : Nat) : (d : Nat) → Ex d → Prop
  | 0, _ => True
  | d + 1, e => ∃ a, e.2.2.1 = .slice (some ⟨a, 0, none⟩) e.2.2.2.length (e.2.2.2.length + 1) ∧ B ≤ a ∧ a < w.heap.size ∧
      (∀ i, (h : i < e.2.2.2.length) → ExCell w a (i * 6) (exOp d e.2.2.2[i]) (exTm d e.2.2.2[i]) (exSl d e.2.2.2[i])) ∧ ExCell w a (e.2.2.2.length * 6) 99 markTm (.slice none 0 0) ∧ ∀ k ∈ e.2.2.2, TwAt w B d k
theorem TwAt.up {w w' : World} {B B' : Nat} (hB : B' ≤ B) (hs : w.heap.size ≤ w'.heap.size) (hb : ∀ k, B ≤ k → k < w.heap.size → w'.heap[k]? = w.heap[k]?) : ∀ {d : Nat} {e : Ex d}, TwAt w B d e → TwAt w' B' d e
  | 0, _, _ => trivial
  | _ + 1, _, ⟨a, h1, h2, h3, h4, h5, h6⟩ => ⟨a, h1, Nat.le_trans hB h2, Nat.lt_of_lt_of_le h3 hs, fun i h => (h4 i h).of_block (hb a h2 h3), h5.of_block (hb a h2 h3), fun k hk => TwAt.up hB hs hb (h6 k hk)⟩
theorem TwAt.at {w : World} {B : Nat} : ∀ {d : Nat} {e : Ex d}, TwAt w B d e → ExB d e → ExAt w d e
  | 0, _, _, _ => trivial
  | d + 1, e, ⟨a, h1, h2, h3, h4, h5, h6⟩, ⟨b1, b2⟩ => ⟨some ⟨a, 0, none⟩, _, h1, Nat.le_trans b1 (by decide), .inr ⟨a, 0, rfl, h3, fun i h => by rw [Nat.zero_add]; exact h4 i h⟩, fun k hk => (h6 k hk).at (b2 k hk)⟩
theorem Alike.b : ∀ {d : Nat} {e f : Ex d}, Alike d e f → ExB d e → ExB d f
  | 0, e, _, _, _ => nomatch e
  | d + 1, (op, tm, sl, ks), (op', tm', sl', ts), h, hr => by
    obtain ⟨h1, h2, h3, h4⟩ := h
    obtain ⟨r1, r3⟩ := hr
    have h3' : ks.length = ts.length := h3
    have r1' : ks.length ≤ 2199023255552 := r1
    refine ⟨by show ts.length ≤ _; omega, fun t ht => ?_⟩
    obtain ⟨i, hi, rfl⟩ := List.mem_iff_getElem.1 ht
    have hi' : i < ts.length := hi
    exact (h4 i (by show i < ks.length; omega) hi).b (r3 _ (List.getElem_mem (show i < ks.length by omega)))
/-- What a call leaves that copies an expression. -/
def TwinPost (d : Nat) (e : Ex d) (w : World) (r : Ending) (w' : World) : Prop :=
  ∃ f : Ex d, r = .returned (.agg #[.int .i8 (exOp d f), .string (exTm d f).v, .int .i8 (exTm d f).x.k, .int .i64 (exTm d f).x.n, .string (exTm d f).x.t, exSl d f]) ∧ Alike d e f ∧ TwAt w' w.heap.size d f ∧ Below w.heap.size w w'
/-- What a call leaves that copies a list. -/
def TwinsPost (d : Nat) (ks : List (Ex d)) (w : World) (r : Ending) (w' : World) : Prop :=
  ∃ (a : Nat) (ts : List (Ex d)), r = .returned (.slice (some ⟨a, 0, none⟩) ks.length (ks.length + 1)) ∧ ts.length = ks.length ∧ (∀ i, (h : i < ks.length) → (h' : i < ts.length) → Alike d ks[i] ts[i]) ∧ w.heap.size ≤ a ∧ a < w'.heap.size ∧
    (∀ i, (h : i < ts.length) → ExCell w' a (i * 6) (exOp d ts[i]) (exTm d ts[i]) (exSl d ts[i])) ∧ ExCell w' a (ks.length * 6) 99 markTm (.slice none 0 0) ∧ (∀ t ∈ ts, TwAt w' w.heap.size d t) ∧ Below w.heap.size w w'
/-- A list of expressions, as its slice lies. -/
def KSl (w : World) (d : Nat) (p : Option Addr) (ks : List (Ex d)) : Prop :=
  (ks.length = 0 ∨ ∃ a o, p = some ⟨a, o, none⟩ ∧ a < w.heap.size ∧ ∀ i, (h : i < ks.length) → ExCell w a (o + i * 6) (exOp d ks[i]) (exTm d ks[i]) (exSl d ks[i])) ∧ ∀ k ∈ ks, ExAt w d k
theorem infoEx : (Tryz.prog.info? 112).map (fun i => (i.zero, i.size, i.bytes)) = some (some (.agg #[.int .i8 0, .string ⟨#[]⟩, .int .i8 0, .int .i64 0, .string ⟨#[]⟩, .slice none 0 0]), 6, 80) := by kernel_rfl
theorem make_ex (n : Nat) (hn : n ≤ 2199023255552) (w : World) : (Instr.makeSlice 110 (.int .i64 ((n : Int) + 1)) (.int .i64 ((n : Int) + 1))).run Tryz.prog w =
    .ok (.slice (some ⟨w.heap.size, 0, none⟩) (n + 1) (n + 1)) (w.alloc (.cells (madeCells #[.int .i8 0, .string ⟨#[]⟩, .int .i8 0, .int .i64 0, .string ⟨#[]⟩, .slice none 0 0] ((n + 1) * 6)) 112)) := by
  obtain ⟨i, hi, hzz⟩ := Option.map_eq_some_iff.1 infoEx
  simp only [Prod.mk.injEq] at hzz
  obtain ⟨hz, hs, hb⟩ := hzz
  have h := run_make (P := Tryz.prog) w 110 112 i _ Tryz.underlying110 hi hz .i64 .i64 ((n : Int) + 1) ((n : Int) + 1) (by omega) (Int.le_refl _) (by rw [hb]; omega) (by omega)
  rw [h, hs, show ((n : Int) + 1).toNat = n + 1 by omega]
  rfl
end Go.Proofs.YtafjjececdhmjaaGreat

/- The contracts of TwinExprs and TwinExpr. Conditions: the expression lies in memory as it is told, its lists are not too long. -/
namespace Go.Proofs.YtafjjececdhmjaaGreat
open Go.RowKit

/-- What holds at the head of the copying loop's rounds. -/
def TwRel (d : Nat) (ks : List (Ex d)) (w : World) (i : Value) (wr : World) : Prop :=
  ∃ (j : Nat) (ts : List (Ex d)) (cs : Array Value), i = .int .i64 j ∧ j ≤ ks.length ∧ ts.length = j ∧ (∀ m, (h : m < ks.length) → (h' : m < ts.length) → Alike d ks[m] ts[m]) ∧
    wr.heap[w.heap.size]? = some (.cells cs 112 (0, 0)) ∧ cs.size = (ks.length + 1) * 6 ∧ (∀ m, (h : m < ts.length) → ExCell wr w.heap.size (m * 6) (exOp d ts[m]) (exTm d ts[m]) (exSl d ts[m])) ∧
    (∀ t ∈ ts, TwAt wr (w.heap.size + 1) d t) ∧ Below w.heap.size w wr
theorem ExCell.of_cells {w : World} {a o : Nat} {op : Int} {m : Tm} {v : Value} {cs : Array Value} {t : TypeId} {fz : Nat × Nat} (h : w.heap[a]? = some (.cells cs t fz)) (c0 : cs[o]? = some (.int .i8 op)) (c1 : cs[o + 1]? = some (.string m.v)) (c2 : cs[o + 2]? = some (.int .i8 m.x.k))
    (c3 : cs[o + 3]? = some (.int .i64 m.x.n)) (c4 : cs[o + 4]? = some (.string m.x.t)) (c5 : cs[o + 5]? = some v) : ExCell w a o op m v :=
  ⟨by rw [Lib.cell_of_heap h]; exact c0, by rw [Lib.cell_of_heap h]; exact c1, by rw [Lib.cell_of_heap h]; exact c2, by rw [Lib.cell_of_heap h]; exact c3, by rw [Lib.cell_of_heap h]; exact c4, by rw [Lib.cell_of_heap h]; exact c5⟩
theorem put6_keeps {w : World} {a o o' : Nat} {op : Int} {m : Tm} {v : Value} {cs : Array Value} {t : TypeId} {fz : Nat × Nat} (h : w.heap[a]? = some (.cells cs t fz)) (hc : ExCell w a o' op m v) (ho : o' + 5 < o ∨ o + 5 < o') (v0 v1 v2 v3 v4 v5 : Value) :
    ExCell (put6 w a o v0 v1 v2 v3 v4 v5) a o' op m v := by
  obtain ⟨c0, c1, c2, c3, c4, c5⟩ := hc
  rw [Lib.cell_of_heap h] at c0 c1 c2 c3 c4 c5
  refine ExCell.of_cells (put6_heap h o v0 v1 v2 v3 v4 v5) ?_ ?_ ?_ ?_ ?_ ?_
  all_goals rw [set6_far _ _ _ _ _ _ _ _ _ (by omega)]
  all_goals assumption
theorem put6_new {w : World} {a o : Nat} {cs : Array Value} {t : TypeId} {fz : Nat × Nat} (h : w.heap[a]? = some (.cells cs t fz)) (ho : o + 5 < cs.size) (op : Int) (m : Tm) (v : Value) :
    ExCell (put6 w a o (.int .i8 op) (.string m.v) (.int .i8 m.x.k) (.int .i64 m.x.n) (.string m.x.t) v) a o op m v := by
  obtain ⟨h0, h1, h2, h3, h4, h5⟩ := set6_at cs o (.int .i8 op) (.string m.v) (.int .i8 m.x.k) (.int .i64 m.x.n) (.string m.x.t) v ho
  exact ExCell.of_cells (put6_heap h _ _ _ _ _ _ _) h0 h1 h2 h3 h4 h5
theorem tw_next {d : Nat} {ks ts : List (Ex d)} {cs : Array Value} {w wr w1 : World} {j : Nat} {f : Ex d} (hlt : j < ks.length) (hl : ts.length = j) (hal : ∀ m, (h : m < ks.length) → (h' : m < ts.length) → Alike d ks[m] ts[m])
    (hbk : wr.heap[w.heap.size]? = some (.cells cs 112 (0, 0))) (hcs : cs.size = (ks.length + 1) * 6) (hcell : ∀ m, (h : m < ts.length) → ExCell wr w.heap.size (m * 6) (exOp d ts[m]) (exTm d ts[m]) (exSl d ts[m]))
    (htw : ∀ t ∈ ts, TwAt wr (w.heap.size + 1) d t) (hbe : Below w.heap.size w wr) (hal1 : Alike d ks[j] f) (htw1 : TwAt w1 wr.heap.size d f) (hb1 : Below wr.heap.size wr w1) :
    TwRel d ks w (.int .i64 ((j : Int) + 1)) (put6 w1 w.heap.size (j * 6) (.int .i8 (exOp d f)) (.string (exTm d f).v) (.int .i8 (exTm d f).x.k) (.int .i64 (exTm d f).x.n) (.string (exTm d f).x.t) (exSl d f)) := by
  have hszr : w.heap.size < wr.heap.size := (Array.getElem?_eq_some_iff.1 hbk).1
  have hbk1 := (hb1.block w.heap.size hszr).trans hbk
  have hblk : ∀ k, w.heap.size + 1 ≤ k → k < w1.heap.size → (put6 w1 w.heap.size (j * 6) (.int .i8 (exOp d f)) (.string (exTm d f).v) (.int .i8 (exTm d f).x.k) (.int .i64 (exTm d f).x.n) (.string (exTm d f).x.t) (exSl d f)).heap[k]? = w1.heap[k]? :=
    fun k hk _ => put6_block w1 (by omega) _ _ _ _ _ _ _
  refine ⟨j + 1, ts ++ [f], _, rfl, by omega, by simp [hl], ?_, put6_heap hbk1 _ _ _ _ _ _ _, by rw [set6_size]; exact hcs, ?_, ?_, put6_below (hbe.trans (hb1.mono (by omega))) (Nat.le_refl _) _ _ _ _ _ _ _⟩
  · intro m h h'
    by_cases hm : m < j
    · rw [List.getElem_append_left (by omega)]
      exact hal m h (by omega)
    · obtain rfl : m = j := by simp [hl] at h'; omega
      rw [List.getElem_append_right (by omega)]
      simpa [hl] using hal1
  · intro m h
    by_cases hm : m < j
    · rw [List.getElem_append_left (by omega)]
      exact put6_keeps hbk1 ((hcell m (by omega)).of_block (hb1.block _ hszr)) (by omega) _ _ _ _ _ _
    · obtain rfl : m = j := by simp [hl] at h; omega
      have e1 : (ts ++ [f])[m] = f := by
        rw [List.getElem_append_right (by omega)]
        simp [hl]
      rw [e1]
      exact put6_new hbk1 (by omega) _ _ _
  · intro t ht
    rcases List.mem_append.1 ht with ht | ht
    · have h1 : TwAt w1 (w.heap.size + 1) d t := (htw t ht).up (Nat.le_refl _) hb1.size (fun k hk hk' => hb1.block k hk')
      exact h1.up (Nat.le_refl _) (by rw [put6_size]; omega) hblk
    · obtain rfl := List.mem_singleton.1 ht
      exact htw1.up (by omega) (by rw [put6_size]; omega) (fun k hk hk' => hblk k (by omega) hk')
end Go.Proofs.YtafjjececdhmjaaGreat

/- The contract of TwinExpr. Conditions: the expression lies in memory as it is told, its lists are not too long. -/
namespace Go.Proofs.YtafjjececdhmjaaGreat
open Go.RowKit

end Go.Proofs.YtafjjececdhmjaaGreat

/- The contracts of LeftExprs and LeftExpr at a copy that is still as it was made. Conditions: both lie in memory as they are told. -/
namespace Go.Proofs.YtafjjececdhmjaaGreat
open Go.RowKit

theorem TwAt.low {w w' : World} {B : Nat} {d : Nat} {e : Ex d} (h : TwAt w B d e) (hb : Below w.heap.size w w') : TwAt w' B d e := h.up (Nat.le_refl _) hb.size (fun k _ hk => hb.block k hk)
end Go.Proofs.YtafjjececdhmjaaGreat

/- The contract of LeftExpr at a copy that is still as it was made. Conditions: both lie in memory as they are told. -/
namespace Go.Proofs.YtafjjececdhmjaaGreat
open Go.RowKit

end Go.Proofs.YtafjjececdhmjaaGreat

/- The contract of ExprParts. Conditions: the expression lies in memory as it is told; the number that it counts up to is at most 2^20. -/
namespace Go.Proofs.YtafjjececdhmjaaGreat
open Go.RowKit

/-- An expression's six cells. -/
def exCells (d : Nat) (e : Ex d) : List Value := [.int .i8 (exOp d e), .string (exTm d e).v, .int .i8 (exTm d e).x.k, .int .i64 (exTm d e).x.n, .string (exTm d e).x.t, exSl d e]
theorem exCells_len (d : Nat) (l : List (Ex d)) : (l.flatMap (exCells d)).length = l.length * 6 := by
  induction l with
  | nil => rfl
  | cons x r ih => simp [List.flatMap_cons, exCells, ih]; omega
theorem exCells_at (d : Nat) : ∀ (l : List (Ex d)) (i : Nat) (h : i < l.length) (q : Nat), q < 6 → (l.flatMap (exCells d))[i * 6 + q]? = (exCells d l[i])[q]?
  | x :: r, 0, h, q, hq => by
    rw [List.flatMap_cons, List.getElem?_append_left (by simp [exCells]; omega)]
    simp
  | x :: r, i + 1, h, q, hq => by
    rw [List.flatMap_cons, List.getElem?_append_right (by simp [exCells]; omega)]
    have h1 : (i + 1) * 6 + q - (exCells d x).length = i * 6 + q := by simp [exCells]; omega
    rw [h1, exCells_at d r i (by simp at h; omega) q hq]
    simp
/-- A row of expressions that a call owns, as a list's slice. -/
theorem own_ksl {w : World} {B d : Nat} {v : Value} {l : List (Ex d)} (h : w.ownsRowF B 112 6 v l.length (l.flatMap (exCells d))) (hk : ∀ k ∈ l, ExAt w d k) : ∃ p cap, v = .slice p l.length cap ∧ KSl w d p l := by
  rcases h.2 with ⟨hv, hn⟩ | ⟨g, cap, cur, fz, hv, _, hg, _, _, _, hcs, htake⟩
  · exact ⟨none, 0, by rw [hv, hn], .inl hn, hk⟩
  · refine ⟨_, cap, hv, .inr ⟨g, 0, rfl, (Array.getElem?_eq_some_iff.1 hg).1, fun i hi => ?_⟩, hk⟩
    have hc : ∀ q, q < 6 → cur[i * 6 + q]? = (exCells d l[i])[q]? := by
      intro q hq
      rw [← exCells_at d l i hi q hq, ← htake, List.getElem?_take_of_lt (by omega), Array.getElem?_toList]
    rw [Nat.zero_add]
    have e (q : Nat) (hq : q < 6) : w.cell? ⟨g, i * 6 + q, none⟩ = (exCells d l[i])[q]? := by
      rw [Lib.cell_of_heap hg]; exact hc q hq
    exact ⟨e 0 (by omega), e 1 (by omega), e 2 (by omega), e 3 (by omega), e 4 (by omega), e 5 (by omega)⟩
theorem own_slice {w : World} {B n : Nat} {v : Value} {xs : List Value} (h : w.ownsRowF B 112 6 v n xs) : ∃ p cap, v = .slice p n cap := by
  rcases h.2 with ⟨hv, hn⟩ | ⟨g, cap, cur, fz, hv, _⟩
  · exact ⟨none, 0, by rw [hv, hn]⟩
  · exact ⟨_, cap, hv⟩
theorem own_next {w : World} {B d : Nat} {v : Value} {N ks : List (Ex d)} {m : Nat} {news : List Value} (hm : m < ks.length) (hn : exCells d ks[m] = news) (h : w.ownsRowF B 112 6 v (N.length + m + 1) (N.flatMap (exCells d) ++ ((ks.take m).flatMap (exCells d) ++ news))) :
    w.ownsRowF B 112 6 v (N.length + (m + 1)) ((N ++ ks.take (m + 1)).flatMap (exCells d)) := by
  rw [← List.take_append_getElem hm, List.flatMap_append, List.flatMap_append, List.flatMap_cons, List.flatMap_nil, List.append_nil, hn]
  exact h
theorem KSl.up {w w' : World} {d : Nat} {p : Option Addr} {ks : List (Ex d)} (h : KSl w d p ks) (hb : Below w.heap.size w w') : KSl w' d p ks :=
  ⟨h.1.imp id fun ⟨a, o, hp, ha, hc⟩ => ⟨a, o, hp, Nat.lt_of_lt_of_le ha hb.size, fun i hi => (hc i hi).up hb ha⟩, fun k hk => ExAt.up hb d k (h.2 k hk)⟩
theorem exCells_one {d : Nat} {e : Ex d} {p : Option Addr} {l c : Nat} (h : exSl d e = .slice p l c) : ∀ u ∈ exCells d e, u.oneCell' = true := by
  intro u hu
  simp only [exCells, h, List.mem_cons, List.not_mem_nil, or_false] at hu
  rcases hu with rfl | rfl | rfl | rfl | rfl | rfl <;> rfl
/-- A count, up to a number. -/
def PartsPost (left : Int) (w : World) (r : Ending) (w' : World) : Prop := ∃ n : Int, r = .returned (.int .i64 n) ∧ 0 ≤ n ∧ n ≤ left + 1 ∧ Below w.heap.size w w'
/-- At the head of the rounds over the levels. -/
def LvRel (left : Int) (W : World) (n lv dp : Value) (wr : World) : Prop :=
  ∃ (dd : Nat) (L : List (Ex dd)) (x : Int) (k : Nat) (p : Option Addr) (cap : Nat), n = .int .i64 x ∧ 0 ≤ x ∧ x ≤ left ∧ lv = .slice p L.length cap ∧ L.length ≤ 1048576 ∧ dp = .int .i64 k ∧ k ≤ 65537 ∧ KSl wr dd p L ∧ (∀ y ∈ L, ExB dd y) ∧ Below W.heap.size W wr
/-- At the head of the rounds over a level. -/
def MidRel (left : Int) (d : Nat) (L : List (Ex (d + 1))) (x : Int) (w0 : World) (nx i : Value) (wm : World) : Prop :=
  ∃ (j : Nat) (N : List (Ex d)), i = .int .i64 j ∧ j ≤ L.length ∧ wm.ownsRowF w0.heap.size 112 6 nx N.length (N.flatMap (exCells d)) ∧ x + N.length ≤ left ∧ (∀ k ∈ N, ExAt w0 d k) ∧ (∀ k ∈ N, ExB d k) ∧ Below w0.heap.size w0 wm
/-- At the head of the rounds over an expression's kids. -/
def InRel (d : Nat) (N ks : List (Ex d)) (w0 : World) (nx k : Value) (wi : World) : Prop :=
  ∃ m : Nat, k = .int .i64 m ∧ m ≤ ks.length ∧ wi.ownsRowF w0.heap.size 112 6 nx (N.length + m) ((N ++ ks.take m).flatMap (exCells d)) ∧ Below w0.heap.size w0 wi
set_option maxHeartbeats 8000000 in
theorem parts (d : Nat) (e : Ex d) (left : Int) (w : World) (he : ExAt w d e) (heb : ExB d e) (hl0 : 0 ≤ left) (hl1 : left ≤ 1048576) :
    Calls Tryz.prog 100 #[.agg #[.int .i8 (exOp d e), .string (exTm d e).v, .int .i8 (exTm d e).x.k, .int .i64 (exTm d e).x.n, .string (exTm d e).x.t, exSl d e], .int .i64 left] w (PartsPost left w) := by
  obtain ⟨i0, hi, hzz⟩ := Option.map_eq_some_iff.1 infoEx
  simp only [Prod.mk.injEq] at hzz
  obtain ⟨hz0, hz1, hz2⟩ := hzz
  have HI := Lib.hid hi; clear hi
  have HZ0 := Lib.hid hz0; clear hz0
  have HZ1 := Lib.hid hz1; clear hz1
  have HZ2 := Lib.hid hz2; clear hz2
  obtain ⟨p, l, cp, hsl⟩ := ex_sl he
  have HE := Lib.hid he; clear he
  have HEB := Lib.hid heb; clear heb
  rw [hsl]
  have HSL := Lib.hid hsl; clear hsl
  obtain ⟨W, hW⟩ : ∃ W, W = (w.alloc (.cells #[.int .i8 (exOp d e), .string (exTm d e).v, .int .i8 (exTm d e).x.k, .int .i64 (exTm d e).x.n, .string (exTm d e).x.t, .slice p l cp] 112)).alloc (.cells #[.int .i8 (exOp d e), .string (exTm d e).v, .int .i8 (exTm d e).x.k, .int .i64 (exTm d e).x.n, .string (exTm d e).x.t, .slice p l cp] 112) := ⟨_, rfl⟩
  have HBW := Lib.hid (show Below w.heap.size w W by rw [hW]; exact (below_alloc _ _).trans ((below_alloc _ _).mono (by simp)))
  have hsW : W.heap.size = w.heap.size + 1 + 1 := by rw [hW]; simp
  have HBX := Lib.hid (show W.heap[w.heap.size + 1]? = some (.cells #[.int .i8 (exOp d e), .string (exTm d e).v, .int .i8 (exTm d e).x.k, .int .i64 (exTm d e).x.n, .string (exTm d e).x.t, .slice p l cp] 112 (0, 0)) by rw [hW]; simpa using heap_alloc_new (w.alloc _) _)
  go_enter Tryz.func100, Tryz.ntmps100
  go_wp2_with fail
  rw [← hW]
  clear hW
  go_loopw [5, 6, 7] (fun n lv dp wr => LvRel left W n lv dp wr) (fun _ _ dp _ => 65538 - (intOf dp).toNat)
  case atStart =>
    refine ⟨d, [e], 0, 0, some ⟨w.heap.size + 1, 0, none⟩, 1, rfl, by omega, by omega, rfl, by simp, rfl, by omega, ⟨.inr ⟨w.heap.size + 1, 0, rfl, by omega, fun i h => ?_⟩, fun k hk => ?_⟩, fun y hy => ?_, Below.refl _ _⟩
    · obtain rfl : i = 0 := by simp at h; omega
      obtain ⟨a0, a1, a2, a3, a4, a5⟩ := six HBX.out
      exact ⟨a0, a1, a2, a3, a4, by show W.cell? ⟨w.heap.size + 1, 5, none⟩ = some (exSl d e); rw [HSL.out]; exact a5⟩
    · obtain rfl := List.mem_singleton.1 hk
      exact ExAt.up HBW.out d _ HE.out
    · obtain rfl := List.mem_singleton.1 hy
      exact HEB.out
  case round =>
    obtain ⟨dd, L, x, k, p', cap', rfl, hx0, hx1, rfl, hL, rfl, hk, hks, hlb, hbe⟩ := hrel
    obtain ⟨w0, hw0⟩ : ∃ w0, w0 = wr := ⟨_, rfl⟩
    subst hw0
    have HLB := Lib.hid hlb; clear hlb
    have HKS := Lib.hid hks; clear hks
    have HBE := Lib.hid hbe; clear hbe
    by_cases hL0 : L.length = 0
    · have qL : decide (0 < L.length) = false := decide_eq_false (by omega)
      go_wp2_with fail
      go_ret
      exact ⟨x, rfl, hx0, by omega, HBW.out.trans (HBE.out.mono (by omega))⟩
    · cases dd with
      | zero =>
        cases L with
        | nil => exact absurd rfl hL0
        | cons y _ => exact nomatch y
      | succ d1 =>
        have qL : decide (0 < L.length) = true := decide_eq_true (by omega)
        by_cases h1 : left < x + L.length
        · have q1 : decide (left < x + (L.length : Int)) = true := decide_eq_true h1
          go_wp2_with fail
          go_ret
          exact ⟨left + 1, rfl, by omega, by omega, HBW.out.trans (HBE.out.mono (by omega))⟩
        · have q1 : decide (left < x + (L.length : Int)) = false := decide_eq_false h1
          by_cases h2 : 65536 < k
          · have q2 : decide ((65536 : Int) < (k : Int)) = true := decide_eq_true (by omega)
            go_wp2_with fail
            go_ret
            exact ⟨left + 1, rfl, by omega, by omega, HBW.out.trans (HBE.out.mono (by omega))⟩
          · have q2 : decide ((65536 : Int) < (k : Int)) = false := decide_eq_false (by omega)
            have hk' : k ≤ 65536 := by omega
            have hx' : x + (L.length : Int) ≤ left := by omega
            go_wp2_with fail
            go_loopw [8, 9] (fun nx i wm => MidRel left d1 L (x + L.length) w0 nx i wm) (fun _ i _ => L.length - (intOf i).toNat)
            case atStart => exact ⟨0, [], rfl, by omega, ⟨rfl, .inl ⟨rfl, rfl⟩⟩, by simpa using hx', fun k hk => by simp at hk, fun k hk => by simp at hk, Below.refl _ _⟩
            case round =>
              obtain ⟨j, N, rfl, hj, hown, hnl, hN, hNB, hb⟩ := hrel
              have HN := Lib.hid hN; clear hN
              have HNB := Lib.hid hNB; clear hNB
              have HB := Lib.hid hb; clear hb
              obtain ⟨pn, cn, rfl⟩ := own_slice hown
              have HO := Lib.hid hown; clear hown
              by_cases hlt : j < L.length
              · rcases HKS.out.1 with h0 | ⟨a, o, hp, ha, hc⟩
                · omega
                subst hp
                have c5 := (hc j hlt).c5
                clear hc
                have hej := HKS.out.2 L[j] (List.getElem_mem hlt)
                have hbj := HLB.out L[j] (List.getElem_mem hlt)
                obtain ⟨y, hy⟩ : ∃ y, y = L[j] := ⟨_, rfl⟩
                rw [← hy] at c5 hej hbj
                clear hy
                obtain ⟨op, tm, sl, ks⟩ := y
                obtain ⟨pk, ck, hsk, hmk, hsk2, hkk⟩ := hej
                obtain ⟨hbk, hbkk⟩ := hbj
                have hsk' : sl = .slice pk ks.length ck := hsk
                subst hsk'
                have HC5 := Lib.hid (show w0.cell? ⟨a, o + j * 6 + 5, none⟩ = some (.slice pk ks.length ck) from c5)
                have c5' := (HB.out.cell (p := ⟨a, o + j * 6 + 5, none⟩) ha).trans HC5.out
                have hb41 : ks.length ≤ 2199023255552 := hbk
                have HKK := Lib.hid (show KSl w0 d1 pk ks from ⟨hsk2, hkk⟩)
                have HBK := Lib.hid hbkk
                clear c5 hsk hmk hsk2 hkk hbk hbkk
                by_cases h3 : left < x + (L.length : Int) + (N.length : Int) + (ks.length : Int)
                · have q3 : decide (left < x + (L.length : Int) + (N.length : Int) + (ks.length : Int)) = true := decide_eq_true h3
                  go_wp2_with fail
                  go_ret
                  exact ⟨left + 1, rfl, by omega, by omega, HBW.out.trans ((HBE.out.trans (HB.out.mono HBE.out.size)).mono (by omega))⟩
                · have q3 : decide (left < x + (L.length : Int) + (N.length : Int) + (ks.length : Int)) = false := decide_eq_false h3
                  go_wp2_with fail
                  clear c5'
                  go_loopw [8, 10] (fun nx q wi => InRel d1 N ks w0 nx q wi) (fun _ q _ => ks.length - (intOf q).toNat)
                  case atStart => exact ⟨0, rfl, by omega, by simpa using HO.out, HB.out⟩
                  case round =>
                    obtain ⟨m, rfl, hm, hown, hb⟩ := hrel
                    have HB2 := Lib.hid hb; clear hb
                    have hsz2 := HB2.out.size
                    obtain ⟨pn2, cn2, rfl⟩ := own_slice hown
                    have HO2 := Lib.hid hown; clear hown
                    have c5' := (HB2.out.cell (p := ⟨a, o + j * 6 + 5, none⟩) ha).trans HC5.out
                    by_cases hm2 : m < ks.length
                    · rcases HKK.out.1 with h0 | ⟨b, o2, hp2, hb2, hc2⟩
                      · omega
                      subst hp2
                      have hck := (hc2 m hm2).up HB2.out hb2
                      clear hc2
                      have hez := HKK.out.2 ks[m] (List.getElem_mem hm2)
                      obtain ⟨z, hz⟩ : ∃ z, z = ks[m] := ⟨_, rfl⟩
                      rw [← hz] at hck hez
                      have HZ := Lib.hid hz; clear hz
                      obtain ⟨pz, lz, cz, hsz⟩ := ex_sl hez
                      obtain ⟨k0, k1, k2, k3, k4, k5⟩ := hck
                      rw [hsz] at k5
                      have HSZ := Lib.hid hsz; clear hsz hez
                      go_wp2_with (at_builtin; refine wpApp_row rfl _ _ 110 rfl w0.heap.size 112 i0 _ 6 80 Tryz.underlying110 HI.out HZ0.out HZ1.out HZ2.out rfl (by decide) _ _ _ rfl (HO2.out.alloc _) ⟨wr.heap.size, 0, none⟩ 1 1 [.int .i8 (exOp d1 z), .string (exTm d1 z).v, .int .i8 (exTm d1 z).x.k, .int .i64 (exTm d1 z).x.n, .string (exTm d1 z).x.t, .slice pz lz cz] rfl rfl (new_cells wr [.int .i8 (exOp d1 z), .string (exTm d1 z).v, .int .i8 (exTm d1 z).x.k, .int .i64 (exTm d1 z).x.n, .string (exTm d1 z).x.t, .slice pz lz cz] 112) ?c1 ?c2 ?c3 ?c4 ?_)
                      case c1 =>
                        have h1 := exCells_one HSZ.out
                        rw [exCells, HSZ.out] at h1
                        exact h1
                      case c2 => unfold maxLen; omega
                      case c3 => omega
                      case c4 => simp; omega
                      intro v' w1 hown' hgrow _ _
                      have HO' := Lib.hid hown'; clear hown'
                      have HG := Lib.hid hgrow; clear hgrow
                      clear k0 k1 k2 k3 k4 k5 c5'
                      go_wp2_with fail
                      exact ⟨⟨m + 1, rfl, by omega, own_next hm2 (by rw [exCells, ← HZ.out, HSZ.out]) HO'.out, (HB2.out.alloc hsz2 _).grown HG.out (by simp; omega) (fun g hg => (HO2.out.lt g hg).1)⟩, by simp [intOf]; omega⟩
                    · obtain rfl : m = ks.length := by omega
                      go_wp2_with fail
                      refine ⟨⟨j + 1, N ++ ks, rfl, by omega, ?_, by rw [List.length_append]; omega, fun k hk => ?_, fun k hk => ?_, HB2.out⟩, by simp [intOf]; omega⟩
                      · have h := HO2.out
                        rw [List.take_length] at h
                        rw [List.length_append]
                        exact h
                      · rcases List.mem_append.1 hk with h | h
                        · exact HN.out k h
                        · exact HKK.out.2 k h
                      · rcases List.mem_append.1 hk with h | h
                        · exact HNB.out k h
                        · exact HBK.out k h
              · obtain rfl : j = L.length := by omega
                go_wp2_with fail
                obtain ⟨p3, c3, hv3, hks3⟩ := own_ksl HO.out (fun k hk => ExAt.up HB.out d1 k (HN.out k hk))
                obtain ⟨rfl, _, rfl⟩ := by simpa using hv3
                refine ⟨⟨d1, N, x + L.length, k + 1, pn, cn, rfl, by omega, by omega, rfl, by omega, rfl, by omega, hks3, HNB.out, HBE.out.trans (HB.out.mono HBE.out.size)⟩, by simp [intOf]; omega⟩
end Go.Proofs.YtafjjececdhmjaaGreat
