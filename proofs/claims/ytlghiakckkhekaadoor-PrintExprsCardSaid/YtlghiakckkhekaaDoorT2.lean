/- Copies of expressions: what they are, and the contracts of TwinExpr and TwinExprs. Conditions: the expression lies in memory as it is told, its lists are not too long. -/
import Derived.Test.YtlghiakckkhekaaDoorT1
import Derived.Deep.OwnRows
namespace Go.Proofs.YtlghiakckkhekaaDoor
open Go.RowKit

/-- Two expressions alike but for where their kids' lists lie. -/
def Alike : (d : Nat) → Ex d → Ex d → Prop
  | 0, e, _ => nomatch e
  | d + 1, e, f => e.1 = f.1 ∧ e.2.1 = f.2.1 ∧ e.2.2.2.length = f.2.2.2.length ∧ ∀ i, (h : i < e.2.2.2.length) → (h' : i < f.2.2.2.length) → Alike d e.2.2.2[i] f.2.2.2[i]
theorem Alike.op : ∀ {d : Nat} {e f : Ex d}, Alike d e f → exOp d e = exOp d f
  | 0, e, _, _ => nomatch e
  | _ + 1, _, _, h => h.1
theorem Alike.tm : ∀ {d : Nat} {e f : Ex d}, Alike d e f → exTm d e = exTm d f
  | 0, e, _, _ => nomatch e
  | _ + 1, _, _, h => h.2.1
theorem alike_map {α β : Type} (g : α → β) {ks ts : List α} (hl : ks.length = ts.length) (h : ∀ i, (h : i < ks.length) → (h' : i < ts.length) → g ks[i] = g ts[i]) : ks.map g = ts.map g := by
  apply List.ext_getElem (by simp [hl])
  intro i h1 h2
  simp at h1 h2
  simp [h i h1 h2]
theorem all_map {α : Type} (p : α → Bool) (l : List α) : l.all p = (l.map p).all id := by simp [List.all_map]
theorem Alike.ok : ∀ {d n : Nat} {e f : Ex d}, Alike d e f → exOk n d e = exOk n d f
  | 0, _, e, _, _ => nomatch e
  | _ + 1, 0, _, _, _ => rfl
  | d + 1, n + 1, (op, tm, sl, ks), (op', tm', sl', ts), h => by
    obtain ⟨h1, h2, h3, h4⟩ := h
    have h1' : op = op' := h1
    have h2' : tm = tm' := h2
    have h3' : ks.length = ts.length := h3
    subst h1' h2'
    show (if op = 0 then ks.isEmpty && solidB tm else tmZero tm && decide ((ks.length : Int) = arityI op) && ks.all (exOk n d)) = (if op = 0 then ts.isEmpty && solidB tm else tmZero tm && decide ((ts.length : Int) = arityI op) && ts.all (exOk n d))
    have he : ks.isEmpty = ts.isEmpty := by
      cases ks <;> cases ts <;> simp_all
    have ha : ks.all (exOk n d) = ts.all (exOk n d) := by
      rw [all_map (exOk n d) ks, all_map (exOk n d) ts, alike_map (exOk n d) h3' (fun i h h' => (h4 i h h').ok)]
    rw [he, ha, h3']
theorem exprL_map {d : Nat} (op : Int) (tm : Tm) (sl sl' : Value) (ks ts : List (Ex d)) (h : ks.map (fun k => (exprL d k, exOp d k, exTm d k)) = ts.map (fun k => (exprL d k, exOp d k, exTm d k))) :
    exprL (d + 1) (op, tm, sl, ks) = exprL (d + 1) (op, tm, sl', ts) := by
  match ks, ts, h with
  | [], [], _ => rfl
  | [a], [b], h =>
    simp only [List.map_cons, List.map_nil, List.cons.injEq, Prod.mk.injEq, and_true] at h
    obtain ⟨h1, h2, h3⟩ := h
    simp only [exprL, h1, h2, h3]
  | [a, b], [a', b'], h =>
    simp only [List.map_cons, List.map_nil, List.cons.injEq, Prod.mk.injEq, and_true] at h
    obtain ⟨⟨h1, h2, h3⟩, h4, h5, h6⟩ := h
    simp only [exprL, h1, h2, h4, h5]
  | _ :: _ :: _ :: _, _ :: _ :: _ :: _, _ => rfl
  | [], _ :: _, h => simp at h
  | _ :: _, [], h => simp at h
  | [_], _ :: _ :: _, h => simp at h
  | _ :: _ :: _, [_], h => simp at h
  | [_, _], _ :: _ :: _ :: _, h => simp at h
  | _ :: _ :: _ :: _, [_, _], h => simp at h
theorem Alike.txt : ∀ {d : Nat} {e f : Ex d}, Alike d e f → exprL d e = exprL d f
  | 0, e, _, _ => nomatch e
  | d + 1, (op, tm, sl, ks), (op', tm', sl', ts), h => by
    obtain ⟨h1, h2, h3, h4⟩ := h
    have h1' : op = op' := h1
    have h2' : tm = tm' := h2
    have h3' : ks.length = ts.length := h3
    subst h1' h2'
    exact exprL_map op tm sl sl' ks ts (alike_map _ h3' (fun i h h' => by
      have := h4 i h h'
      show (_, _, _) = (_, _, _)
      rw [this.txt, this.op, this.tm]))
theorem Alike.r : ∀ {d : Nat} {e f : Ex d}, Alike d e f → ExR d e → ExR d f
  | 0, e, _, _, _ => nomatch e
  | d + 1, (op, tm, sl, ks), (op', tm', sl', ts), h, hr => by
    obtain ⟨h1, h2, h3, h4⟩ := h
    obtain ⟨r1, r2, r3⟩ := hr
    have h1' : op = op' := h1
    have h2' : tm = tm' := h2
    have h3' : ks.length = ts.length := h3
    subst h1' h2'
    refine ⟨r1, r2, fun t ht => ?_⟩
    obtain ⟨i, hi, rfl⟩ := List.mem_iff_getElem.1 ht
    have hi' : i < ts.length := hi
    exact (h4 i (by show i < ks.length; omega) hi).r (r3 _ (List.getElem_mem (show i < ks.length by omega)))
/-- An expression whose lists are not too long. -/
def ExB : (d : Nat) → Ex d → Prop
  | 0, _ => True
  | d + 1, e => e.2.2.2.length ≤ 2199023255552 ∧ ∀ k ∈ e.2.2.2, ExB d k
theorem ExCell.of_block {w w' : World} {a o : Nat} {op : Int} {t : Tm} {s : Value} (h : ExCell w a o op t s) (hb : w'.heap[a]? = w.heap[a]?) : ExCell w' a o op t s :=
  ⟨(World.cell?_of_block (w := w) hb).trans h.c0, (World.cell?_of_block (w := w) hb).trans h.c1, (World.cell?_of_block (w := w) hb).trans h.c2, (World.cell?_of_block (w := w) hb).trans h.c3, (World.cell?_of_block (w := w) hb).trans h.c4, (World.cell?_of_block (w := w) hb).trans h.c5⟩
/-- A copy: its lists lie in blocks from B on, each with a mark behind it. -/
def TwAt (w : World) (B : Nat) : (d : Nat) → Ex d → Prop
  | 0, _ => True
  | d + 1, e => ∃ a, e.2.2.1 = .slice (some ⟨a, 0, none⟩) e.2.2.2.length (e.2.2.2.length + 1) ∧ B ≤ a ∧ a < w.heap.size ∧
      (∀ i, (h : i < e.2.2.2.length) → ExCell w a (i * 6) (exOp d e.2.2.2[i]) (exTm d e.2.2.2[i]) (exSl d e.2.2.2[i])) ∧ ExCell w a (e.2.2.2.length * 6) 99 markTm (.slice none 0 0) ∧ ∀ k ∈ e.2.2.2, TwAt w B d k
theorem TwAt.up {w w' : World} {B B' : Nat} (hB : B' ≤ B) (hs : w.heap.size ≤ w'.heap.size) (hb : ∀ k, B ≤ k → k < w.heap.size → w'.heap[k]? = w.heap[k]?) : ∀ {d : Nat} {e : Ex d}, TwAt w B d e → TwAt w' B' d e
  | 0, _, _ => trivial
  | d + 1, e, ⟨a, h1, h2, h3, h4, h5, h6⟩ => ⟨a, h1, Nat.le_trans hB h2, Nat.lt_of_lt_of_le h3 hs, fun i h => (h4 i h).of_block (hb a h2 h3), h5.of_block (hb a h2 h3), fun k hk => TwAt.up hB hs hb (h6 k hk)⟩
theorem TwAt.at {w : World} {B : Nat} : ∀ {d : Nat} {e : Ex d}, TwAt w B d e → ExB d e → ExAt w d e
  | 0, _, _, _ => trivial
  | d + 1, e, ⟨a, h1, h2, h3, h4, h5, h6⟩, ⟨b1, b2⟩ => ⟨some ⟨a, 0, none⟩, _, h1, Nat.le_trans b1 (by decide), .inr ⟨a, 0, rfl, h3, fun i h => by rw [Nat.zero_add]; exact h4 i h⟩, fun k hk => (h6 k hk).at (b2 k hk)⟩
theorem Alike.b : ∀ {d : Nat} {e f : Ex d}, Alike d e f → ExB d e → ExB d f
  | 0, e, _, _, _ => nomatch e
  | d + 1, (op, tm, sl, ks), (op', tm', sl', ts), h, hr => by
    obtain ⟨h1, h2, h3, h4⟩ := h
    obtain ⟨r1, r3⟩ := hr
    have h3' : ks.length = ts.length := h3
    have r1' : ks.length ≤ 2199023255552 := r1
    refine ⟨by show ts.length ≤ _; omega, fun t ht => ?_⟩
    obtain ⟨i, hi, rfl⟩ := List.mem_iff_getElem.1 ht
    have hi' : i < ts.length := hi
    exact (h4 i (by show i < ks.length; omega) hi).b (r3 _ (List.getElem_mem (show i < ks.length by omega)))
/-- What a call leaves that copies an expression. -/
def TwinPost (d : Nat) (e : Ex d) (w : World) (r : Ending) (w' : World) : Prop :=
  ∃ f : Ex d, r = .returned (.agg #[.int .i8 (exOp d f), .string (exTm d f).v, .int .i8 (exTm d f).x.k, .int .i64 (exTm d f).x.n, .string (exTm d f).x.t, exSl d f]) ∧ Alike d e f ∧ TwAt w' w.heap.size d f ∧ Below w.heap.size w w'
def TwinAll (d : Nat) : Prop := ∀ (e : Ex d) (w : World), ExAt w d e → ExR d e → ExB d e → Tabs w →
  Calls Tryd.prog 12 #[.agg #[.int .i8 (exOp d e), .string (exTm d e).v, .int .i8 (exTm d e).x.k, .int .i64 (exTm d e).x.n, .string (exTm d e).x.t, exSl d e]] w (TwinPost d e w)
/-- What a call leaves that copies a list. -/
def TwinsPost (d : Nat) (ks : List (Ex d)) (w : World) (r : Ending) (w' : World) : Prop :=
  ∃ (a : Nat) (ts : List (Ex d)), r = .returned (.slice (some ⟨a, 0, none⟩) ks.length (ks.length + 1)) ∧ ts.length = ks.length ∧ (∀ i, (h : i < ks.length) → (h' : i < ts.length) → Alike d ks[i] ts[i]) ∧ w.heap.size ≤ a ∧ a < w'.heap.size ∧
    (∀ i, (h : i < ts.length) → ExCell w' a (i * 6) (exOp d ts[i]) (exTm d ts[i]) (exSl d ts[i])) ∧ ExCell w' a (ks.length * 6) 99 markTm (.slice none 0 0) ∧ (∀ t ∈ ts, TwAt w' w.heap.size d t) ∧ Below w.heap.size w w'
/-- A list of expressions, as its slice lies. -/
def KSl (w : World) (d : Nat) (p : Option Addr) (ks : List (Ex d)) : Prop :=
  (ks.length = 0 ∨ ∃ a o, p = some ⟨a, o, none⟩ ∧ a < w.heap.size ∧ ∀ i, (h : i < ks.length) → ExCell w a (o + i * 6) (exOp d ks[i]) (exTm d ks[i]) (exSl d ks[i])) ∧ ∀ k ∈ ks, ExAt w d k
theorem infoEx : (Tryd.prog.info? 36).map (fun i => (i.zero, i.size, i.bytes)) = some (some (.agg #[.int .i8 0, .string ⟨#[]⟩, .int .i8 0, .int .i64 0, .string ⟨#[]⟩, .slice none 0 0]), 6, 80) := by kernel_rfl
theorem make_ex (n : Nat) (hn : n ≤ 2199023255552) (w : World) : (Instr.makeSlice 34 (.int .i64 ((n : Int) + 1)) (.int .i64 ((n : Int) + 1))).run Tryd.prog w =
    .ok (.slice (some ⟨w.heap.size, 0, none⟩) (n + 1) (n + 1)) (w.alloc (.cells (madeCells #[.int .i8 0, .string ⟨#[]⟩, .int .i8 0, .int .i64 0, .string ⟨#[]⟩, .slice none 0 0] ((n + 1) * 6)) 36)) := by
  obtain ⟨i, hi, hzz⟩ := Option.map_eq_some_iff.1 infoEx
  simp only [Prod.mk.injEq] at hzz
  obtain ⟨hz, hs, hb⟩ := hzz
  have h := run_make (P := Tryd.prog) w 34 36 i _ Tryd.underlying34 hi hz .i64 .i64 ((n : Int) + 1) ((n : Int) + 1) (by omega) (Int.le_refl _) (by rw [hb]; omega) (by omega)
  rw [h, hs, show ((n : Int) + 1).toNat = n + 1 by omega]
  rfl
end Go.Proofs.YtlghiakckkhekaaDoor
