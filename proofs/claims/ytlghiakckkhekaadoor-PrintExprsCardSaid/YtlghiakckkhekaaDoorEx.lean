/- Expressions, as trees with the slices that hold their kids; what the functions on them compute; no program in sight. Conditions: none. -/
import Derived.Test.YtlghiakckkhekaaDoorW18
namespace Go.Proofs.YtlghiakckkhekaaDoor
open Go.RowKit

/-- An expression of a depth up to a number: its operation, its term, the slice of its kids, its kids. -/
def Ex : Nat → Type
  | 0 => Empty
  | d + 1 => Int × Tm × Value × List (Ex d)
def exOp : (d : Nat) → Ex d → Int
  | 0, e => nomatch e
  | _ + 1, e => e.1
def exTm : (d : Nat) → Ex d → Tm
  | 0, e => nomatch e
  | _ + 1, e => e.2.1
def exSl : (d : Nat) → Ex d → Value
  | 0, e => nomatch e
  | _ + 1, e => e.2.2.1
def tmZero (t : Tm) : Bool := (bl t.v).isEmpty && vlZero t.x
/-- term.arity -/
def arityI (op : Int) : Int := if op = 1 ∨ op = 8 ∨ op = 9 ∨ op = 10 then 1 else if 2 ≤ op ∧ op ≤ 7 then 2 else -1
/-- term.solid -/
def solidB (t : Tm) : Bool := !(bl t.v == [95]) && tmOk t
/-- term.deep -/
def exOk : Nat → (d : Nat) → Ex d → Bool
  | _, 0, e => nomatch e
  | 0, _ + 1, _ => false
  | n + 1, d + 1, e => if e.1 = 0 then e.2.2.2.isEmpty && solidB e.2.1 else tmZero e.2.1 && decide ((e.2.2.2.length : Int) = arityI e.1) && e.2.2.2.all (exOk n d)
/-- The six cells of an expression. -/
structure ExCell (w : World) (a o : Nat) (op : Int) (t : Tm) (s : Value) : Prop where
  c0 : w.cell? ⟨a, o, none⟩ = some (.int .i8 op)
  c1 : w.cell? ⟨a, o + 1, none⟩ = some (.string t.v)
  c2 : w.cell? ⟨a, o + 2, none⟩ = some (.int .i8 t.x.k)
  c3 : w.cell? ⟨a, o + 3, none⟩ = some (.int .i64 t.x.n)
  c4 : w.cell? ⟨a, o + 4, none⟩ = some (.string t.x.t)
  c5 : w.cell? ⟨a, o + 5, none⟩ = some s
theorem ExCell.up {w w' : World} {B a o : Nat} {op : Int} {t : Tm} {s : Value} (h : ExCell w a o op t s) (hb : Below B w w') (ha : a < B) : ExCell w' a o op t s :=
  ⟨(hb.cell (p := ⟨a, o, none⟩) ha).trans h.c0, (hb.cell (p := ⟨a, o + 1, none⟩) ha).trans h.c1, (hb.cell (p := ⟨a, o + 2, none⟩) ha).trans h.c2, (hb.cell (p := ⟨a, o + 3, none⟩) ha).trans h.c3,
    (hb.cell (p := ⟨a, o + 4, none⟩) ha).trans h.c4, (hb.cell (p := ⟨a, o + 5, none⟩) ha).trans h.c5⟩
/-- How an expression lies in memory: its kids' slice, and what lies there. -/
def ExAt (w : World) : (d : Nat) → Ex d → Prop
  | 0, _ => True
  | d + 1, e => ∃ p cap, e.2.2.1 = .slice p e.2.2.2.length cap ∧ e.2.2.2.length ≤ maxLen ∧
      (e.2.2.2.length = 0 ∨ ∃ a o, p = some ⟨a, o, none⟩ ∧ a < w.heap.size ∧ ∀ i, (h : i < e.2.2.2.length) → ExCell w a (o + i * 6) (exOp d e.2.2.2[i]) (exTm d e.2.2.2[i]) (exSl d e.2.2.2[i])) ∧
      ∀ k ∈ e.2.2.2, ExAt w d k
theorem ExAt.up {w w' : World} (hb : Below w.heap.size w w') : ∀ (d : Nat) (e : Ex d), ExAt w d e → ExAt w' d e
  | 0, _, _ => trivial
  | d + 1, e, ⟨p, cap, h1, h2, h3, h4⟩ => ⟨p, cap, h1, h2, h3.imp id fun ⟨a, o, hp, ha, hc⟩ => ⟨a, o, hp, Nat.lt_of_lt_of_le ha hb.size, fun i hi => (hc i hi).up hb ha⟩, fun k hk => ExAt.up hb d k (h4 k hk)⟩
/-- An expression within its types' bounds. -/
def ExR : (d : Nat) → Ex d → Prop
  | 0, _ => True
  | d + 1, e => (-128 ≤ e.1 ∧ e.1 ≤ 127) ∧ TmR e.2.1.v e.2.1.x.k e.2.1.x.n e.2.1.x.t ∧ ∀ k ∈ e.2.2.2, ExR d k
end Go.Proofs.YtlghiakckkhekaaDoor
