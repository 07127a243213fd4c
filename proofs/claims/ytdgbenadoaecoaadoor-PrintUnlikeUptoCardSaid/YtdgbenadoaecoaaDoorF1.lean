/- The contracts of TwinLiteral. Conditions: the literal lies in memory as it is told, its lists are not too long. -/
import Derived.Test.YtdgbenadoaecoaaDoorB3
import Derived.Test.YtdgbenadoaecoaaDoorE1
import Derived.Test.YtdgbenadoaecoaaDoorU0
namespace Go.Proofs.YtdgbenadoaecoaaDoor
open Go.RowKit

/-- Two literals alike but for where their lists lie. -/
structure LtLike {d : Nat} (x y : Lt d) : Prop where
  k_ : x.k = y.k
  p_ : x.p = y.p
  ts_ : x.ts = y.ts
  r_ : x.r = y.r
  l_ : Alike d x.l y.l
  g_ : Alike d x.g y.g
/-- A copy of a literal, with a mark behind each list; its blocks begin at B. -/
structure LtTw (w : World) (B : Nat) {d : Nat} (y : Lt d) : Prop where
  at_ : ∃ a, y.sv = .slice (some ⟨a, 0, none⟩) y.ts.length (y.ts.length + 1) ∧ B ≤ a ∧ TwTm w a y.ts
  l_ : TwAt w B d y.l
  g_ : TwAt w B d y.g
theorem LtTw.up {w w' : World} {B B' : Nat} (hB : B' ≤ B) (hs : w.heap.size ≤ w'.heap.size) (hb : ∀ k, B ≤ k → k < w.heap.size → w'.heap[k]? = w.heap[k]?) {d : Nat} {y : Lt d} (h : LtTw w B y) : LtTw w' B' y :=
  ⟨by obtain ⟨a, h1, h2, h3⟩ := h.at_; exact ⟨a, h1, by omega, h3.of_block (Nat.lt_of_lt_of_le h3.lt hs) (hb a h2 h3.lt)⟩, h.l_.up hB hs hb, h.g_.up hB hs hb⟩
theorem LtTw.low {w w' : World} {B : Nat} {d : Nat} {y : Lt d} (h : LtTw w B y) (hb : Below w.heap.size w w') : LtTw w' B y := h.up (Nat.le_refl _) hb.size (fun k _ hk => hb.block k hk)
theorem LtLike.b {d : Nat} {x y : Lt d} (h : LtLike x y) (hb : LtB x) : LtB y := ⟨by rw [← h.ts_]; exact hb.ts_, h.l_.b hb.l_, h.g_.b hb.g_⟩
theorem LtTw.at {w : World} {B d : Nat} {y : Lt d} (h : LtTw w B y) (hb : LtB y) : LtAt w y :=
  ⟨by obtain ⟨a, h1, _, h3⟩ := h.at_; rw [h1]; exact h3.sl hb.ts_, h.l_.at hb.l_, h.g_.at hb.g_⟩
/-- What a call leaves that copies a literal. -/
def TlPost {d : Nat} (x : Lt d) (w : World) (r : Ending) (w' : World) : Prop :=
  ∃ y : Lt d, r = .returned (.agg #[.int .i8 y.k, .string y.p, y.sv, .int .i8 y.r, .int .i8 (exOp d y.l), .string (exTm d y.l).v, .int .i8 (exTm d y.l).x.k, .int .i64 (exTm d y.l).x.n, .string (exTm d y.l).x.t, exSl d y.l, .int .i8 (exOp d y.g), .string (exTm d y.g).v, .int .i8 (exTm d y.g).x.k, .int .i64 (exTm d y.g).x.n, .string (exTm d y.g).x.t, exSl d y.g]) ∧ LtLike x y ∧ LtTw w' w.heap.size y ∧ Below w.heap.size w w'
end Go.Proofs.YtdgbenadoaecoaaDoor
