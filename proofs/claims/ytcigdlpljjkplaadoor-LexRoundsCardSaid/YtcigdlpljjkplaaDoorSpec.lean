/- What the functions of the layers value, term and print compute, in plain Lean, with no program in sight. Conditions: none. -/
import Derived.WalkKit
import Derived.Lib.ItoaNum
namespace Go.Proofs.YtcigdlpljjkplaaDoor
open Go.RowKit

/-- A string's bytes. -/
abbrev bl (s : ByteArray) : List UInt8 := s.data.toList
theorem bl_mk (l : List UInt8) : bl ⟨l.toArray⟩ = l := rfl

/-- api.Value -/
structure Vl where
  k : Int
  n : Int
  t : ByteArray
/-- api.Term -/
structure Tm where
  v : ByteArray
  x : Vl
def Vl.cells (x : Vl) : List Value := [.int .i8 x.k, .int .i64 x.n, .string x.t]
def Tm.cells (t : Tm) : List Value := .string t.v :: t.x.cells
def Vl.agg (x : Vl) : Value := .agg #[.int .i8 x.k, .int .i64 x.n, .string x.t]
def Tm.agg (t : Tm) : Value := .agg #[.string t.v, .int .i8 t.x.k, .int .i64 t.x.n, .string t.x.t]

def lowerB (c : UInt8) : Bool := decide (97 ≤ c.toNat) && decide (c.toNat ≤ 122)
def upperB (c : UInt8) : Bool := decide (65 ≤ c.toNat) && decide (c.toNat ≤ 90)
def digitB (c : UInt8) : Bool := decide (48 ≤ c.toNat) && decide (c.toNat ≤ 57)
def wordB (c : UInt8) : Bool := lowerB c || upperB c || digitB c || c.toNat == 95

/-- the keywords -/
def kwB (l : List UInt8) : Bool := l == [110, 111, 116] || l == [99, 111, 117, 110, 116] || l == [115, 117, 109] || l == [109, 105, 110] || l == [109, 97, 120] || l == [108, 101, 110] || l == [99, 104, 97, 114, 115] || l == [98, 97, 99, 107]
/-- a first byte within a span, letters, digits and _ behind it, not too many -/
def runB (fr to : UInt8) : List UInt8 → Bool
  | [] => false
  | c :: r => decide (r.length < 120) && decide (fr.toNat ≤ c.toNat) && decide (c.toNat ≤ to.toNat) && (c :: r).all wordB
def nameB (l : List UInt8) : Bool := runB 97 122 l && !kwB l
def varB (l : List UInt8) : Bool := runB 65 90 l
/-- a digit of base 16 -/
def hexD (n : Nat) : UInt8 := if n < 10 then UInt8.ofNat (48 + n) else UInt8.ofNat (87 + n)
/-- a byte as a quoted text has it -/
def escB (c : UInt8) : List UInt8 :=
  if c.toNat = 10 then [92, 110] else if c.toNat = 34 ∨ c.toNat = 92 then [92, c] else if 32 ≤ c.toNat ∧ c.toNat ≤ 126 then [c] else [92, 120, hexD (c.toNat / 16), hexD (c.toNat % 16)]
def escL : List UInt8 → List UInt8
  | [] => []
  | c :: r => escB c ++ escL r
def quoteL (l : List UInt8) : List UInt8 := 34 :: (escL l ++ [34])
/-- value.Check -/
def vlOk (x : Vl) : Bool := (x.k == 1 && (bl x.t).isEmpty) || (x.k == 2 && x.n == 0 && decide (x.t.size ≤ 200))
def okCode (b : Bool) (n : Int) : Int := if b then 0 else n
/-- value.Show -/
def showL (x : Vl) : List UInt8 := if vlOk x then (if x.k == 1 then Lib.itoa x.n else if nameB (bl x.t) then bl x.t else quoteL (bl x.t)) else []
def vlZero (x : Vl) : Bool := x.k == 0 && x.n == 0 && (bl x.t).isEmpty
/-- term.CheckTerm -/
def tmOk (t : Tm) : Bool := if (bl t.v).isEmpty then vlOk t.x else vlZero t.x && (bl t.v == [95] || varB (bl t.v))
/-- a term's text -/
def termL (t : Tm) : List UInt8 := if (bl t.v).isEmpty then showL t.x else bl t.v
/-- columns' texts, each behind a bracket or a comma -/
def sepL : Bool → List (List UInt8) → List UInt8
  | _, [] => []
  | f, x :: r => (if f then [40] else [44, 32]) ++ (x ++ sepL false r)
/-- a name with columns' texts -/
def colsL (name : List UInt8) (l : List (List UInt8)) : List UInt8 := name ++ (sepL true l ++ (if l.isEmpty then [] else [41]))
theorem sepL_snoc : ∀ (f : Bool) (l : List (List UInt8)) (x : List UInt8), sepL f (l ++ [x]) = sepL f l ++ ((if l.isEmpty && f then [40] else [44, 32]) ++ x)
  | f, [], x => by cases f <;> simp [sepL]
  | f, y :: r, x => by simp [sepL, sepL_snoc false r x]
end Go.Proofs.YtcigdlpljjkplaaDoor
