/- Tokens in plain Lean: what a token's text is, what a source's tokens are. No program in sight. Conditions: none. -/
import Derived.Test.YtcigdlpljjkplaaDoorL0
import Derived.Lib.ParseIntB
namespace Go.Proofs.YtcigdlpljjkplaaDoor
open Go.RowKit

/-- A token: its kind, text, number, place. -/
structure Tk where
  k : Int
  t : ByteArray
  n : Int
  p : Int
def signsT : List ByteArray := [⟨#[58, 45]⟩, ⟨#[33, 61]⟩, ⟨#[60, 61]⟩, ⟨#[62, 61]⟩, ⟨#[40]⟩, ⟨#[41]⟩, ⟨#[44]⟩, ⟨#[46]⟩, ⟨#[63]⟩, ⟨#[61]⟩, ⟨#[60]⟩, ⟨#[62]⟩, ⟨#[43]⟩, ⟨#[45]⟩, ⟨#[42]⟩, ⟨#[47]⟩, ⟨#[37]⟩, ⟨#[38]⟩]
/-- Is it a sign? -/
def signB (l : List UInt8) : Bool := signsT.any fun s => l == bl s
/-- The first sign of the list that stands at the head. -/
def headSign (l : List UInt8) : Option ByteArray := signsT.find? fun s => (bl s).isPrefixOf l
def blankB (c : UInt8) : Bool := c.toNat == 9 || c.toNat == 10 || c.toNat == 13 || c.toNat == 32
def tk0 : Tk := ⟨0, ⟨#[]⟩, 0, 0⟩
def Tk.agg (x : Tk) : Value := .agg #[.int .i8 x.k, .string x.t, .int .i64 x.n, .int .i64 x.p]
/-- What a run that begins with a digit stands for. -/
def numT (l : List UInt8) : Int × Tk :=
  match Lib.parseUintB 64 l with
  | .ok u => if 9223372036854775808 < u ∨ (l.head? = some 48 ∧ l ≠ [48]) then (32, tk0) else (0, ⟨4, ⟨#[]⟩, wrap64 (u : Int), 0⟩)
  | _ => (32, tk0)
/-- What a run stands for: an error, or a token without its place. -/
def wordT (l : List UInt8) : Int × Tk :=
  match l with
  | [] => (31, tk0)
  | c :: _ =>
    if c.toNat = 95 then (if 1 < l.length then (31, tk0) else (0, ⟨3, ⟨#[]⟩, 0, 0⟩))
    else if digitB c then numT l
    else if 120 < l.length then (30, tk0)
    else if upperB c then (0, ⟨2, ⟨l.toArray⟩, 0, 0⟩)
    else if kwB l then (0, ⟨6, ⟨l.toArray⟩, 0, 0⟩)
    else (0, ⟨1, ⟨l.toArray⟩, 0, 0⟩)
def leastI : Int := -9223372036854775808
/-- Is it a token as it may be? -/
def tkOk (x : Tk) : Bool :=
  if x.k = 1 then x.n == 0 && nameB (bl x.t)
  else if x.k = 2 then x.n == 0 && varB (bl x.t)
  else if x.k = 6 then x.n == 0 && kwB (bl x.t)
  else if x.k = 7 then x.n == 0 && signB (bl x.t)
  else if x.k = 3 then x.n == 0 && (bl x.t).isEmpty
  else if x.k = 4 then (bl x.t).isEmpty && (decide (0 ≤ x.n) || x.n == leastI)
  else if x.k = 5 then x.n == 0 && decide (x.t.size ≤ 200)
  else if x.k = 8 then x.n == 0 && (bl x.t).isEmpty
  else false
/-- Its text, if it may be. -/
def tkL (x : Tk) : List UInt8 :=
  if x.k = 3 then [95] else if x.k = 4 then Lib.decDigits (IntKind.u64.wrap x.n).toNat else if x.k = 5 then quoteL (bl x.t) else if x.k = 8 then [] else bl x.t
end Go.Proofs.YtcigdlpljjkplaaDoor
