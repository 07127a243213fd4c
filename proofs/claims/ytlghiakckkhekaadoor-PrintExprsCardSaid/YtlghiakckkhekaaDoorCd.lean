/- What the cards' proofs share: the tables out of a row's list; worlds with other cells. Conditions: none. -/
import Derived.Test.YtlghiakckkhekaaDoorRd
namespace Go.Proofs.YtlghiakckkhekaaDoor
open Go.ChangeShapes Go.WideShapes Go.RowKit

theorem lt_of_cell {w : World} {g i : Nat} {v : Value} (h : w.cell? ⟨g, i, none⟩ = some v) : g < w.heap.size := by
  by_cases hlt : g < w.heap.size
  · exact hlt
  · exfalso
    simp [World.cell?, Array.getElem?_eq_none (Nat.le_of_not_lt hlt)] at h
/-- math/bits's two tables. -/
def db64L : List Int := [0, 1, 56, 2, 57, 49, 28, 3, 61, 58, 42, 50, 38, 29, 17, 4, 62, 47, 59, 36, 45, 43, 51, 22, 53, 39, 33, 30, 24, 18, 12, 5, 63, 55, 48, 27, 60, 41, 37, 16, 46, 35, 44, 21, 52, 32, 23, 11, 54, 26, 40, 15, 34, 20, 31, 10, 25, 14, 19, 9, 13, 8, 7, 6]
def db32L : List Int := [0, 1, 28, 2, 29, 14, 24, 3, 30, 22, 20, 15, 25, 17, 4, 8, 31, 27, 13, 23, 21, 19, 16, 7, 26, 12, 18, 6, 11, 5, 10, 9]
/-- What a row's list gives: the tables. -/
theorem tabs_of {W : World} {l : List (String × DataW Unit)} (h : laidMetH Tryd.prog l W) (kp : (l.filter fun y => y.1 == "internal/strconv.uint64pow10") = [("internal/strconv.uint64pow10", Lib.tabData .u64 Lib.pow10Tab)]) (kh : (l.filter fun y => y.1 == "pedigree/print.hold") = [("pedigree/print.hold", Lib.tabData .i64 holdL)]) (kb : (l.filter fun y => y.1 == "math/bits.deBruijn64tab") = [("math/bits.deBruijn64tab", Lib.tabData .u8 db64L)])
    (ks : (l.filter fun y => y.1 == "pedigree/print.signs") = [("pedigree/print.signs", .agg ((signL.map bl).map fun s => .lit (.string s)))]) (kw : (l.filter fun y => y.1 == "pedigree/print.words") = [("pedigree/print.words", .agg ((wordL.map bl).map fun s => .lit (.string s)))]) : Tabs W := by
  have hp : Lib.TabIs Tryd.prog W "internal/strconv.uint64pow10" .u64 Lib.pow10Tab :=
    num_table h kp gPow (by kernel_rfl) (t := 189) (e := 167) (n := 20) (by kernel_rfl) (by kernel_rfl) (by kernel_rfl) (by kernel_rfl)
  have hh : Lib.TabIs Tryd.prog W "pedigree/print.hold" .i64 holdL :=
    num_table h kh (g := 0) (by kernel_rfl) (t := 122) (e := 3) (n := 11) (by kernel_rfl) (by kernel_rfl) (by kernel_rfl) (by kernel_rfl) (by kernel_rfl)
  have hb : Lib.TabIs Tryd.prog W "math/bits.deBruijn64tab" .u8 db64L :=
    num_table h kb (g := 8) (by kernel_rfl) (t := 196) (e := 5) (n := 64) (by kernel_rfl) (by kernel_rfl) (by kernel_rfl) (by kernel_rfl) (by kernel_rfl)
  refine ⟨lt_of_cell (hb.cell (g := 8) (by kernel_rfl) 0 (by decide)), hp, fun i hi => hh.cell (g := 0) (by kernel_rfl) i hi, fun i hi => ?_, fun i hi => ?_⟩
  · have h1 := str_table h (name := "pedigree/print.signs") (ss := signL.map bl) (g := 2) (t := 124) (n := 8) ks (by kernel_rfl) (by kernel_rfl) (by kernel_rfl) i hi
    rw [h1]
    have h2 : ∀ j, j < 8 → (⟨((signL.map bl).getD j []).toArray⟩ : ByteArray) = signL.getD j ⟨#[]⟩ := by decide
    rw [h2 i hi]
  · have h1 := str_table h (name := "pedigree/print.words") (ss := wordL.map bl) (g := 1) (t := 123) (n := 11) kw (by kernel_rfl) (by kernel_rfl) (by kernel_rfl) i hi
    rw [h1]
    have h2 : ∀ j, j < 11 → (⟨((wordL.map bl).getD j []).toArray⟩ : ByteArray) = wordL.getD j ⟨#[]⟩ := by decide
    rw [h2 i hi]
/-- A block of the heap with other cells. -/
def layCells (h : Array Obj) (g : Nat) (cs : Array Value) : Array Obj := h.modify g fun
  | .cells _ t frozen => .cells cs t frozen
  | o => o
def ints (k : IntKind) (zs : List Int) : Array Value := (zs.map fun z => Value.int k z).toArray
def strs (ss : List ByteArray) : Array Value := (ss.map fun s => Value.string s).toArray
/-- A world for a witness: the settled one, six tables laid. -/
noncomputable def laidWorld6 (os : Os) : World :=
  { World.holding Tryd.prog os ⟨#[], #[], []⟩ with heap := layCells (layCells (layCells (layCells (layCells (layCells (World.holding Tryd.prog os ⟨#[], #[], []⟩).heap
      6 (ints .u64 Lib.pow10Tab)) 7 (ints .u8 db32L)) 8 (ints .u8 db64L)) 0 (ints .i64 holdL)) 2 (strs signL)) 1 (strs wordL) }
end Go.Proofs.YtlghiakckkhekaaDoor
