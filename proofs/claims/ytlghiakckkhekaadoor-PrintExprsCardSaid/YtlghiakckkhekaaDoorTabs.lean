/- The program's tables, as a world holds them. Conditions: none. -/
import Derived.Test.YtlghiakckkhekaaDoorProg
import Derived.Test.YtlghiakckkhekaaDoorAux
import Derived.WalkSmall
import Derived.Lib.LaidTab
import Derived.Lib.ItoaMem
namespace Go.Proofs.YtlghiakckkhekaaDoor
open Go.RowKit

def holdL : List Int := [4, 3, 1, 1, 2, 2, 2, 1, 4, 4, 4]
def signL : List ByteArray := [⟨#[]⟩, ⟨#[]⟩, ⟨#[43]⟩, ⟨#[45]⟩, ⟨#[42]⟩, ⟨#[47]⟩, ⟨#[37]⟩, ⟨#[38]⟩]
def wordL : List ByteArray := [⟨#[]⟩, ⟨#[]⟩, ⟨#[]⟩, ⟨#[]⟩, ⟨#[]⟩, ⟨#[]⟩, ⟨#[]⟩, ⟨#[]⟩, ⟨#[108, 101, 110]⟩, ⟨#[99, 104, 97, 114, 115]⟩, ⟨#[98, 97, 99, 107]⟩]
/-- What a world holds of the tables. -/
structure Tabs (w : World) : Prop where
  size : 9 ≤ w.heap.size
  pow : Lib.TabIs Tryd.prog w "internal/strconv.uint64pow10" .u64 Lib.pow10Tab
  hold : ∀ i, i < 11 → w.cell? ⟨0, i, none⟩ = some (.int .i64 (holdL.getD i 0))
  signs : ∀ i, i < 8 → w.cell? ⟨2, i, none⟩ = some (.string (signL.getD i ⟨#[]⟩))
  words : ∀ i, i < 11 → w.cell? ⟨1, i, none⟩ = some (.string (wordL.getD i ⟨#[]⟩))
theorem gPow : Tryd.prog.globalNamed "internal/strconv.uint64pow10" = some 6 := by kernel_rfl
theorem Tabs.up {B : Nat} {w w' : World} (h : Tabs w) (hb : Below B w w') (hB : 9 ≤ B) : Tabs w' :=
  ⟨Nat.le_trans h.size hb.size, var?_below hb gPow (by omega) h.pow, fun i hi => (hb.cell (p := ⟨0, i, none⟩) (by simp; omega)).trans (h.hold i hi),
    fun i hi => (hb.cell (p := ⟨2, i, none⟩) (by simp; omega)).trans (h.signs i hi), fun i hi => (hb.cell (p := ⟨1, i, none⟩) (by simp; omega)).trans (h.words i hi)⟩
theorem Tabs.at {w w' : World} (h : Tabs w) (hb : Below w.heap.size w w') : Tabs w' := h.up hb h.size
theorem Tabs.alloc {w : World} (h : Tabs w) (o : Obj) : Tabs (w.alloc o) := h.at ((Below.refl _ _).alloc (Nat.le_refl _) _)
end Go.Proofs.YtlghiakckkhekaaDoor
