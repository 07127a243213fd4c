/- The statement on terms: print.Term answers for every term the text that the reference's Term answers, or the error, and the first examples hold. Conditions: the tables that the program lays at its start hold what its text lays there. -/
import Derived.Test.YtlghiakckkhekaaDoorCards
import Derived.Test.YtlghiakckkhekaaDoorTie
import Derived.Test.YtlghiakckkhekaaDoorW29
import Derived.Test.YtlghiakckkhekaaDoorRd
import Derived.WalkKit
import Derived.ProofKit
import Derived.OpenShut
import Derived.Deep.DeepHandedRow
namespace Go.Proofs.YtlghiakckkhekaaDoor
open Go.ChangeShapes Go.WideShapes Go.ChangeAt Go.RowKit

theorem lt_of_cell {w : World} {g i : Nat} {v : Value} (h : w.cell? ⟨g, i, none⟩ = some v) : g < w.heap.size := by
  by_cases hlt : g < w.heap.size
  · exact hlt
  · exfalso
    simp [World.cell?, Array.getElem?_eq_none (Nat.le_of_not_lt hlt)] at h
/-- math/bits's two tables. -/
def db64L : List Int := [0, 1, 56, 2, 57, 49, 28, 3, 61, 58, 42, 50, 38, 29, 17, 4, 62, 47, 59, 36, 45, 43, 51, 22, 53, 39, 33, 30, 24, 18, 12, 5, 63, 55, 48, 27, 60, 41, 37, 16, 46, 35, 44, 21, 52, 32, 23, 11, 54, 26, 40, 15, 34, 20, 31, 10, 25, 14, 19, 9, 13, 8, 7, 6]
def db32L : List Int := [0, 1, 28, 2, 29, 14, 24, 3, 30, 22, 20, 15, 25, 17, 4, 8, 31, 27, 13, 23, 21, 19, 16, 7, 26, 12, 18, 6, 11, 5, 10, 9]
/-- What the row's list gives: the tables. -/
theorem tabsT {W : World} (h : laidMetH Tryd.prog Rows.printTermsRow.laid W) : Tabs W := by
  have hp : Lib.TabIs Tryd.prog W "internal/strconv.uint64pow10" .u64 Lib.pow10Tab :=
    num_table h (by kernel_rfl) gPow (by kernel_rfl) (t := 189) (e := 167) (n := 20) (by kernel_rfl) (by kernel_rfl) (by kernel_rfl) (by kernel_rfl)
  have hh : Lib.TabIs Tryd.prog W "pedigree/print.hold" .i64 holdL :=
    num_table h (by kernel_rfl) (g := 0) (by kernel_rfl) (t := 122) (e := 3) (n := 11) (by kernel_rfl) (by kernel_rfl) (by kernel_rfl) (by kernel_rfl) (by kernel_rfl)
  have hb : Lib.TabIs Tryd.prog W "math/bits.deBruijn64tab" .u8 db64L :=
    num_table h (by kernel_rfl) (g := 8) (by kernel_rfl) (t := 196) (e := 5) (n := 64) (by kernel_rfl) (by kernel_rfl) (by kernel_rfl) (by kernel_rfl) (by kernel_rfl)
  refine ⟨lt_of_cell (hb.cell (g := 8) (by kernel_rfl) 0 (by decide)), hp, fun i hi => hh.cell (g := 0) (by kernel_rfl) i hi, fun i hi => ?_, fun i hi => ?_⟩
  · have h1 := str_table h (name := "pedigree/print.signs") (ss := signL.map bl) (g := 2) (t := 124) (n := 8) (by kernel_rfl) (by kernel_rfl) (by kernel_rfl) (by kernel_rfl) i hi
    rw [h1]
    have h2 : ∀ j, j < 8 → (⟨((signL.map bl).getD j []).toArray⟩ : ByteArray) = signL.getD j ⟨#[]⟩ := by decide
    rw [h2 i hi]
  · have h1 := str_table h (name := "pedigree/print.words") (ss := wordL.map bl) (g := 1) (t := 123) (n := 11) (by kernel_rfl) (by kernel_rfl) (by kernel_rfl) (by kernel_rfl) i hi
    rw [h1]
    have h2 : ∀ j, j < 11 → (⟨((wordL.map bl).getD j []).toArray⟩ : ByteArray) = wordL.getD j ⟨#[]⟩ := by decide
    rw [h2 i hi]
set_option maxRecDepth 100000 in
/-- What the walk gives, for every term and every world that holds the tables. -/
theorem contractT (H : Type) (enc : TypeId × Value → H) (W : World) (base : Nat) (args : Array Value) (ds gs : List (DataW H)) (before : List MemPlace)
    (hval : ∀ (j : Nat) t v, Tryd.f3.params[j]? = some t → args[j]? = some v → Value.okWide Tryd.prog W .any base t v)
    (hW : DataW.Whole enc Tryd.prog Tryd.f3.params.toList Rows.printTermsSpec.vars false W args.toList ds gs before) (hL : laidMetH Tryd.prog Rows.printTermsRow.laid W) :
    Calls Tryd.prog 3 args W fun e W' => ∃ v, e = .returned v ∧ Rows.printTermsSpec.post enc Tryd.prog Tryd.f3 false true false false W args v W' := by
  have hW' := hW
  obtain ⟨p, q, hA0, hV, rfl, hfz, hnd⟩ := hW
  have hA : DataW.TrodAll enc Tryd.prog W 0 (fun _ => true) true Tryd.f3.params.toList args.toList ds p := hA0
  rw [Tryd.params3] at hA hval
  obtain ⟨v0, vs0, d0, ds0, p0, q0, hargs, rfl, rfl, h0, r0⟩ := trodAll_cons hA
  obtain ⟨rfl, rfl, rfl⟩ := trodAll_nil r0
  obtain rfl : args = #[v0] := by cases args; simp_all
  obtain ⟨rfl, rfl⟩ := trodVars_none hV
  obtain ⟨s, k, n, t, rfl, hr⟩ := open_term (hval 0 27 _ rfl rfl) h0
  refine (printTerms s k n t W hr (tabsT hL)).mono fun e W' ⟨he, hb⟩ => ?_
  subst he
  exact ⟨_, rfl, post_law hW' rfl (by rw [Tryd.params3]; decide) (by kernel_rfl) rfl hb⟩

/-- A block of the heap with other cells. -/
def layCells (h : Array Obj) (g : Nat) (cs : Array Value) : Array Obj := h.modify g fun
  | .cells _ t frozen => .cells cs t frozen
  | o => o
def ints (k : IntKind) (zs : List Int) : Array Value := (zs.map fun z => Value.int k z).toArray
def strs (ss : List ByteArray) : Array Value := (ss.map fun s => Value.string s).toArray
/-- A world for the witness: the settled one, the tables laid. -/
noncomputable def laidWorldT (os : Os) : World :=
  { World.holding Tryd.prog os ⟨#[], #[], []⟩ with heap := layCells (layCells (layCells (layCells (layCells (layCells (World.holding Tryd.prog os ⟨#[], #[], []⟩).heap
      6 (ints .u64 Lib.pow10Tab)) 7 (ints .u8 db32L)) 8 (ints .u8 db64L)) 0 (ints .i64 holdL)) 2 (strs signL)) 1 (strs wordL) }
def argT : Array Value := #[.agg #[.string ⟨#[]⟩, .int .i8 0, .int .i64 0, .string ⟨#[]⟩]]
theorem laid_metT (os : Os) : laidMet Tryd.prog Rows.printTermsRow.laid ((laidWorldT os).forCall (fun _ _ => 0) ⟨#[], argT, []⟩).memory :=
  laidMet_of_run' 8 (by kernel_rfl) (by kernel_rfl)
theorem readsT (os : Os) {H : Type} (enc : TypeId × Value → H) : ∃ places, DataW.whole enc Tryd.prog ((laidWorldT os).forCall (fun _ _ => 0) ⟨#[], argT, []⟩).memory Tryd.f3.params.toList Rows.printTermsSpec.vars false argT.toList 8 =
    some ([.agg [.lit (.string []), .agg [.lit (.int .i8 0), .lit (.int .i64 0), .lit (.string [])]]], [], places) :=
  ⟨[], by kernel_rfl⟩

set_option maxRecDepth 100000 in
theorem liftedT (os : Os) (started : os.Started) (H : Type) (enc : TypeId × Value → H) (F : Stop.Interp) :
    ReturnsInHanded {} Tryd.checked os 3 .any ((OpenSpec.ofChange Rows.printTermsSpec).preRow enc Tryd.prog Tryd.f3 Rows.printTermsRow.domain false Rows.printTermsRow.laid) (((OpenSpec.ofChange Rows.printTermsSpec).at F).post enc Tryd.prog Tryd.f3 false true false false) := by
  obtain ⟨places, hx⟩ := readsT os enc
  refine returnsInHanded_of_row (C := Tryd.checked) (s := OpenSpec.ofChange Rows.printTermsSpec) own started (by kernel_rfl) Tryd.func3
    (witness_row_at (enc := enc) (C := Tryd.checked) false (laidWorldT os) argT rfl (by kernel_rfl) (by kernel_rfl) (by kernel_rfl)
      (OpenSpec.preRow_of_cond 8 hx (by kernel_rfl) (fun k hk => by cases hk) (by kernel_rfl) (laid_metT os))) ?_
  intro W base args ds gs before hval hW _ _ _ hL _ _
  exact contractT H enc W base args ds gs before hval hW hL
theorem saidT : Rows.PrintTermsSaid :=
  OpenClaim.holds_of_cond 3 Tryd.f3 rfl rfl rfl rfl rfl rfl rfl ⟨rfl, rfl, rfl, rfl, rfl⟩ rfl rfl rfl rfl rfl (by kernel_rfl) Tryd.func3 (by kernel_rfl)
    (of_decide_eq_true (by kernel_rfl)) (by unfold Func.isWrapper; first | (rw [if_pos (by decide +kernel)]; kernel_rfl) | (rw [if_neg (by decide +kernel)]; exact ⟨rfl, rfl⟩))
    (fun os started H enc _ F => by rw [OpenClaim.pre_eq_preRow]; exact liftedT os started H enc F)
/-- No parameter wants a stand-in; the program's own looks are on: what the card asks. -/
theorem plainT (f : FuncId) (fn : Func) (hf : Tryd.pinned.checked.prog.funcNamed "pedigree/pedigreelaw06.PrintTerms" = some f) (hfn : Tryd.pinned.checked.prog.funcs[f]? = some fn) :
    true = Tryd.pinned.checked.prog.looks [] ∧ ∀ (j : Nat) t, fn.params[j]? = some t → Tryd.pinned.checked.prog.wantsStandIn t = false := by
  obtain rfl : f = 3 := Option.some.inj ((show Tryd.prog.funcNamed "pedigree/pedigreelaw06.PrintTerms" = some 3 by kernel_rfl).symm.trans hf) |>.symm
  obtain rfl : fn = Tryd.f3 := (Option.some.inj (Tryd.func3.symm.trans hfn)).symm
  refine ⟨by kernel_rfl, fun j t ht => ?_⟩
  rw [Tryd.params3] at ht
  obtain rfl : t = 27 := by simpa using Array.mem_of_getElem? ht
  exact (show Tryd.prog.wantsStandIn 27 = false by kernel_rfl)
/-- The card. -/
theorem printTerms_card : Rows.PrintTermsCardSaid :=
  Claim7.holds_tied_plain_at .later [] _ _ _ _ saidT (fun _ h => by cases h) (by kernel_rfl) (fun _ h => by cases h) printTerms_row_tie rfl ⟨rfl, rfl⟩ (by kernel_rfl) rfl plainT (by kernel_rfl)
end Go.Proofs.YtlghiakckkhekaaDoor
