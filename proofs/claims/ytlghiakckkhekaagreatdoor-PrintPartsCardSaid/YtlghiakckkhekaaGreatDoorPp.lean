/- The statement PrintParts: print.Atom, print.Query and print.Literal answer for every atom and literal the texts that the reference answers, or the error; what is handed in stays; the first examples hold. Conditions: the tables that the program lays at its start hold what its text lays there. -/
import Derived.Test.YtlghiakckkhekaaGreatDoorCards
import Derived.Test.YtlghiakckkhekaaGreatDoorTie
import Derived.Test.YtlghiakckkhekaaGreatDoorF4
import Derived.Test.YtlghiakckkhekaaGreatDoorRy
import Derived.WalkKit
import Derived.ProofKit
import Derived.OpenShut
import Derived.SizedLaws
import Derived.Deep.DeepHandedRow
namespace Go.Proofs.YtlghiakckkhekaaGreatDoor
open Go.ChangeShapes Go.WideShapes Go.ChangeAt Go.RowKit

theorem rels_ofPp {W : World} {l : List (String × DataW Unit)} (h : laidMetH Tryz.prog l W) (hs : 9 ≤ W.heap.size) (kr : (l.filter fun y => y.1 == "pedigree/print.rels") = [("pedigree/print.rels", .agg ((relL.map bl).map fun s => .lit (.string s)))]) : RelsAt W := by
  refine ⟨hs, fun i hi => ?_⟩
  have h1 := str_table h (name := "pedigree/print.rels") (ss := relL.map bl) (g := 0) (t := 154) (n := 7) kr (by kernel_rfl) (by kernel_rfl) (by kernel_rfl) i hi
  rw [h1]
  have h2 : ∀ j, j < 7 → (⟨((relL.map bl).getD j []).toArray⟩ : ByteArray) = relL.getD j ⟨#[]⟩ := by decide
  rw [h2 i hi]
/-- A world for a witness: the relations' table laid, too. -/
noncomputable def laidWorldPp (os : Os) : World := { laidWorld6 os with heap := layCells (laidWorld6 os).heap 0 (strs relL) }
set_option maxRecDepth 100000 in
/-- What the walk gives, for every input and every world that holds the tables. -/
theorem contractPp (H : Type) (enc : TypeId × Value → H) (W : World) (base : Nat) (args : Array Value) (ds gs : List (DataW H)) (before : List MemPlace)
    (hval : ∀ (j : Nat) t v, Tryz.f3.params[j]? = some t → args[j]? = some v → Value.okWide Tryz.prog W .any base t v)
    (hW : DataW.Whole enc Tryz.prog Tryz.f3.params.toList Rows.printPartsSpec.vars false W args.toList ds gs before)
    (hsz : (DataW.weightsEach Tryz.prog (Tryz.f3.params.toList ++ (OpenSpec.ofChange Rows.printPartsSpec).bare.plain.varTypes Tryz.prog) (ds ++ gs)).all (· ≤ reachBytes) = true) (hL : laidMetH Tryz.prog Rows.printPartsRow.laid W) (h9 : 9 ≤ W.heap.size) :
    Calls Tryz.prog 3 args W fun e W' => ∃ v, e = .returned v ∧ Rows.printPartsSpec.post enc Tryz.prog Tryz.f3 false true false false W args v W' := by
  have hW' := hW
  obtain ⟨p, q, hA0, hV, rfl, hfz, hnd⟩ := hW
  have hA : DataW.TrodAll enc Tryz.prog W 0 (fun _ => true) true Tryz.f3.params.toList args.toList ds p := hA0
  rw [Tryz.params3] at hA hval
  obtain ⟨v0, vs0, d0, ds0, p0, q0, hargs, rfl, rfl, h0, r0⟩ := trodAll_cons hA
  obtain ⟨v1, vs1, d1, ds1, p1, q1, hargs1, rfl, rfl, h1, r1⟩ := trodAll_cons r0
  obtain ⟨hnil, rfl, rfl⟩ := trodAll_nil r1
  subst hnil
  subst hargs1
  obtain rfl : args = #[v0, v1] := by cases args; simp_all
  obtain ⟨rfl, rfl⟩ := trodVars_none hV
  have hw0 : ∀ n ∈ d0.weights Tryz.prog 24, n ≤ reachBytes := fun n hn => by
    have h1 := List.all_eq_true.1 hsz n (DataW.weights_mem_each (j := 0) (t := 24) (d := d0) (by kernel_rfl) rfl n hn)
    simpa using h1
  have hw1 : ∀ n ∈ d1.weights Tryz.prog 38, n ≤ reachBytes := fun n hn => by
    have h1 := List.all_eq_true.1 hsz n (DataW.weights_mem_each (j := 1) (t := 38) (d := d1) (by kernel_rfl) rfl n hn)
    simpa using h1
  obtain ⟨p0, sv, ts, rfl, hp, hts, htr, htb⟩ := open_atom (hval 0 24 _ rfl rfl) h0 hw0
  obtain ⟨d, x, rfl, hx, hr, hb⟩ := open_lit (hval 1 38 _ rfl rfl) h1 hw1
  refine (printParts d p0 sv ts x W hp hts htr htb hx hr hb (tabs_of9 hL h9 (by kernel_rfl) (by kernel_rfl) (by kernel_rfl) (by kernel_rfl)) (rels_ofPp hL h9 (by kernel_rfl))).mono fun e W' ⟨he, hb⟩ => ?_
  subst he
  exact ⟨_, rfl, post_law hW' rfl (by rw [Tryz.params3]; decide) (by kernel_rfl) rfl hb⟩
def argPp : Array Value := #[.agg #[.string ⟨#[]⟩, .slice none 0 0], .agg #[.int .i8 0, .string ⟨#[]⟩, .slice none 0 0, .int .i8 0, .int .i8 0, .string ⟨#[]⟩, .int .i8 0, .int .i64 0, .string ⟨#[]⟩, .slice none 0 0, .int .i8 0, .string ⟨#[]⟩, .int .i8 0, .int .i64 0, .string ⟨#[]⟩, .slice none 0 0]]
theorem laid_metPp (os : Os) : laidMet Tryz.prog Rows.printPartsRow.laid ((laidWorldPp os).forCall (fun _ _ => 0) ⟨#[], argPp, []⟩).memory :=
  laidMet_of_run' 8 (by kernel_rfl) (by kernel_rfl)
theorem readsPp (os : Os) {H : Type} (enc : TypeId × Value → H) : ∃ places, DataW.whole enc Tryz.prog ((laidWorldPp os).forCall (fun _ _ => 0) ⟨#[], argPp, []⟩).memory Tryz.f3.params.toList Rows.printPartsSpec.vars false argPp.toList 8 =
    some ([.agg [.lit (.string []), .nil], .agg [.lit (.int .i8 0), .agg [.lit (.string []), .nil], .lit (.int .i8 0), .agg [.lit (.int .i8 0), .agg [.lit (.string []), .agg [.lit (.int .i8 0), .lit (.int .i64 0), .lit (.string [])]], .nil], .agg [.lit (.int .i8 0), .agg [.lit (.string []), .agg [.lit (.int .i8 0), .lit (.int .i64 0), .lit (.string [])]], .nil]]], [], places) :=
  ⟨[], by kernel_rfl⟩
set_option maxRecDepth 100000 in
theorem liftedPp (os : Os) (started : os.Started) (H : Type) (enc : TypeId × Value → H) (F : Stop.Interp) :
    ReturnsInHanded {} Tryz.checked os 3 .any ((OpenSpec.ofChange Rows.printPartsSpec).preRow enc Tryz.prog Tryz.f3 Rows.printPartsRow.domain false Rows.printPartsRow.laid) (((OpenSpec.ofChange Rows.printPartsSpec).at F).post enc Tryz.prog Tryz.f3 false true false false) := by
  obtain ⟨places, hx⟩ := readsPp os enc
  refine returnsInHanded_of_row (C := Tryz.checked) (s := OpenSpec.ofChange Rows.printPartsSpec) own started (by kernel_rfl) Tryz.func3
    (witness_row_at (enc := enc) (C := Tryz.checked) false (laidWorldPp os) argPp rfl (by kernel_rfl) (by kernel_rfl) (by kernel_rfl)
      (OpenSpec.preRow_of_cond 8 hx (by kernel_rfl) (fun k hk => by cases hk) (by kernel_rfl) (laid_metPp os))) ?_
  intro W base args ds gs before hval hW _ _ hsz hL hsh _
  exact contractPp H enc W base args ds gs before hval hW hsz hL (size9 hsh)
theorem saidPp : Rows.PrintPartsSaid :=
  OpenClaim.holds_of_cond 3 Tryz.f3 rfl rfl rfl rfl rfl rfl rfl ⟨rfl, rfl, rfl, rfl, rfl⟩ rfl rfl rfl rfl rfl (by kernel_rfl) Tryz.func3 (by kernel_rfl)
    (of_decide_eq_true (by kernel_rfl)) (by unfold Func.isWrapper; first | (rw [if_pos (by decide +kernel)]; kernel_rfl) | (rw [if_neg (by decide +kernel)]; exact ⟨rfl, rfl⟩))
    (fun os started H enc _ F => by rw [OpenClaim.pre_eq_preRow]; exact liftedPp os started H enc F)
/-- No parameter wants a stand-in; the program's own looks are on: what the card asks. -/
theorem plainPp (f : FuncId) (fn : Func) (hf : Tryz.pinned.checked.prog.funcNamed "pedigree/pedigreelaw06.PrintParts" = some f) (hfn : Tryz.pinned.checked.prog.funcs[f]? = some fn) :
    true = Tryz.pinned.checked.prog.looks [] ∧ ∀ (j : Nat) t, fn.params[j]? = some t → Tryz.pinned.checked.prog.wantsStandIn t = false := by
  obtain rfl : f = 3 := Option.some.inj ((show Tryz.prog.funcNamed "pedigree/pedigreelaw06.PrintParts" = some 3 by kernel_rfl).symm.trans hf) |>.symm
  obtain rfl : fn = Tryz.f3 := (Option.some.inj (Tryz.func3.symm.trans hfn)).symm
  refine ⟨by kernel_rfl, fun j t ht => ?_⟩
  rw [Tryz.params3] at ht
  obtain rfl | rfl : t = 24 ∨ t = 38 := by simpa using Array.mem_of_getElem? ht
  · exact (show Tryz.prog.wantsStandIn 24 = false by kernel_rfl)
  · exact (show Tryz.prog.wantsStandIn 38 = false by kernel_rfl)
/-- The card. -/
theorem printParts_card : Rows.PrintPartsCardSaid :=
  Claim7.holds_tied_plain_at .later [] _ _ _ _ saidPp (fun _ h => by cases h) (by kernel_rfl) (fun _ h => by cases h) printParts_row_tie rfl ⟨rfl, rfl⟩ (by kernel_rfl) rfl plainPp (by kernel_rfl)
end Go.Proofs.YtlghiakckkhekaaGreatDoor
