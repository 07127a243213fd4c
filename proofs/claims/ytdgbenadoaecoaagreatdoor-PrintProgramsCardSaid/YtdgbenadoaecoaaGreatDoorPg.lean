/- The statement PrintPrograms: print.Program answers for every program the text that the reference answers, or the error; what is handed in stays; the first examples hold. Conditions: the tables that the program lays at its start hold what its text lays there. -/
import Derived.Test.YtdgbenadoaecoaaGreatDoorCards
import Derived.Test.YtdgbenadoaecoaaGreatDoorTie
import Derived.Test.YtdgbenadoaecoaaGreatDoorS34
import Derived.WalkKit
import Derived.ProofKit
import Derived.OpenShut
import Derived.SizedLaws
import Derived.Deep.DeepHandedRow
namespace Go.Proofs.YtdgbenadoaecoaaGreatDoor
open Go.ChangeShapes Go.WideShapes Go.ChangeAt Go.RowKit

theorem rels_ofPg {W : World} {l : List (String × DataW Unit)} (h : laidMetH Tryz.prog l W) (hs : 9 ≤ W.heap.size) (kr : (l.filter fun y => y.1 == "pedigree/print.rels") = [("pedigree/print.rels", .agg ((relL.map bl).map fun s => .lit (.string s)))]) : RelsAt W := by
  refine ⟨hs, fun i hi => ?_⟩
  have h1 := str_table h (name := "pedigree/print.rels") (ss := relL.map bl) (g := 4) (t := 156) (n := 7) kr (by kernel_rfl) (by kernel_rfl) (by kernel_rfl) i hi
  rw [h1]
  have h2 : ∀ j, j < 7 → (⟨((relL.map bl).getD j []).toArray⟩ : ByteArray) = relL.getD j ⟨#[]⟩ := by decide
  rw [h2 i hi]
/-- A world for a witness: the relations' table laid, too. -/
noncomputable def laidWorldPg (os : Os) : World := { laidWorld6 os with heap := layCells (laidWorld6 os).heap 4 (strs relL) }
theorem folds_ofPg {W : World} {l : List (String × DataW Unit)} (h : laidMetH Tryz.prog l W) (hs : 9 ≤ W.heap.size) (kr : (l.filter fun y => y.1 == "pedigree/print.folds") = [("pedigree/print.folds", .agg ((foldsL.map bl).map fun s => .lit (.string s)))]) : FoldsAt W := by
  refine ⟨hs, fun i hi => ?_⟩
  have h1 := str_table h (name := "pedigree/print.folds") (ss := foldsL.map bl) (g := 0) (t := 131) (n := 5) kr (by kernel_rfl) (by kernel_rfl) (by kernel_rfl) i hi
  rw [h1]
  have h2 : ∀ j, j < 5 → (⟨((foldsL.map bl).getD j []).toArray⟩ : ByteArray) = foldsL.getD j ⟨#[]⟩ := by decide
  rw [h2 i hi]
/-- A world for a witness: the aggregates' table laid, too. -/
noncomputable def laidWorldFPg (os : Os) : World := { laidWorldPg os with heap := layCells (laidWorldPg os).heap 0 (strs foldsL) }
set_option maxRecDepth 100000 in
/-- What the walk gives, for every input and every world that holds the tables. -/
theorem contractPg (H : Type) (enc : TypeId × Value → H) (W : World) (base : Nat) (args : Array Value) (ds gs : List (DataW H)) (before : List MemPlace)
    (hval : ∀ (j : Nat) t v, Tryz.f4.params[j]? = some t → args[j]? = some v → Value.okWide Tryz.prog W .any base t v)
    (hW : DataW.Whole enc Tryz.prog Tryz.f4.params.toList Rows.printProgramsSpec.vars false W args.toList ds gs before)
    (hsz : (DataW.weightsEach Tryz.prog (Tryz.f4.params.toList ++ (OpenSpec.ofChange Rows.printProgramsSpec).bare.plain.varTypes Tryz.prog) (ds ++ gs)).all (· ≤ reachBytes) = true) (hL : laidMetH Tryz.prog Rows.printProgramsRow.laid W) (h9 : 9 ≤ W.heap.size) :
    Calls Tryz.prog 4 args W fun e W' => ∃ v, e = .returned v ∧ Rows.printProgramsSpec.post enc Tryz.prog Tryz.f4 false true false false W args v W' := by
  have hW' := hW
  obtain ⟨p, q, hA0, hV, rfl, hfz, hnd⟩ := hW
  have hA : DataW.TrodAll enc Tryz.prog W 0 (fun _ => true) true Tryz.f4.params.toList args.toList ds p := hA0
  rw [Tryz.params4] at hA hval
  obtain ⟨v0, vs0, d0, ds0, p0, q0, hargs, rfl, rfl, h0, r0⟩ := trodAll_cons hA
  obtain ⟨rfl, rfl, rfl⟩ := trodAll_nil r0
  obtain rfl : args = #[v0] := by cases args; simp_all
  obtain ⟨rfl, rfl⟩ := trodVars_none hV
  have hw0 : ∀ n ∈ d0.weights Tryz.prog 33, n ≤ reachBytes := fun n hn => by
    have h1 := List.all_eq_true.1 hsz n (DataW.weights_mem_each (j := 0) (t := 33) (d := d0) (by kernel_rfl) rfl n hn)
    simpa using h1
  obtain ⟨d, a0, cap, l, rfl, hx, hr, hb⟩ := open_rules (hval 0 33 _ rfl rfl) h0 hw0
  refine (printPrograms d a0 cap l W hx hr hb (tabs_of9 hL h9 (by kernel_rfl) (by kernel_rfl) (by kernel_rfl) (by kernel_rfl)) (rels_ofPg hL h9 (by kernel_rfl)) (folds_ofPg hL h9 (by kernel_rfl))).mono fun e W' ⟨he, hb⟩ => ?_
  subst he
  exact ⟨_, rfl, post_law hW' rfl (by rw [Tryz.params4]; decide) (by kernel_rfl) rfl hb⟩
def argPg : Array Value := #[.slice none 0 0]
theorem laid_metPg (os : Os) : laidMet Tryz.prog Rows.printProgramsRow.laid ((laidWorldFPg os).forCall (fun _ _ => 0) ⟨#[], argPg, []⟩).memory :=
  laidMet_of_run' 8 (by kernel_rfl) (by kernel_rfl)
theorem readsPg (os : Os) {H : Type} (enc : TypeId × Value → H) : ∃ places, DataW.whole enc Tryz.prog ((laidWorldFPg os).forCall (fun _ _ => 0) ⟨#[], argPg, []⟩).memory Tryz.f4.params.toList Rows.printProgramsSpec.vars false argPg.toList 8 =
    some ([.nil], [], places) :=
  ⟨[], by kernel_rfl⟩
set_option maxRecDepth 100000 in
theorem liftedPg (os : Os) (started : os.Started) (H : Type) (enc : TypeId × Value → H) (F : Stop.Interp) :
    ReturnsInHanded {} Tryz.checked os 4 .any ((OpenSpec.ofChange Rows.printProgramsSpec).preRow enc Tryz.prog Tryz.f4 Rows.printProgramsRow.domain false Rows.printProgramsRow.laid) (((OpenSpec.ofChange Rows.printProgramsSpec).at F).post enc Tryz.prog Tryz.f4 false true false false) := by
  obtain ⟨places, hx⟩ := readsPg os enc
  refine returnsInHanded_of_row (C := Tryz.checked) (s := OpenSpec.ofChange Rows.printProgramsSpec) own started (by kernel_rfl) Tryz.func4
    (witness_row_at (enc := enc) (C := Tryz.checked) false (laidWorldFPg os) argPg rfl (by kernel_rfl) (by kernel_rfl) (by kernel_rfl)
      (OpenSpec.preRow_of_cond 8 hx (by kernel_rfl) (fun k hk => by cases hk) (by kernel_rfl) (laid_metPg os))) ?_
  intro W base args ds gs before hval hW _ _ hsz hL hsh _
  exact contractPg H enc W base args ds gs before hval hW hsz hL (size9 hsh)
theorem saidPg : Rows.PrintProgramsSaid :=
  OpenClaim.holds_of_cond 4 Tryz.f4 rfl rfl rfl rfl rfl rfl rfl ⟨rfl, rfl, rfl, rfl, rfl⟩ rfl rfl rfl rfl rfl (by kernel_rfl) Tryz.func4 (by kernel_rfl)
    (of_decide_eq_true (by kernel_rfl)) (by unfold Func.isWrapper; first | (rw [if_pos (by decide +kernel)]; kernel_rfl) | (rw [if_neg (by decide +kernel)]; exact ⟨rfl, rfl⟩))
    (fun os started H enc _ F => by rw [OpenClaim.pre_eq_preRow]; exact liftedPg os started H enc F)
/-- No parameter wants a stand-in; the program's own looks are on: what the card asks. -/
theorem plainPg (f : FuncId) (fn : Func) (hf : Tryz.pinned.checked.prog.funcNamed "pedigree/pedigreelaw06.PrintPrograms" = some f) (hfn : Tryz.pinned.checked.prog.funcs[f]? = some fn) :
    true = Tryz.pinned.checked.prog.looks [] ∧ ∀ (j : Nat) t, fn.params[j]? = some t → Tryz.pinned.checked.prog.wantsStandIn t = false := by
  obtain rfl : f = 4 := Option.some.inj ((show Tryz.prog.funcNamed "pedigree/pedigreelaw06.PrintPrograms" = some 4 by kernel_rfl).symm.trans hf) |>.symm
  obtain rfl : fn = Tryz.f4 := (Option.some.inj (Tryz.func4.symm.trans hfn)).symm
  refine ⟨by kernel_rfl, fun j t ht => ?_⟩
  rw [Tryz.params4] at ht
  obtain rfl : t = 33 := by simpa using Array.mem_of_getElem? ht
  exact (show Tryz.prog.wantsStandIn 33 = false by kernel_rfl)
/-- The card. -/
theorem printPrograms_card : Rows.PrintProgramsCardSaid :=
  Claim7.holds_tied_plain_at .later [] _ _ _ _ saidPg (fun _ h => by cases h) (by kernel_rfl) (fun _ h => by cases h) printPrograms_row_tie rfl ⟨rfl, rfl⟩ (by kernel_rfl) rfl plainPg (by kernel_rfl)
end Go.Proofs.YtdgbenadoaecoaaGreatDoor
