/- The statement PrintFacts: print.Facts answers for every list of facts the text that the reference answers, or the error; what is handed in stays; the first examples hold. Conditions: the tables that the program lays at its start hold what its text lays there. -/
import Derived.Test.YtlghiakckkhekaaDoorCards
import Derived.Test.YtlghiakckkhekaaDoorTie
import Derived.Test.YtlghiakckkhekaaDoorV9
import Derived.Test.YtlghiakckkhekaaDoorRf
import Derived.WalkKit
import Derived.ProofKit
import Derived.OpenShut
import Derived.SizedLaws
import Derived.Deep.DeepHandedRow
namespace Go.Proofs.YtlghiakckkhekaaDoor
open Go.ChangeShapes Go.WideShapes Go.ChangeAt Go.RowKit

theorem kws_ofPf {W : World} {l : List (String × DataW Unit)} (h : laidMetH Tryd.prog l W) (hs : 9 ≤ W.heap.size) (kr : (l.filter fun y => y.1 == "pedigree/lex.keywords") = [("pedigree/lex.keywords", .agg ((kwT.map bl).map fun s => .lit (.string s)))]) : KwAt W := by
  refine ⟨hs, fun i hi => ?_⟩
  have h1 := str_table h (name := "pedigree/lex.keywords") (ss := kwT.map bl) (g := 4) (t := 124) (n := 8) kr (by kernel_rfl) (by kernel_rfl) (by kernel_rfl) i hi
  rw [h1]
  have h2 : ∀ j, j < 8 → (⟨((kwT.map bl).getD j []).toArray⟩ : ByteArray) = kwT.getD j ⟨#[]⟩ := by decide
  rw [h2 i hi]
/-- A world for a witness: the keywords' table laid, too. -/
noncomputable def laidWorldPf (os : Os) : World := { laidWorld6 os with heap := layCells (laidWorld6 os).heap 4 (strs kwT) }
set_option maxRecDepth 100000 in
/-- What the walk gives, for every input and every world that holds the tables. -/
theorem contractPf (H : Type) (enc : TypeId × Value → H) (W : World) (base : Nat) (args : Array Value) (ds gs : List (DataW H)) (before : List MemPlace)
    (hval : ∀ (j : Nat) t v, Tryd.f5.params[j]? = some t → args[j]? = some v → Value.okWide Tryd.prog W .any base t v)
    (hW : DataW.Whole enc Tryd.prog Tryd.f5.params.toList Rows.printFactsSpec.vars false W args.toList ds gs before)
    (hsz : (DataW.weightsEach Tryd.prog (Tryd.f5.params.toList ++ (OpenSpec.ofChange Rows.printFactsSpec).bare.plain.varTypes Tryd.prog) (ds ++ gs)).all (· ≤ reachBytes) = true) (hL : laidMetH Tryd.prog Rows.printFactsRow.laid W) (h9 : 9 ≤ W.heap.size) :
    Calls Tryd.prog 5 args W fun e W' => ∃ v, e = .returned v ∧ Rows.printFactsSpec.post enc Tryd.prog Tryd.f5 false true false false W args v W' := by
  have hW' := hW
  obtain ⟨p, q, hA0, hV, rfl, hfz, hnd⟩ := hW
  have hA : DataW.TrodAll enc Tryd.prog W 0 (fun _ => true) true Tryd.f5.params.toList args.toList ds p := hA0
  rw [Tryd.params5] at hA hval
  obtain ⟨v0, vs0, d0, ds0, p0, q0, hargs, rfl, rfl, h0, r0⟩ := trodAll_cons hA
  obtain ⟨rfl, rfl, rfl⟩ := trodAll_nil r0
  obtain rfl : args = #[v0] := by cases args; simp_all
  obtain ⟨rfl, rfl⟩ := trodVars_none hV
  have hw0 : ∀ n ∈ d0.weights Tryd.prog 41, n ≤ reachBytes := fun n hn => by
    have h1 := List.all_eq_true.1 hsz n (DataW.weights_mem_each (j := 0) (t := 41) (d := d0) (by kernel_rfl) rfl n hn)
    simpa using h1
  obtain ⟨a0, cap, l, rfl, hx, hr, hb⟩ := open_facts (hval 0 41 _ rfl rfl) h0 hw0
  refine (printFacts a0 cap l W hx hr hb (tabs_of9 hL h9 (by kernel_rfl) (by kernel_rfl) (by kernel_rfl) (by kernel_rfl)) (kws_ofPf hL h9 (by kernel_rfl))).mono fun e W' ⟨he, hb⟩ => ?_
  subst he
  exact ⟨_, rfl, post_law hW' rfl (by rw [Tryd.params5]; decide) (by kernel_rfl) rfl hb⟩
def argPf : Array Value := #[.slice none 0 0]
theorem laid_metPf (os : Os) : laidMet Tryd.prog Rows.printFactsRow.laid ((laidWorldPf os).forCall (fun _ _ => 0) ⟨#[], argPf, []⟩).memory :=
  laidMet_of_run' 8 (by kernel_rfl) (by kernel_rfl)
theorem readsPf (os : Os) {H : Type} (enc : TypeId × Value → H) : ∃ places, DataW.whole enc Tryd.prog ((laidWorldPf os).forCall (fun _ _ => 0) ⟨#[], argPf, []⟩).memory Tryd.f5.params.toList Rows.printFactsSpec.vars false argPf.toList 8 =
    some ([.nil], [], places) :=
  ⟨[], by kernel_rfl⟩
set_option maxRecDepth 100000 in
theorem liftedPf (os : Os) (started : os.Started) (H : Type) (enc : TypeId × Value → H) (F : Stop.Interp) :
    ReturnsInHanded {} Tryd.checked os 5 .any ((OpenSpec.ofChange Rows.printFactsSpec).preRow enc Tryd.prog Tryd.f5 Rows.printFactsRow.domain false Rows.printFactsRow.laid) (((OpenSpec.ofChange Rows.printFactsSpec).at F).post enc Tryd.prog Tryd.f5 false true false false) := by
  obtain ⟨places, hx⟩ := readsPf os enc
  refine returnsInHanded_of_row (C := Tryd.checked) (s := OpenSpec.ofChange Rows.printFactsSpec) own started (by kernel_rfl) Tryd.func5
    (witness_row_at (enc := enc) (C := Tryd.checked) false (laidWorldPf os) argPf rfl (by kernel_rfl) (by kernel_rfl) (by kernel_rfl)
      (OpenSpec.preRow_of_cond 8 hx (by kernel_rfl) (fun k hk => by cases hk) (by kernel_rfl) (laid_metPf os))) ?_
  intro W base args ds gs before hval hW _ _ hsz hL hsh _
  exact contractPf H enc W base args ds gs before hval hW hsz hL (size9 hsh)
theorem saidPf : Rows.PrintFactsSaid :=
  OpenClaim.holds_of_cond 5 Tryd.f5 rfl rfl rfl rfl rfl rfl rfl ⟨rfl, rfl, rfl, rfl, rfl⟩ rfl rfl rfl rfl rfl (by kernel_rfl) Tryd.func5 (by kernel_rfl)
    (of_decide_eq_true (by kernel_rfl)) (by unfold Func.isWrapper; first | (rw [if_pos (by decide +kernel)]; kernel_rfl) | (rw [if_neg (by decide +kernel)]; exact ⟨rfl, rfl⟩))
    (fun os started H enc _ F => by rw [OpenClaim.pre_eq_preRow]; exact liftedPf os started H enc F)
/-- No parameter wants a stand-in; the program's own looks are on: what the card asks. -/
theorem plainPf (f : FuncId) (fn : Func) (hf : Tryd.pinned.checked.prog.funcNamed "pedigree/pedigreelaw06.PrintFacts" = some f) (hfn : Tryd.pinned.checked.prog.funcs[f]? = some fn) :
    true = Tryd.pinned.checked.prog.looks [] ∧ ∀ (j : Nat) t, fn.params[j]? = some t → Tryd.pinned.checked.prog.wantsStandIn t = false := by
  obtain rfl : f = 5 := Option.some.inj ((show Tryd.prog.funcNamed "pedigree/pedigreelaw06.PrintFacts" = some 5 by kernel_rfl).symm.trans hf) |>.symm
  obtain rfl : fn = Tryd.f5 := (Option.some.inj (Tryd.func5.symm.trans hfn)).symm
  refine ⟨by kernel_rfl, fun j t ht => ?_⟩
  rw [Tryd.params5] at ht
  obtain rfl : t = 41 := by simpa using Array.mem_of_getElem? ht
  exact (show Tryd.prog.wantsStandIn 41 = false by kernel_rfl)
/-- The card. -/
theorem printFacts_card : Rows.PrintFactsCardSaid :=
  Claim7.holds_tied_plain_at .later [] _ _ _ _ saidPf (fun _ h => by cases h) (by kernel_rfl) (fun _ h => by cases h) printFacts_row_tie rfl ⟨rfl, rfl⟩ (by kernel_rfl) rfl plainPf (by kernel_rfl)
end Go.Proofs.YtlghiakckkhekaaDoor
