/- The statement PrintLines: print.Program answers for every program the texts of its rules, a line each, print.Facts for facts the texts of the facts as rules, a line each; all bytes lie from 32 to 126, but the ends of lines; the first examples hold. Conditions: the tables that the program lays at its start hold what its text lays there. -/
import Derived.Test.YtdgbenadoaecoaaDoorCards
import Derived.Test.YtdgbenadoaecoaaDoorTie
import Derived.Test.YtdgbenadoaecoaaDoorD4
import Derived.Test.YtdgbenadoaecoaaDoorRw
import Derived.WalkKit
import Derived.ProofKit
import Derived.OpenShut
import Derived.SizedLaws
import Derived.Deep.DeepHandedRow
namespace Go.Proofs.YtdgbenadoaecoaaDoor
open Go.ChangeShapes Go.WideShapes Go.ChangeAt Go.RowKit

theorem rels_ofPn {W : World} {l : List (String × DataW Unit)} (h : laidMetH Tryd.prog l W) (hs : 9 ≤ W.heap.size) (kr : (l.filter fun y => y.1 == "pedigree/print.rels") = [("pedigree/print.rels", .agg ((relL.map bl).map fun s => .lit (.string s)))]) : RelsAt W := by
  refine ⟨hs, fun i hi => ?_⟩
  have h1 := str_table h (name := "pedigree/print.rels") (ss := relL.map bl) (g := 4) (t := 143) (n := 7) kr (by kernel_rfl) (by kernel_rfl) (by kernel_rfl) i hi
  rw [h1]
  have h2 : ∀ j, j < 7 → (⟨((relL.map bl).getD j []).toArray⟩ : ByteArray) = relL.getD j ⟨#[]⟩ := by decide
  rw [h2 i hi]
/-- A world for a witness: the relations' table laid, too. -/
noncomputable def laidWorldPn (os : Os) : World := { laidWorld6 os with heap := layCells (laidWorld6 os).heap 4 (strs relL) }
theorem folds_ofPn {W : World} {l : List (String × DataW Unit)} (h : laidMetH Tryd.prog l W) (hs : 9 ≤ W.heap.size) (kr : (l.filter fun y => y.1 == "pedigree/print.folds") = [("pedigree/print.folds", .agg ((foldsL.map bl).map fun s => .lit (.string s)))]) : FoldsAt W := by
  refine ⟨hs, fun i hi => ?_⟩
  have h1 := str_table h (name := "pedigree/print.folds") (ss := foldsL.map bl) (g := 0) (t := 124) (n := 5) kr (by kernel_rfl) (by kernel_rfl) (by kernel_rfl) i hi
  rw [h1]
  have h2 : ∀ j, j < 5 → (⟨((foldsL.map bl).getD j []).toArray⟩ : ByteArray) = foldsL.getD j ⟨#[]⟩ := by decide
  rw [h2 i hi]
/-- A world for a witness: the aggregates' table laid, too. -/
noncomputable def laidWorldFPn (os : Os) : World := { laidWorldPn os with heap := layCells (laidWorldPn os).heap 0 (strs foldsL) }
theorem kws_ofPn {W : World} {l : List (String × DataW Unit)} (h : laidMetH Tryd.prog l W) (hs : 9 ≤ W.heap.size) (kr : (l.filter fun y => y.1 == "pedigree/lex.keywords") = [("pedigree/lex.keywords", .agg ((kwT.map bl).map fun s => .lit (.string s)))]) : KwAt W := by
  refine ⟨hs, fun i hi => ?_⟩
  have h1 := str_table h (name := "pedigree/lex.keywords") (ss := kwT.map bl) (g := 5) (t := 134) (n := 8) kr (by kernel_rfl) (by kernel_rfl) (by kernel_rfl) i hi
  rw [h1]
  have h2 : ∀ j, j < 8 → (⟨((kwT.map bl).getD j []).toArray⟩ : ByteArray) = kwT.getD j ⟨#[]⟩ := by decide
  rw [h2 i hi]
/-- A world for a witness: the keywords' table laid, too. -/
noncomputable def laidWorldWPn (os : Os) : World := { laidWorldFPn os with heap := layCells (laidWorldFPn os).heap 5 (strs kwT) }
set_option maxRecDepth 100000 in
/-- What the walk gives, for every input and every world that holds the tables. -/
theorem contractPn (H : Type) (enc : TypeId × Value → H) (W : World) (base : Nat) (args : Array Value) (ds gs : List (DataW H)) (before : List MemPlace)
    (hval : ∀ (j : Nat) t v, Tryd.f4.params[j]? = some t → args[j]? = some v → Value.okWide Tryd.prog W .any base t v)
    (hW : DataW.Whole enc Tryd.prog Tryd.f4.params.toList Rows.printLinesSpec.vars false W args.toList ds gs before)
    (hsz : (DataW.weightsEach Tryd.prog (Tryd.f4.params.toList ++ (OpenSpec.ofChange Rows.printLinesSpec).bare.plain.varTypes Tryd.prog) (ds ++ gs)).all (· ≤ reachBytes) = true) (hL : laidMetH Tryd.prog Rows.printLinesRow.laid W) (h9 : 9 ≤ W.heap.size) :
    Calls Tryd.prog 4 args W fun e W' => ∃ v, e = .returned v ∧ Rows.printLinesSpec.post enc Tryd.prog Tryd.f4 false true false false W args v W' := by
  have hW' := hW
  obtain ⟨p, q, hA0, hV, rfl, hfz, hnd⟩ := hW
  have hA : DataW.TrodAll enc Tryd.prog W 0 (fun _ => true) true Tryd.f4.params.toList args.toList ds p := hA0
  rw [Tryd.params4] at hA hval
  obtain ⟨v0, vs0, d0, ds0, p0, q0, hargs, rfl, rfl, h0, r0⟩ := trodAll_cons hA
  obtain ⟨v1, vs1, d1, ds1, p1, q1, hargs1, rfl, rfl, h1, r1⟩ := trodAll_cons r0
  obtain ⟨hnil, rfl, rfl⟩ := trodAll_nil r1
  subst hnil
  subst hargs1
  obtain rfl : args = #[v0, v1] := by cases args; simp_all
  obtain ⟨rfl, rfl⟩ := trodVars_none hV
  have hw0 : ∀ n ∈ d0.weights Tryd.prog 34, n ≤ reachBytes := fun n hn => by
    have h1 := List.all_eq_true.1 hsz n (DataW.weights_mem_each (j := 0) (t := 34) (d := d0) (by kernel_rfl) rfl n hn)
    simpa using h1
  have hw1 : ∀ n ∈ d1.weights Tryd.prog 26, n ≤ reachBytes := fun n hn => by
    have h1 := List.all_eq_true.1 hsz n (DataW.weights_mem_each (j := 1) (t := 26) (d := d1) (by kernel_rfl) rfl n hn)
    simpa using h1
  obtain ⟨d, a0, cap, l, rfl, hx, hr, _⟩ := open_rules (hval 0 34 _ rfl rfl) h0 hw0
  obtain ⟨a1, cap1, m, rfl, hx1, hr1, hb1⟩ := open_facts (hval 1 26 _ rfl rfl) h1 hw1
  refine (printLines d a0 cap l a1 cap1 m W hx hr hx1 hr1 hb1 (tabs_of9 hL h9 (by kernel_rfl) (by kernel_rfl) (by kernel_rfl) (by kernel_rfl)) (kws_ofPn hL h9 (by kernel_rfl)) (rels_ofPn hL h9 (by kernel_rfl)) (folds_ofPn hL h9 (by kernel_rfl))).mono fun e W' ⟨he, hb⟩ => ?_
  subst he
  exact ⟨_, rfl, post_law hW' rfl (by rw [Tryd.params4]; decide) (by kernel_rfl) rfl hb⟩
def argPn : Array Value := #[.slice none 0 0, .slice none 0 0]
theorem laid_metPn (os : Os) : laidMet Tryd.prog Rows.printLinesRow.laid ((laidWorldWPn os).forCall (fun _ _ => 0) ⟨#[], argPn, []⟩).memory :=
  laidMet_of_run' 8 (by kernel_rfl) (by kernel_rfl)
theorem readsPn (os : Os) {H : Type} (enc : TypeId × Value → H) : ∃ places, DataW.whole enc Tryd.prog ((laidWorldWPn os).forCall (fun _ _ => 0) ⟨#[], argPn, []⟩).memory Tryd.f4.params.toList Rows.printLinesSpec.vars false argPn.toList 8 =
    some ([.nil, .nil], [], places) :=
  ⟨[], by kernel_rfl⟩
set_option maxRecDepth 100000 in
theorem liftedPn (os : Os) (started : os.Started) (H : Type) (enc : TypeId × Value → H) (F : Stop.Interp) :
    ReturnsInHanded {} Tryd.checked os 4 .any ((OpenSpec.ofChange Rows.printLinesSpec).preRow enc Tryd.prog Tryd.f4 Rows.printLinesRow.domain false Rows.printLinesRow.laid) (((OpenSpec.ofChange Rows.printLinesSpec).at F).post enc Tryd.prog Tryd.f4 false true false false) := by
  obtain ⟨places, hx⟩ := readsPn os enc
  refine returnsInHanded_of_row (C := Tryd.checked) (s := OpenSpec.ofChange Rows.printLinesSpec) own started (by kernel_rfl) Tryd.func4
    (witness_row_at (enc := enc) (C := Tryd.checked) false (laidWorldWPn os) argPn rfl (by kernel_rfl) (by kernel_rfl) (by kernel_rfl)
      (OpenSpec.preRow_of_cond 8 hx (by kernel_rfl) (fun k hk => by cases hk) (by kernel_rfl) (laid_metPn os))) ?_
  intro W base args ds gs before hval hW _ _ hsz hL hsh _
  exact contractPn H enc W base args ds gs before hval hW hsz hL (size9 hsh)
theorem saidPn : Rows.PrintLinesSaid :=
  OpenClaim.holds_of_cond 4 Tryd.f4 rfl rfl rfl rfl rfl rfl rfl ⟨rfl, rfl, rfl, rfl, rfl⟩ rfl rfl rfl rfl rfl (by kernel_rfl) Tryd.func4 (by kernel_rfl)
    (of_decide_eq_true (by kernel_rfl)) (by unfold Func.isWrapper; first | (rw [if_pos (by decide +kernel)]; kernel_rfl) | (rw [if_neg (by decide +kernel)]; exact ⟨rfl, rfl⟩))
    (fun os started H enc _ F => by rw [OpenClaim.pre_eq_preRow]; exact liftedPn os started H enc F)
/-- No parameter wants a stand-in; the program's own looks are on: what the card asks. -/
theorem plainPn (f : FuncId) (fn : Func) (hf : Tryd.pinned.checked.prog.funcNamed "pedigree/pedigreelaw06.PrintLines" = some f) (hfn : Tryd.pinned.checked.prog.funcs[f]? = some fn) :
    true = Tryd.pinned.checked.prog.looks [] ∧ ∀ (j : Nat) t, fn.params[j]? = some t → Tryd.pinned.checked.prog.wantsStandIn t = false := by
  obtain rfl : f = 4 := Option.some.inj ((show Tryd.prog.funcNamed "pedigree/pedigreelaw06.PrintLines" = some 4 by kernel_rfl).symm.trans hf) |>.symm
  obtain rfl : fn = Tryd.f4 := (Option.some.inj (Tryd.func4.symm.trans hfn)).symm
  refine ⟨by kernel_rfl, fun j t ht => ?_⟩
  rw [Tryd.params4] at ht
  obtain rfl | rfl : t = 34 ∨ t = 26 := by simpa using Array.mem_of_getElem? ht
  · exact (show Tryd.prog.wantsStandIn 34 = false by kernel_rfl)
  · exact (show Tryd.prog.wantsStandIn 26 = false by kernel_rfl)
/-- The card. -/
theorem printLines_card : Rows.PrintLinesCardSaid :=
  Claim7.holds_tied_plain_at .later [] _ _ _ _ saidPn (fun _ h => by cases h) (by kernel_rfl) (fun _ h => by cases h) printLines_row_tie rfl ⟨rfl, rfl⟩ (by kernel_rfl) rfl plainPn (by kernel_rfl)
end Go.Proofs.YtdgbenadoaecoaaDoor
