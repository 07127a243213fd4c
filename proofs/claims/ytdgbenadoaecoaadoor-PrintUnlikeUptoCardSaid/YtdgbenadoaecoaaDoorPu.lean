/- The statement PrintUnlike in its second form: where what is handed in is of bulk at most 1048576, two rules, two lists of facts, two queries have one text just if they are the same; the first examples hold. Conditions: the tables that the program lays at its start hold what its text lays there. -/
import Derived.Test.YtdgbenadoaecoaaDoorCards
import Derived.Test.YtdgbenadoaecoaaDoorTie
import Derived.Test.YtdgbenadoaecoaaDoorD15
import Derived.WalkKit
import Derived.ProofKit
import Derived.OpenShut
import Derived.SizedLaws
import Derived.Deep.DeepHandedRow
namespace Go.Proofs.YtdgbenadoaecoaaDoor
open Go.ChangeShapes Go.WideShapes Go.ChangeAt Go.RowKit

theorem rels_ofPu {W : World} {l : List (String × DataW Unit)} (h : laidMetH Tryd.prog l W) (hs : 9 ≤ W.heap.size) (kr : (l.filter fun y => y.1 == "pedigree/print.rels") = [("pedigree/print.rels", .agg ((relL.map bl).map fun s => .lit (.string s)))]) : RelsAt W := by
  refine ⟨hs, fun i hi => ?_⟩
  have h1 := str_table h (name := "pedigree/print.rels") (ss := relL.map bl) (g := 4) (t := 143) (n := 7) kr (by kernel_rfl) (by kernel_rfl) (by kernel_rfl) i hi
  rw [h1]
  have h2 : ∀ j, j < 7 → (⟨((relL.map bl).getD j []).toArray⟩ : ByteArray) = relL.getD j ⟨#[]⟩ := by decide
  rw [h2 i hi]
/-- A world for a witness: the relations' table laid, too. -/
noncomputable def laidWorldPu (os : Os) : World := { laidWorld6 os with heap := layCells (laidWorld6 os).heap 4 (strs relL) }
theorem folds_ofPu {W : World} {l : List (String × DataW Unit)} (h : laidMetH Tryd.prog l W) (hs : 9 ≤ W.heap.size) (kr : (l.filter fun y => y.1 == "pedigree/print.folds") = [("pedigree/print.folds", .agg ((foldsL.map bl).map fun s => .lit (.string s)))]) : FoldsAt W := by
  refine ⟨hs, fun i hi => ?_⟩
  have h1 := str_table h (name := "pedigree/print.folds") (ss := foldsL.map bl) (g := 0) (t := 124) (n := 5) kr (by kernel_rfl) (by kernel_rfl) (by kernel_rfl) i hi
  rw [h1]
  have h2 : ∀ j, j < 5 → (⟨((foldsL.map bl).getD j []).toArray⟩ : ByteArray) = foldsL.getD j ⟨#[]⟩ := by decide
  rw [h2 i hi]
/-- A world for a witness: the aggregates' table laid, too. -/
noncomputable def laidWorldFPu (os : Os) : World := { laidWorldPu os with heap := layCells (laidWorldPu os).heap 0 (strs foldsL) }
theorem kws_ofPu {W : World} {l : List (String × DataW Unit)} (h : laidMetH Tryd.prog l W) (hs : 9 ≤ W.heap.size) (kr : (l.filter fun y => y.1 == "pedigree/lex.keywords") = [("pedigree/lex.keywords", .agg ((kwT.map bl).map fun s => .lit (.string s)))]) : KwAt W := by
  refine ⟨hs, fun i hi => ?_⟩
  have h1 := str_table h (name := "pedigree/lex.keywords") (ss := kwT.map bl) (g := 5) (t := 134) (n := 8) kr (by kernel_rfl) (by kernel_rfl) (by kernel_rfl) i hi
  rw [h1]
  have h2 : ∀ j, j < 8 → (⟨((kwT.map bl).getD j []).toArray⟩ : ByteArray) = kwT.getD j ⟨#[]⟩ := by decide
  rw [h2 i hi]
/-- A world for a witness: the keywords' table laid, too. -/
noncomputable def laidWorldWPu (os : Os) : World := { laidWorldFPu os with heap := layCells (laidWorldFPu os).heap 5 (strs kwT) }
set_option maxRecDepth 100000 in
/-- What the walk gives, for every input and every world that holds the tables. -/
theorem contractPu (H : Type) (enc : TypeId × Value → H) (W : World) (base : Nat) (args : Array Value) (ds gs : List (DataW H)) (before : List MemPlace)
    (hval : ∀ (j : Nat) t v, Tryd.f3.params[j]? = some t → args[j]? = some v → Value.okWide Tryd.prog W .any base t v)
    (hW : DataW.Whole enc Tryd.prog Tryd.f3.params.toList Rows.printUnlikeSpec.vars false W args.toList ds gs before)
    (hsz : (DataW.weightsEach Tryd.prog (Tryd.f3.params.toList ++ (Rows.OpenSpec.upto Rows.printUnlikeSpec).bare.plain.varTypes Tryd.prog) (ds ++ gs)).all (· ≤ reachBytes) = true) (hcond : ∀ k, (Rows.OpenSpec.upto Rows.printUnlikeSpec).cond = some k → k H (ds ++ gs) = true) (hL : laidMetH Tryd.prog Rows.printUnlikeUptoRow.laid W) (h9 : 9 ≤ W.heap.size) :
    Calls Tryd.prog 3 args W fun e W' => ∃ v, e = .returned v ∧ Rows.printUnlikeSpec.post enc Tryd.prog Tryd.f3 false true false false W args v W' := by
  have hW' := hW
  obtain ⟨p, q, hA0, hV, rfl, hfz, hnd⟩ := hW
  have hA : DataW.TrodAll enc Tryd.prog W 0 (fun _ => true) true Tryd.f3.params.toList args.toList ds p := hA0
  rw [Tryd.params3] at hA hval
  obtain ⟨v0, vs0, d0, ds0, p0, q0, hargs, rfl, rfl, h0, r0⟩ := trodAll_cons hA
  obtain ⟨rfl, rfl, rfl⟩ := trodAll_nil r0
  obtain rfl : args = #[v0] := by cases args; simp_all
  obtain ⟨rfl, rfl⟩ := trodVars_none hV
  have hw0 : ∀ n ∈ d0.weights Tryd.prog 31, n ≤ reachBytes := fun n hn => by
    have h1 := List.all_eq_true.1 hsz n (DataW.weights_mem_each (j := 0) (t := 31) (d := d0) (by kernel_rfl) rfl n hn)
    simpa using h1
  have hk : Rows.uptoBulkAll ([d0] ++ []) ≤ 1048576 := of_decide_eq_true (hcond _ rfl)
  have hk0 : Rows.uptoBulk d0 ≤ 1048576 := by
    simp only [List.append_nil, Rows.uptoBulkAll] at hk
    omega
  obtain ⟨d, X, Y, q1, q2, k1, k2, fs, gl, a, b, ts, us, sva, svb, rfl, hx, hy, rx, ry, hf, hg, rf, rg, nf, ng, ha, hb, hts, hus, rt, ru⟩ := open_two (hval 0 31 _ rfl rfl) h0 hw0 hk0
  refine (unlikeT d X Y q1 q2 k1 k2 fs gl a b ts us sva svb W hx hy rx ry hf hg rf rg nf ng ha hb hts hus rt ru (tabs_of9 hL h9 (by kernel_rfl) (by kernel_rfl) (by kernel_rfl) (by kernel_rfl)) (kws_ofPu hL h9 (by kernel_rfl)) (rels_ofPu hL h9 (by kernel_rfl)) (folds_ofPu hL h9 (by kernel_rfl))).mono fun e W' ⟨he, hb⟩ => ?_
  subst he
  exact ⟨_, rfl, post_law hW' rfl (by rw [Tryd.params3]; decide) (by kernel_rfl) rfl hb⟩
def argPu : Array Value := #[.agg #[.string ⟨#[]⟩, .slice none 0 0, .slice none 0 0, .string ⟨#[]⟩, .slice none 0 0, .slice none 0 0, .slice none 0 0, .slice none 0 0, .string ⟨#[]⟩, .slice none 0 0, .string ⟨#[]⟩, .slice none 0 0]]
theorem laid_metPu (os : Os) : laidMet Tryd.prog Rows.printUnlikeUptoRow.laid ((laidWorldWPu os).forCall (fun _ _ => 0) ⟨#[], argPu, []⟩).memory :=
  laidMet_of_run' 8 (by kernel_rfl) (by kernel_rfl)
theorem readsPu (os : Os) {H : Type} (enc : TypeId × Value → H) : ∃ places, DataW.whole enc Tryd.prog ((laidWorldWPu os).forCall (fun _ _ => 0) ⟨#[], argPu, []⟩).memory Tryd.f3.params.toList Rows.printUnlikeSpec.vars false argPu.toList 8 =
    some ([.agg [.agg [.lit (.string []), .nil, .nil], .agg [.lit (.string []), .nil, .nil], .nil, .nil, .agg [.lit (.string []), .nil], .agg [.lit (.string []), .nil]]], [], places) :=
  ⟨[], by kernel_rfl⟩
set_option maxRecDepth 100000 in
theorem liftedPu (os : Os) (started : os.Started) (H : Type) (enc : TypeId × Value → H) (F : Stop.Interp) :
    ReturnsInHanded {} Tryd.checked os 3 .any ((Rows.OpenSpec.upto Rows.printUnlikeSpec).preRow enc Tryd.prog Tryd.f3 Rows.printUnlikeUptoRow.domain false Rows.printUnlikeUptoRow.laid) (((Rows.OpenSpec.upto Rows.printUnlikeSpec).at F).post enc Tryd.prog Tryd.f3 false true false false) := by
  obtain ⟨places, hx⟩ := readsPu os enc
  refine returnsInHanded_of_row (C := Tryd.checked) (s := Rows.OpenSpec.upto Rows.printUnlikeSpec) own started (by kernel_rfl) Tryd.func3
    (witness_row_at (enc := enc) (C := Tryd.checked) false (laidWorldWPu os) argPu rfl (by kernel_rfl) (by kernel_rfl) (by kernel_rfl)
      (OpenSpec.preRow_of_cond 8 hx (by kernel_rfl) (fun k hk => by cases hk; kernel_rfl) (by kernel_rfl) (laid_metPu os))) ?_
  intro W base args ds gs before hval hW _ hcond hsz hL hsh _
  exact contractPu H enc W base args ds gs before hval hW hsz hcond hL (size9 hsh)
theorem saidPu : Rows.PrintUnlikeUptoSaid :=
  OpenClaim.holds_of_cond 3 Tryd.f3 rfl rfl rfl rfl rfl rfl rfl ⟨rfl, rfl, rfl, rfl, rfl⟩ rfl rfl rfl rfl rfl (by kernel_rfl) Tryd.func3 (by kernel_rfl)
    (of_decide_eq_true (by kernel_rfl)) (by unfold Func.isWrapper; first | (rw [if_pos (by decide +kernel)]; kernel_rfl) | (rw [if_neg (by decide +kernel)]; exact ⟨rfl, rfl⟩))
    (fun os started H enc _ F => by rw [OpenClaim.pre_eq_preRow]; exact liftedPu os started H enc F)
/-- No parameter wants a stand-in; the program's own looks are on: what the card asks. -/
theorem plainPu (f : FuncId) (fn : Func) (hf : Tryd.pinned.checked.prog.funcNamed "pedigree/pedigreelaw06.PrintUnlike" = some f) (hfn : Tryd.pinned.checked.prog.funcs[f]? = some fn) :
    true = Tryd.pinned.checked.prog.looks [] ∧ ∀ (j : Nat) t, fn.params[j]? = some t → Tryd.pinned.checked.prog.wantsStandIn t = false := by
  obtain rfl : f = 3 := Option.some.inj ((show Tryd.prog.funcNamed "pedigree/pedigreelaw06.PrintUnlike" = some 3 by kernel_rfl).symm.trans hf) |>.symm
  obtain rfl : fn = Tryd.f3 := (Option.some.inj (Tryd.func3.symm.trans hfn)).symm
  refine ⟨by kernel_rfl, fun j t ht => ?_⟩
  rw [Tryd.params3] at ht
  obtain rfl : t = 31 := by simpa using Array.mem_of_getElem? ht
  exact (show Tryd.prog.wantsStandIn 31 = false by kernel_rfl)
/-- The card. -/
theorem printUnlikeUpto_card : Rows.PrintUnlikeUptoCardSaid :=
  Claim7.holds_tied_plain_at .later [] _ _ _ _ saidPu (fun _ h => by cases h) (by kernel_rfl) (fun _ h => by cases h) printUnlikeUpto_row_tie rfl ⟨rfl, rfl⟩ (by kernel_rfl) rfl plainPu (by kernel_rfl)
end Go.Proofs.YtdgbenadoaecoaaDoor
