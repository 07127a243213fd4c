/- The statement LexWords: lex.Keyword, Name and Variable answer of every text as the reference answers; the first examples hold. Conditions: the tables that the program lays at its start hold what its text lays there. -/
import Derived.Test.YtcigdlpljjkplaaDoorCards
import Derived.Test.YtcigdlpljjkplaaDoorTie
import Derived.Test.YtcigdlpljjkplaaDoorL8
import Derived.Test.YtcigdlpljjkplaaDoorRg
import Derived.WalkKit
import Derived.ProofKit
import Derived.OpenShut
import Derived.SizedLaws
import Derived.LaidMore
import Derived.Deep.DeepHandedRow
import Derived.Deep.DeepWitnessRowRef
namespace Go.Proofs.YtcigdlpljjkplaaDoor
open Go.ChangeShapes Go.WideShapes Go.ChangeAt Go.RowKit

theorem kw_of {W : World} {l : List (String × DataW Unit)} (h : laidMetH Tryd.prog l W) (hs : 9 ≤ W.heap.size) (kr : (l.filter fun y => y.1 == "pedigree/lex.keywords") = [("pedigree/lex.keywords", .agg ((kwT.map bl).map fun s => .lit (.string s)))]) : KwAt W := by
  refine ⟨hs, fun i hi => ?_⟩
  have h1 := str_table h (name := "pedigree/lex.keywords") (ss := kwT.map bl) (g := 0) (t := 64) (n := 8) kr (by kernel_rfl) (by kernel_rfl) (by kernel_rfl) i hi
  rw [h1]
  have h2 : ∀ j, j < 8 → (⟨((kwT.map bl).getD j []).toArray⟩ : ByteArray) = kwT.getD j ⟨#[]⟩ := by decide
  rw [h2 i hi]
theorem sg_of {W : World} {l : List (String × DataW Unit)} (h : laidMetH Tryd.prog l W) (hs : 9 ≤ W.heap.size) (kr : (l.filter fun y => y.1 == "pedigree/lex.signs") = [("pedigree/lex.signs", .agg ((signsT.map bl).map fun s => .lit (.string s)))]) : SgAt W := by
  refine ⟨hs, fun i hi => ?_⟩
  have h1 := str_table h (name := "pedigree/lex.signs") (ss := signsT.map bl) (g := 1) (t := 77) (n := 18) kr (by kernel_rfl) (by kernel_rfl) (by kernel_rfl) i hi
  rw [h1]
  have h2 : ∀ j, j < 18 → (⟨((signsT.map bl).getD j []).toArray⟩ : ByteArray) = signsT.getD j ⟨#[]⟩ := by decide
  rw [h2 i hi]
theorem err_of {W : World} {l : List (String × DataW Unit)} (h : laidMetH Tryd.prog l W) (hs : 9 ≤ W.heap.size) (k1 : (l.filter fun y => y.1 == "strconv.ErrSyntax") = [("strconv.ErrSyntax", Rows.laid_strconv_ErrSyntax)]) (k2 : (l.filter fun y => y.1 == "strconv.ErrRange") = [("strconv.ErrRange", Rows.laid_strconv_ErrRange)]) : ErrAt W :=
  ⟨hs, err_var h k1 (fun e => nomatch e) rfl gSyn (by kernel_rfl) Tryd.underlying58, err_var h k2 (fun e => nomatch e) rfl gRng (by kernel_rfl) Tryd.underlying58⟩
set_option maxRecDepth 100000 in
/-- What the walk gives, for every text and every world that holds the tables. -/
theorem contractLw (H : Type) (enc : TypeId × Value → H) (W : World) (base : Nat) (args : Array Value) (ds gs : List (DataW H)) (before : List MemPlace)
    (hval : ∀ (j : Nat) t v, Tryd.f6.params[j]? = some t → args[j]? = some v → Value.okWide Tryd.prog W .any base t v)
    (hW : DataW.Whole enc Tryd.prog Tryd.f6.params.toList Rows.lexWordsSpec.vars false W args.toList ds gs before) (hL : laidMetH Tryd.prog Rows.lexWordsRow.laid W) (h9 : 9 ≤ W.heap.size) :
    Calls Tryd.prog 6 args W fun e W' => ∃ v, e = .returned v ∧ Rows.lexWordsSpec.post enc Tryd.prog Tryd.f6 false true false false W args v W' := by
  have hW' := hW
  obtain ⟨p, q, hA0, hV, rfl, hfz, hnd⟩ := hW
  have hA : DataW.TrodAll enc Tryd.prog W 0 (fun _ => true) true Tryd.f6.params.toList args.toList ds p := hA0
  rw [Tryd.params6] at hA hval
  obtain ⟨v0, vs0, d0, ds0, p0, q0, hargs, rfl, rfl, h0, r0⟩ := trodAll_cons hA
  obtain ⟨rfl, rfl, rfl⟩ := trodAll_nil r0
  obtain rfl : args = #[v0] := by cases args; simp_all
  obtain ⟨rfl, rfl⟩ := trodVars_none hV
  obtain ⟨s, rfl⟩ := okWide_string Tryd.underlying9 (hval 0 9 _ rfl rfl)
  obtain ⟨n, hn⟩ := h0
  obtain ⟨s', e0, _, hs⟩ := DataW.trod_string Tryd.underlying9 hn
  obtain rfl : s = s' := by simpa [Value.cells] using e0
  refine (lexWords s W hs (err_of hL h9 (by kernel_rfl) (by kernel_rfl)) (kw_of hL h9 (by kernel_rfl)) (sg_of hL h9 (by kernel_rfl))).mono fun e W' ⟨he, hb⟩ => ?_
  subst he
  exact ⟨_, rfl, post_law hW' rfl (by rw [Tryd.params6]; decide) (by kernel_rfl) rfl hb⟩
def argLw : Array Value := #[.string ⟨#[]⟩]
theorem laid_metLw (os : Os) : laidMet Tryd.prog Rows.lexWordsRow.laid ((World.doorLaid Tryd.prog 400 os).forCall (fun _ _ => 0) ⟨#[], argLw, []⟩).memory :=
  laidMet_of_run' 8 (by kernel_rfl) (by kernel_rfl)
theorem readsLw (os : Os) {H : Type} (enc : TypeId × Value → H) : ∃ places, DataW.whole enc Tryd.prog ((World.doorLaid Tryd.prog 400 os).forCall (fun _ _ => 0) ⟨#[], argLw, []⟩).memory Tryd.f6.params.toList Rows.lexWordsSpec.vars false argLw.toList 8 =
    some ([.lit (.string [])], [], places) :=
  ⟨[], by kernel_rfl⟩
set_option maxRecDepth 100000 in
theorem liftedLw (os : Os) (started : os.Started) (H : Type) (enc : TypeId × Value → H) (F : Stop.Interp) :
    ReturnsInHanded {} Tryd.checked os 6 .any ((OpenSpec.ofChange Rows.lexWordsSpec).preRow enc Tryd.prog Tryd.f6 Rows.lexWordsRow.domain false Rows.lexWordsRow.laid) (((OpenSpec.ofChange Rows.lexWordsSpec).at F).post enc Tryd.prog Tryd.f6 false true false false) := by
  obtain ⟨places, hx⟩ := readsLw os enc
  refine returnsInHanded_of_row (C := Tryd.checked) (s := OpenSpec.ofChange Rows.lexWordsSpec) own started (by kernel_rfl) Tryd.func6
    (witness_row_atRef (enc := enc) (C := Tryd.checked) false (World.doorLaid Tryd.prog 400 os) argLw rfl (by kernel_rfl) (by kernel_rfl) (by kernel_rfl)
      (OpenSpec.preRow_of_cond 8 hx (by kernel_rfl) (fun k hk => by cases hk) (by kernel_rfl) (laid_metLw os))) ?_
  intro W base args ds gs before hval hW _ _ _ hL hsh _
  exact contractLw H enc W base args ds gs before hval hW hL (size9 hsh)
theorem saidLw : Rows.LexWordsSaid :=
  OpenClaim.holds_of_cond 6 Tryd.f6 rfl rfl rfl rfl rfl rfl rfl ⟨rfl, rfl, rfl, rfl, rfl⟩ rfl rfl rfl rfl rfl (by kernel_rfl) Tryd.func6 (by kernel_rfl)
    (of_decide_eq_true (by kernel_rfl)) (by unfold Func.isWrapper; first | (rw [if_pos (by decide +kernel)]; kernel_rfl) | (rw [if_neg (by decide +kernel)]; exact ⟨rfl, rfl⟩))
    (fun os started H enc _ F => by rw [OpenClaim.pre_eq_preRow]; exact liftedLw os started H enc F)
/-- No parameter wants a stand-in; the program's own looks are on: what the card asks. -/
theorem plainLw (f : FuncId) (fn : Func) (hf : Tryd.pinned.checked.prog.funcNamed "pedigree/pedigreelaw03.LexWords" = some f) (hfn : Tryd.pinned.checked.prog.funcs[f]? = some fn) :
    true = Tryd.pinned.checked.prog.looks [] ∧ ∀ (j : Nat) t, fn.params[j]? = some t → Tryd.pinned.checked.prog.wantsStandIn t = false := by
  obtain rfl : f = 6 := Option.some.inj ((show Tryd.prog.funcNamed "pedigree/pedigreelaw03.LexWords" = some 6 by kernel_rfl).symm.trans hf) |>.symm
  obtain rfl : fn = Tryd.f6 := (Option.some.inj (Tryd.func6.symm.trans hfn)).symm
  refine ⟨by kernel_rfl, fun j t ht => ?_⟩
  rw [Tryd.params6] at ht
  obtain rfl : t = 9 := by simpa using Array.mem_of_getElem? ht
  exact (show Tryd.prog.wantsStandIn 9 = false by kernel_rfl)
/-- The card. -/
theorem lexWords_card : Rows.LexWordsCardSaid :=
  Claim7.holds_tied_plain_at .later [] _ _ _ _ saidLw (fun _ h => by cases h) (by kernel_rfl) (fun _ h => by cases h) lexWords_row_tie rfl ⟨rfl, rfl⟩ (by kernel_rfl) rfl plainLw (by kernel_rfl)
end Go.Proofs.YtcigdlpljjkplaaDoor
