/- The statement LexRounds: what Join writes of any tokens Tokens reads back; the tokens of any source, joined, are read as the same. Conditions: the tables that the program lays at its start hold what its text lays there. -/
import Derived.Test.YtcigdlpljjkplaaDoorCards
import Derived.Test.YtcigdlpljjkplaaDoorTie
import Derived.Test.YtcigdlpljjkplaaDoorP4
import Derived.Test.YtcigdlpljjkplaaDoorRt
import Derived.WalkKit
import Derived.ProofKit
import Derived.OpenShut
import Derived.SizedLaws
import Derived.LaidMore
import Derived.Deep.DeepHandedRow
import Derived.Deep.DeepWitnessRowRef
namespace Go.Proofs.YtcigdlpljjkplaaDoor
open Go.ChangeShapes Go.WideShapes Go.ChangeAt Go.RowKit

set_option maxRecDepth 100000 in
/-- What the walk gives, for every argument and every world that holds the tables. -/
theorem contractLr (H : Type) (enc : TypeId × Value → H) (W : World) (base : Nat) (args : Array Value) (ds gs : List (DataW H)) (before : List MemPlace)
    (hval : ∀ (j : Nat) t v, Tryd.f7.params[j]? = some t → args[j]? = some v → Value.okWide Tryd.prog W .any base t v)
    (hW : DataW.Whole enc Tryd.prog Tryd.f7.params.toList Rows.lexRoundsSpec.vars false W args.toList ds gs before) (hL : laidMetH Tryd.prog Rows.lexRoundsRow.laid W) (h9 : 9 ≤ W.heap.size) :
    Calls Tryd.prog 7 args W fun e W' => ∃ v, e = .returned v ∧ Rows.lexRoundsSpec.post enc Tryd.prog Tryd.f7 false true false false W args v W' := by
  have hW' := hW
  obtain ⟨p, q, hA0, hV, rfl, hfz, hnd⟩ := hW
  have hA : DataW.TrodAll enc Tryd.prog W 0 (fun _ => true) true Tryd.f7.params.toList args.toList ds p := hA0
  rw [Tryd.params7] at hA hval
  obtain ⟨v0, vs0, d0, ds0, p0, q0, hargs0, rfl, rfl, h0, r0⟩ := trodAll_cons hA
  obtain ⟨v1, vs1, d1, ds1, p1, q1, hargs1, rfl, rfl, h1, r1⟩ := trodAll_cons r0
  obtain ⟨rfl, rfl, rfl⟩ := trodAll_nil r1
  obtain rfl : args = #[v0, v1] := by cases args; simp_all
  obtain ⟨rfl, rfl⟩ := trodVars_none hV
  obtain ⟨a0, cap, l, rfl, hx, hlen, hxr, hnil⟩ := open_tokens (hval 0 22 _ rfl rfl) h0
  obtain ⟨s, rfl⟩ := okWide_string Tryd.underlying9 (hval 1 9 _ rfl rfl)
  obtain ⟨n1, hn1⟩ := h1
  obtain ⟨s', e0, _, hs⟩ := DataW.trod_string Tryd.underlying9 hn1
  obtain rfl : s = s' := by simpa [Value.cells] using e0
  refine (lexRounds a0 cap l s W hx hlen hxr hnil hs (err_of hL h9 (by kernel_rfl) (by kernel_rfl)) (kw_of hL h9 (by kernel_rfl)) (sg_of hL h9 (by kernel_rfl)) (pw_of hL h9 (by kernel_rfl))).mono fun e W' ⟨he, hb⟩ => ?_
  subst he
  exact ⟨_, rfl, post_law hW' rfl (by rw [Tryd.params7]; decide) (by kernel_rfl) rfl hb⟩
def argLr : Array Value := #[.slice none 0 0, .string ⟨#[]⟩]
theorem laid_metLr (os : Os) : laidMet Tryd.prog Rows.lexRoundsRow.laid ((World.doorLaid Tryd.prog 400 os).forCall (fun _ _ => 0) ⟨#[], argLr, []⟩).memory :=
  laidMet_of_run' 8 (by kernel_rfl) (by kernel_rfl)
theorem readsLr (os : Os) {H : Type} (enc : TypeId × Value → H) : ∃ places, DataW.whole enc Tryd.prog ((World.doorLaid Tryd.prog 400 os).forCall (fun _ _ => 0) ⟨#[], argLr, []⟩).memory Tryd.f7.params.toList Rows.lexRoundsSpec.vars false argLr.toList 8 =
    some ([.nil, .lit (.string [])], [], places) :=
  ⟨[], by kernel_rfl⟩
set_option maxRecDepth 100000 in
theorem liftedLr (os : Os) (started : os.Started) (H : Type) (enc : TypeId × Value → H) (F : Stop.Interp) :
    ReturnsInHanded {} Tryd.checked os 7 .any ((OpenSpec.ofChange Rows.lexRoundsSpec).preRow enc Tryd.prog Tryd.f7 Rows.lexRoundsRow.domain false Rows.lexRoundsRow.laid) (((OpenSpec.ofChange Rows.lexRoundsSpec).at F).post enc Tryd.prog Tryd.f7 false true false false) := by
  obtain ⟨places, hx⟩ := readsLr os enc
  refine returnsInHanded_of_row (C := Tryd.checked) (s := OpenSpec.ofChange Rows.lexRoundsSpec) own started (by kernel_rfl) Tryd.func7
    (witness_row_atRef (enc := enc) (C := Tryd.checked) false (World.doorLaid Tryd.prog 400 os) argLr rfl (by kernel_rfl) (by kernel_rfl) (by kernel_rfl)
      (OpenSpec.preRow_of_cond 8 hx (by kernel_rfl) (fun k hk => by cases hk) (by kernel_rfl) (laid_metLr os))) ?_
  intro W base args ds gs before hval hW _ _ _ hL hsh _
  exact contractLr H enc W base args ds gs before hval hW hL (size9 hsh)
theorem saidLr : Rows.LexRoundsSaid :=
  OpenClaim.holds_of_cond 7 Tryd.f7 rfl rfl rfl rfl rfl rfl rfl ⟨rfl, rfl, rfl, rfl, rfl⟩ rfl rfl rfl rfl rfl (by kernel_rfl) Tryd.func7 (by kernel_rfl)
    (of_decide_eq_true (by kernel_rfl)) (by unfold Func.isWrapper; first | (rw [if_pos (by decide +kernel)]; kernel_rfl) | (rw [if_neg (by decide +kernel)]; exact ⟨rfl, rfl⟩))
    (fun os started H enc _ F => by rw [OpenClaim.pre_eq_preRow]; exact liftedLr os started H enc F)
/-- No parameter wants a stand-in; the program's own looks are on: what the card asks. -/
theorem plainLr (f : FuncId) (fn : Func) (hf : Tryd.pinned.checked.prog.funcNamed "pedigree/pedigreelaw03.LexRounds" = some f) (hfn : Tryd.pinned.checked.prog.funcs[f]? = some fn) :
    true = Tryd.pinned.checked.prog.looks [] ∧ ∀ (j : Nat) t, fn.params[j]? = some t → Tryd.pinned.checked.prog.wantsStandIn t = false := by
  obtain rfl : f = 7 := Option.some.inj ((show Tryd.prog.funcNamed "pedigree/pedigreelaw03.LexRounds" = some 7 by kernel_rfl).symm.trans hf) |>.symm
  obtain rfl : fn = Tryd.f7 := (Option.some.inj (Tryd.func7.symm.trans hfn)).symm
  refine ⟨by kernel_rfl, fun j t ht => ?_⟩
  rw [Tryd.params7] at ht
  have hm : t = 22 ∨ t = 9 := by simpa using Array.mem_of_getElem? ht
  rcases hm with rfl | rfl
  · exact (show Tryd.prog.wantsStandIn 22 = false by kernel_rfl)
  · exact (show Tryd.prog.wantsStandIn 9 = false by kernel_rfl)
/-- The card. -/
theorem lexRounds_card : Rows.LexRoundsCardSaid :=
  Claim7.holds_tied_plain_at .later [] _ _ _ _ saidLr (fun _ h => by cases h) (by kernel_rfl) (fun _ h => by cases h) lexRounds_row_tie rfl ⟨rfl, rfl⟩ (by kernel_rfl) rfl plainLr (by kernel_rfl)
end Go.Proofs.YtcigdlpljjkplaaDoor
