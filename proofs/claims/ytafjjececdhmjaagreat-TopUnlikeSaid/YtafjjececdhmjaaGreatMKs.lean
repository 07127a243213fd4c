/- How a case and a list of numbers lie where they read as data. The statement TopUnlike: what is inferred of rules hangs neither on their order nor on their variables' names: for every case and every list of numbers the law answers true, and what is handed in stays. Conditions: no slice takes more bytes than the reach of a row. none beyond the statement's own. -/
import Derived.Test.YtafjjececdhmjaaGreatMY54
import Derived.Test.YtafjjececdhmjaaGreatMKq
import Derived.Test.YtafjjececdhmjaaGreatRows
import Derived.Test.YtafjjececdhmjaaGreatMKr
import Derived.WalkKit
import Derived.ProofKit
import Derived.OpenShut
import Derived.SizedLaws
import Derived.Deep.DeepHandedRow
namespace Go.Proofs.YtafjjececdhmjaaGreat
open Go.RowKit Go.ChangeShapes Go.WideShapes

section
variable {H : Type} {enc : TypeId × Value → H} {w : World} {base : Nat} {sp : Nat → Bool} {held : Bool}
theorem cellsCase : Tryz.prog.cellsOf 28 = 4 := by kernel_rfl
theorem cellsRus : Tryz.prog.cellsOf 22 = 1 := by kernel_rfl
theorem cellsFcs : Tryz.prog.cellsOf 23 = 1 := by kernel_rfl
theorem cellsAt : Tryz.prog.cellsOf 26 = 2 := by kernel_rfl
theorem cellsInt : Tryz.prog.cellsOf 3 = 1 := by kernel_rfl
theorem bytesInt : Tryz.prog.bytesOf 3 = 8 := by kernel_rfl
theorem weights_case (y0 y1 y2 : DataW H) : (DataW.agg [y0, y1, y2]).weights Tryz.prog 28 = y0.weights Tryz.prog 22 ++ (y1.weights Tryz.prog 23 ++ (y2.weights Tryz.prog 26 ++ [])) := by
  simp [DataW.weights, Tryz.underlying28, DataW.weightsEach]
theorem trod_facts {fuel : Nat} {cs : List Value} {x : DataW H × List MemPlace} (h : DataW.trod enc Tryz.prog w base sp held fuel 23 cs = some x) (hw : ∀ n ∈ x.1.weights Tryz.prog 23, n ≤ reachBytes) :
    ∃ (p : Option Addr) (fs : List Fc) (cap : Nat), cs = [.slice p fs.length cap] ∧ FcsAt w p fs ∧ (∀ f ∈ fs, FcR f) ∧ fs.length ≤ 4398046511104 := by
  obtain ⟨p, fs, cap, hc, hm, hb, hrow, hR⟩ := open_list (α := Fc) Tryz.underlying23 cellsF (by decide) bytesFc (by decide) (fun f => [.string f.p, f.sv]) (fun f => FcR f ∧ VlSl w f.sv f.xs) (fun t => by simp) h hw (fun f cs' y _ hy hwy => by
    obtain ⟨g, rfl, h1, h2⟩ := trod_fact hy hwy
    exact ⟨g, rfl, h1, h2⟩)
  exact ⟨p, fs, cap, hc, ⟨hrow.imp id fun ⟨a, o, hp, ha, hc⟩ => ⟨a, o, hp, ha, fun i hi => ⟨hc i hi 0 (by omega), hc i hi 1 (by omega)⟩⟩, fun f hf => (hR f hf).2⟩, fun f hf => (hR f hf).1, by unfold reachBytes at hb; omega⟩
/-- A case that reads as data. -/
theorem trod_case {D fuel : Nat} (hD : fuel ≤ D) {cs : List Value} {x : DataW H × List MemPlace} (h : DataW.trod enc Tryz.prog w base sp held fuel 28 cs = some x) (hw : ∀ n ∈ x.1.weights Tryz.prog 28, n ≤ reachBytes) :
    ∃ (p : Option Addr) (cap : Nat) (xs : List (Ru D)) (q : Option Addr) (cap2 : Nat) (fs : List Fc) (s0 : ByteArray) (s1 : Value), cs = [.slice p xs.length cap, .slice q fs.length cap2, .string s0, s1] ∧ RusAt w D p xs ∧ (∀ x ∈ xs, RuX x) ∧ FcsAt w q fs ∧ (∀ f ∈ fs, FcR f) ∧ fs.length ≤ 4398046511104 := by
  obtain ⟨ys, m, rfl, rfl, hl, hnn, hfs⟩ := DataW.trod_struct Tryz.underlying28 h
  rw [cellsCase] at hl
  obtain ⟨y0, y1, y2, rfl⟩ := list3 (show ys.length = 3 from hnn)
  have h0 : DataW.trod enc Tryz.prog w base sp held m 22 ((cs.drop 0).take (Tryz.prog.cellsOf 22)) = some y0 := hfs 0 _ rfl
  have h1 : DataW.trod enc Tryz.prog w base sp held m 23 ((cs.drop 1).take (Tryz.prog.cellsOf 23)) = some y1 := hfs 1 _ rfl
  have h2 : DataW.trod enc Tryz.prog w base sp held m 26 ((cs.drop 2).take (Tryz.prog.cellsOf 26)) = some y2 := hfs 2 _ rfl
  rw [cellsRus] at h0
  rw [cellsFcs] at h1
  rw [cellsAt] at h2
  have hwa : ∀ q, q ∈ y0.1.weights Tryz.prog 22 ∨ q ∈ y1.1.weights Tryz.prog 23 ∨ q ∈ y2.1.weights Tryz.prog 26 → q ≤ reachBytes := by
    intro q hq
    refine hw q ?_
    show q ∈ (DataW.agg [y0.1, y1.1, y2.1]).weights Tryz.prog 28
    rw [weights_case]
    simp only [List.mem_append]
    rcases hq with hq | hq | hq
    · exact .inl hq
    · exact .inr (.inl hq)
    · exact .inr (.inr (.inl hq))
  obtain ⟨p, xs, cap, e0, _, hx, hr, _⟩ := trod_rules (D := D) (by omega) h0 (fun q hq => hwa q (.inl hq))
  obtain ⟨q, fs, cap2, e1, hf, hfr, hfn⟩ := trod_facts h1 (fun q hq => hwa q (.inr (.inl hq)))
  obtain ⟨s0, s1, _, e2, _⟩ := trod_atom h2 (fun q hq => hwa q (.inr (.inr hq)))
  refine ⟨p, cap, xs, q, cap2, fs, s0, s1, ?_, hx, hr, hf, hfr, hfn⟩
  have e0' : cs.take 1 = [.slice p xs.length cap] := by simpa using e0
  have e2' : cs.drop 2 = [.string s0, s1] := by rwa [List.take_of_length_le (by simp [hl])] at e2
  rw [← List.take_append_drop 1 cs, ← List.take_append_drop 1 (cs.drop 1), List.drop_drop, e0', e1, e2']
  rfl
set_option maxRecDepth 100000 in
theorem open_case {r : Reach} {b0 : Nat} {v : Value} {x : DataW H} {ps : List MemPlace} (hval : Value.okWide Tryz.prog w r b0 28 v) (hd : DataW.Trod enc Tryz.prog w base sp held 28 v x ps) (hw : ∀ n ∈ x.weights Tryz.prog 28, n ≤ reachBytes) :
    ∃ (d : Nat) (p : Option Addr) (cap : Nat) (xs : List (Ru d)) (q : Option Addr) (cap2 : Nat) (fs : List Fc) (s0 : ByteArray) (s1 : Value), v = .agg #[.slice p xs.length cap, .slice q fs.length cap2, .string s0, s1] ∧ RusAt w d p xs ∧ (∀ x ∈ xs, RuX x) ∧ FcsAt w q fs ∧ (∀ f ∈ fs, FcR f) ∧ fs.length ≤ 4398046511104 := by
  obtain ⟨cs, rfl, _⟩ := okWide_struct Tryz.underlying28 hval
  obtain ⟨n, hn⟩ := hd
  obtain ⟨p, cap, xs, q, cap2, fs, s0, s1, hc, ht⟩ := trod_case (D := n) (Nat.le_refl _) hn hw
  refine ⟨n, p, cap, xs, q, cap2, fs, s0, s1, ?_, ht⟩
  have h3 : cs = #[.slice p xs.length cap, .slice q fs.length cap2, .string s0, s1] := by
    have h2 : cs.toList = [.slice p xs.length cap, .slice q fs.length cap2, .string s0, s1] := hc
    rw [← Array.toArray_toList (xs := cs), h2]
  rw [h3]
set_option maxRecDepth 100000 in
theorem open_ints {r : Reach} {b0 : Nat} {v : Value} {x : DataW H} {ps : List MemPlace} (hval : Value.okWide Tryz.prog w r b0 29 v) (hd : DataW.Trod enc Tryz.prog w base sp held 29 v x ps) (hw : ∀ n ∈ x.weights Tryz.prog 29, n ≤ reachBytes) :
    ∃ (p : Option Addr) (n c : Nat), v = .slice p n c ∧ IntsAt w p n := by
  obtain ⟨a, len, c, rfl⟩ := okWide_slice Tryz.underlying29 hval
  obtain ⟨n, hn⟩ := hd
  obtain ⟨p, l, cap, hc, _, _, hrow, hR⟩ := open_list (α := Int) Tryz.underlying29 cellsInt (by decide) bytesInt (by decide) (fun k => [.int .i64 k]) (fun k => -9223372036854775808 ≤ k ∧ k ≤ 9223372036854775807) (fun t => by simp) hn hw (fun f cs' y _ hy _ => by
    obtain ⟨k, e, _, wk⟩ := DataW.trod_int Tryz.underlying3 hy
    exact ⟨k, e, bounds_i64 wk⟩)
  refine ⟨p, l.length, cap, by simpa [Value.cells] using hc, ?_⟩
  refine hrow.imp id fun ⟨a, o, hp, ha, hc⟩ => ⟨a, o, hp, ha, fun i hi => ⟨l[i], ?_, hR _ (List.getElem_mem hi)⟩⟩
  have := hc i hi 0 (by omega)
  simpa using this
end
end Go.Proofs.YtafjjececdhmjaaGreat

namespace Go.Proofs.YtafjjececdhmjaaGreat
open Go.ChangeShapes Go.WideShapes Go.ChangeAt Go.RowKit

set_option maxRecDepth 100000 in
/-- What the walk gives, for every input and every world. -/
theorem contractTu (H : Type) (enc : TypeId × Value → H) (W : World) (base : Nat) (args : Array Value) (ds gs : List (DataW H)) (before : List MemPlace)
    (hval : ∀ (j : Nat) t v, Tryz.f3.params[j]? = some t → args[j]? = some v → Value.okWide Tryz.prog W .any base t v)
    (hW : DataW.Whole enc Tryz.prog Tryz.f3.params.toList Rows.topUnlikeSpec.vars false W args.toList ds gs before)
    (hsz : (DataW.weightsEach Tryz.prog (Tryz.f3.params.toList ++ (OpenSpec.ofChange Rows.topUnlikeSpec).bare.plain.varTypes Tryz.prog) (ds ++ gs)).all (· ≤ reachBytes) = true) :
    Calls Tryz.prog 3 args W fun e W' => ∃ v, e = .returned v ∧ Rows.topUnlikeSpec.post enc Tryz.prog Tryz.f3 false true false false W args v W' := by
  have hW' := hW
  obtain ⟨p, q, hA0, hV, rfl, hfz, hnd⟩ := hW
  have hA : DataW.TrodAll enc Tryz.prog W 0 (fun _ => true) true Tryz.f3.params.toList args.toList ds p := hA0
  rw [Tryz.params3] at hA hval
  obtain ⟨v0, vs0, d0, ds0, p0, q0, hargs, rfl, rfl, h0, r0⟩ := trodAll_cons hA
  obtain ⟨v1, vs1, d1, ds1, p1, q1, rfl, rfl, rfl, h1, r1⟩ := trodAll_cons r0
  obtain ⟨rfl, rfl, rfl⟩ := trodAll_nil r1
  obtain rfl : args = #[v0, v1] := by cases args; simp_all
  obtain ⟨rfl, rfl⟩ := trodVars_none hV
  have hw0 : ∀ n ∈ d0.weights Tryz.prog 28, n ≤ reachBytes := fun n hn => by
    have h1 := List.all_eq_true.1 hsz n (DataW.weights_mem_each (j := 0) (t := 28) (d := d0) (by kernel_rfl) rfl n hn)
    simpa using h1
  have hw1 : ∀ n ∈ d1.weights Tryz.prog 29, n ≤ reachBytes := fun n hn => by
    have h1 := List.all_eq_true.1 hsz n (DataW.weights_mem_each (j := 1) (t := 29) (d := d1) (by kernel_rfl) rfl n hn)
    simpa using h1
  obtain ⟨d, a0, cap, l, q2, cap2, fs, s0, s1, rfl, hx, hr, hf, hfr, hfn⟩ := open_case (hval 0 28 _ rfl rfl) h0 hw0
  obtain ⟨p2, on, oc, rfl, ho⟩ := open_ints (hval 1 29 _ rfl rfl) h1 hw1
  refine (topUnlike d l a0 cap fs q2 cap2 s0 s1 p2 on oc W hx hr hf hfr hfn ho).mono fun e W' ⟨he, hb⟩ => ?_
  subst he
  exact ⟨_, rfl, post_law hW' rfl (by rw [Tryz.params3]; decide) (by kernel_rfl) rfl hb⟩
def argTu : Array Value := #[.agg #[.slice none 0 0, .slice none 0 0, .string ⟨#[]⟩, .slice none 0 0], .slice none 0 0]
noncomputable def bareWorld (os : Os) : World := World.holding Tryz.prog os ⟨#[], #[], []⟩
theorem laid_metTu (os : Os) : laidMet Tryz.prog Rows.topUnlikeRow.laid ((bareWorld os).forCall (fun _ _ => 0) ⟨#[], argTu, []⟩).memory :=
  laidMet_of_run' 8 (by kernel_rfl) (by kernel_rfl)
theorem readsTu (os : Os) {H : Type} (enc : TypeId × Value → H) : ∃ places, DataW.whole enc Tryz.prog ((bareWorld os).forCall (fun _ _ => 0) ⟨#[], argTu, []⟩).memory Tryz.f3.params.toList Rows.topUnlikeSpec.vars false argTu.toList 8 =
    some ([.agg [.nil, .nil, .agg [.lit (.string []), .nil]], .nil], [], places) :=
  ⟨[], by kernel_rfl⟩
set_option maxRecDepth 100000 in
theorem liftedTu (os : Os) (started : os.Started) (H : Type) (enc : TypeId × Value → H) (F : Stop.Interp) :
    ReturnsInHanded {} Tryz.checked os 3 .any ((OpenSpec.ofChange Rows.topUnlikeSpec).preRow enc Tryz.prog Tryz.f3 Rows.topUnlikeRow.domain false Rows.topUnlikeRow.laid) (((OpenSpec.ofChange Rows.topUnlikeSpec).at F).post enc Tryz.prog Tryz.f3 false true false false) := by
  obtain ⟨places, hx⟩ := readsTu os enc
  refine returnsInHanded_of_row (C := Tryz.checked) (s := OpenSpec.ofChange Rows.topUnlikeSpec) own started (by kernel_rfl) Tryz.func3
    (witness_row_at (enc := enc) (C := Tryz.checked) false (bareWorld os) argTu rfl (by kernel_rfl) (by kernel_rfl) (by kernel_rfl)
      (OpenSpec.preRow_of_cond 8 hx (by kernel_rfl) (fun k hk => by cases hk) (by kernel_rfl) (laid_metTu os))) ?_
  intro W base args ds gs before hval hW _ _ hsz _ _ _
  exact contractTu H enc W base args ds gs before hval hW hsz
/-- **The statement.** -/
theorem topUnlike_said : Rows.TopUnlikeSaid :=
  OpenClaim.holds_of_cond 3 Tryz.f3 rfl rfl rfl rfl rfl rfl rfl ⟨rfl, rfl, rfl, rfl, rfl⟩ rfl rfl rfl rfl rfl (by kernel_rfl) Tryz.func3 (by kernel_rfl)
    (of_decide_eq_true (by kernel_rfl)) (by unfold Func.isWrapper; first | (rw [if_pos (by decide +kernel)]; kernel_rfl) | (rw [if_neg (by decide +kernel)]; exact ⟨rfl, rfl⟩))
    (fun os started H enc _ F => by rw [OpenClaim.pre_eq_preRow]; exact liftedTu os started H enc F)
end Go.Proofs.YtafjjececdhmjaaGreat
