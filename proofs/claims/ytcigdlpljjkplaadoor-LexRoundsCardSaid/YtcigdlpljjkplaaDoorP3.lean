/- A copy of tokens in new memory; the contract of whole. Conditions: the tokens lie as they are told; at most 2^31 of them. -/
import Derived.Test.YtcigdlpljjkplaaDoorP2
import Derived.Laws.AppendOwnNone
namespace Go.Proofs.YtcigdlpljjkplaaDoor
open Go.RowKit

/-- append of a list of tokens, nil too, onto an empty row of one's own. -/
theorem wpCopyT {ops : Array Oper} {rest : List Oper} {o : Oper} {a : Act} {w : World} {Q : Exit → Act → World → Prop} (hgd : o.guard = none) (s x : Operand)
    (ho : o.op = .call { callee := .builtin .append, args := #[s, x], argTypes := #[22, 22] })
    (base : Nat) (v : Value) (hs : a.eval s = v) (hown : w.ownsRow base 36 4 v 0 []) (p : Option Addr) (l : List Tk) (c : Nat) (hx : a.eval x = .slice p l.length c) (hat : TksAt w p l) (hnil : p = none → c = 0)
    (hn : l.length ≤ 2147483647) (hbase : base ≤ w.heap.size)
    (h : ∀ p' c' w', w'.ownsRow base 36 4 (.slice p' l.length c') l.length (l.flatMap Tk.cells) → w.grownBy w' v.ownBlock → wpList Tryd.prog ops Q rest (a.put o.dst (.slice p' l.length c')) w') : wpList Tryd.prog ops Q (o :: rest) a w := by
  obtain ⟨i0, hi, hzz⟩ := Option.map_eq_some_iff.1 infoTk
  simp only [Prod.mk.injEq] at hzz
  obtain ⟨hz0, hz1, hz2⟩ := hzz
  rcases p with _ | ad
  · obtain rfl : c = 0 := hnil rfl
    have hl : l = [] := by
      rcases hat with h0 | ⟨a', o', h1, _⟩
      · exact List.eq_nil_of_length_eq_zero h0
      · exact absurd h1 (by simp)
    subst hl
    obtain ⟨pv, cv, rfl⟩ := own_sliceT hown
    refine wpList_append_own_none hgd s x 22 ho base 36 i0 4 Tryd.underlying22 hi _ 0 [] hs hown hx ?_
    exact h pv cv w hown ⟨rfl, rfl, rfl, Nat.le_refl _, fun _ _ _ => rfl⟩
  · refine wpList_append_own _ hgd s x 22 ho base 36 i0 _ 4 40 Tryd.underlying22 hi hz0 hz1 hz2 rfl (by decide) v 0 [] hs hown ad l.length c (l.flatMap Tk.cells) hx (tks_len l) (tks_read hat) (tks_one l) (by unfold maxLen; omega) (by omega) hbase ?_
    intro v' w' h1 h2 _
    rw [Nat.zero_add, List.nil_append] at h1
    obtain ⟨p', c', rfl⟩ := own_sliceT h1
    exact h p' c' w' h1 h2
theorem own_tks3 {w : World} {B n c : Nat} {p : Option Addr} {l : List Tk} (hl : l.length = n) (h : w.ownsRow B 36 4 (.slice p n c) n (l.flatMap Tk.cells)) : TksAt w p l ∧ (p = none → c = 0) := by
  rcases h.2 with ⟨hv, h0⟩ | ⟨g, cap, cur, hv, _, hg, h1, h2, _, htk⟩
  · obtain ⟨rfl, _, rfl⟩ : p = none ∧ n = 0 ∧ c = 0 := by simpa using hv
    exact ⟨.inl (by omega), fun _ => rfl⟩
  · obtain ⟨rfl, rfl⟩ : p = some ⟨g, 0, none⟩ ∧ c = cap := by simpa using hv
    exact ⟨.inr ⟨g, 0, rfl, (Array.getElem?_eq_some_iff.1 hg).1, fun i hi => by rw [Nat.zero_add]; exact cells_take hg htk hl i hi⟩, fun h => by cases h⟩
theorem own_new (w : World) : (w.alloc (.cells #[] 36)).ownsRow w.heap.size 36 4 (.slice (some ⟨w.heap.size, 0, none⟩) 0 0) 0 [] :=
  ⟨rfl, .inr ⟨w.heap.size, 0, #[], rfl, Nat.le_refl _, heap_alloc_new w _, Nat.le_refl _, by unfold maxLen; omega, rfl, rfl⟩⟩
def WhPost (l : List Tk) (w : World) (e : Ending) (w' : World) : Prop :=
  ∃ p' c', e = .returned (.slice p' (wholeL l).length c') ∧ TksAt w' p' (wholeL l) ∧ Below w.heap.size w w'
theorem wholeL_last {l : List Tk} {n : Nat} (hl : l.length = n + 1) : wholeL l = if (l[n]'(by omega)).k = 8 then l else l ++ [end0] := by
  unfold wholeL
  rw [List.getLast?_eq_getElem?, show l.length - 1 = n by omega, List.getElem?_eq_getElem (by omega)]
  simp
set_option maxHeartbeats 4000000 in
set_option maxRecDepth 100000 in
theorem kWhole (l : List Tk) (p : Option Addr) (c : Nat) (w : World) (hp : TksAt w p l) (hn : l.length ≤ 2147483647) (hnil : p = none → c = 0) :
    Calls Tryd.prog 29 #[.slice p l.length c] w (WhPost l w) := by
  obtain ⟨i0, hi, hzz⟩ := Option.map_eq_some_iff.1 infoTk
  simp only [Prod.mk.injEq] at hzz
  obtain ⟨hz0, hz1, hz2⟩ := hzz
  have HI := Lib.hid hi; clear hi
  have HZ0 := Lib.hid hz0; clear hz0
  have HZ1 := Lib.hid hz1; clear hz1
  have HZ2 := Lib.hid hz2; clear hz2
  have HP := Lib.hid hp; clear hp
  have HN := Lib.hid hnil; clear hnil
  by_cases h0 : l.length = 0
  · have hw : wholeL l = l ++ [end0] := by
      have hl := List.eq_nil_of_length_eq_zero h0
      rw [hl]; rfl
    have HW := Lib.hid hw; clear hw
    have q0 : decide (0 < l.length) = false := decide_eq_false (by omega)
    clear h0
    go_enter Tryd.func29, Tryd.ntmps29
    go_wp2_with (at_builtin; refine wpCopyT rfl _ _ rfl w.heap.size _ rfl (own_new w) p l c rfl (HP.out.up (below_alloc _ _)) HN.out hn (by simp) ?_)
    intro p1 c1 w1 hown hgrow
    have HO := Lib.hid hown; clear hown
    have HB := Lib.hid ((below_alloc w (.cells #[] 36)).grown hgrow (by simp) (fun g hg => ownT_lt (own_new w) hg)); clear hgrow
    have hsz := HB.out.size
    go_wp2_with (at_builtin; refine wpList_append_own _ rfl _ _ 22 rfl w.heap.size 36 i0 _ 4 40 Tryd.underlying22 HI.out HZ0.out HZ1.out HZ2.out rfl (by decide) _ _ _ rfl (HO.out.alloc _) ⟨w1.heap.size, 0, none⟩ 1 1 end0.cells rfl rfl (new_cells w1 end0.cells 36) ?c1 ?c2 ?c3 ?c4 ?_)
    case c1 => exact tk_one _
    case c2 => unfold maxLen; omega
    case c3 => omega
    case c4 => simp; omega
    intro v' w2 hown' hgrow _
    have HO' := Lib.hid (ownT_snoc hown' rfl); clear hown'
    have HB2 := Lib.hid ((HB.out.alloc hsz _).grown hgrow (by simp; omega) (fun g hg => ownT_lt HO.out hg)); clear hgrow
    obtain ⟨pf, cf, rfl⟩ := own_sliceT HO'.out
    go_wp2_with fail
    go_ret
    exact ⟨pf, cf, by rw [HW.out]; simp, by rw [HW.out]; exact (own_tks3 (by simp) HO'.out).1, HB2.out⟩
  · obtain ⟨n, hl⟩ : ∃ n, l.length = n + 1 := ⟨l.length - 1, by omega⟩
    have hw := wholeL_last hl
    obtain ⟨a, o, ha, c0, c1, c2, c3, hpe⟩ := HP.out.get (Below.refl _ _) (k := n) (by omega)
    obtain ⟨K, hK⟩ : ∃ K, K = (l[n]'(by omega)).k := ⟨_, rfl⟩
    rw [← hK] at hw c0
    have HW := Lib.hid hw; clear hw
    have HL := Lib.hid hl
    subst hpe
    clear hK c1 c2 c3 h0
    have hq1 : decide (0 < n + 1) = true := rfl
    have hni : (0 : Int) ≤ (n : Int) := by omega
    have hnj : (n : Int) < (n : Int) + 1 := by omega
    rw [hl]
    rw [hl] at hn
    clear hl
    by_cases h8 : K = 8
    · subst h8
      have hW2 := Lib.hid (show wholeL l = l by rw [HW.out, if_pos rfl])
      go_enter Tryd.func29, Tryd.ntmps29
      go_wp2_with fail
      go_ret
      exact ⟨some ⟨a, o, none⟩, c, (by rw [hW2.out, HL.out]; rfl), by rw [hW2.out]; exact HP.out, Below.refl _ _⟩
    · have hW2 := Lib.hid (show wholeL l = l ++ [end0] by rw [HW.out, if_neg h8])
      have q8 : (K == 8) = false := beq_eq_false_iff_ne.2 h8
      clear h8
      go_enter Tryd.func29, Tryd.ntmps29
      go_wp2_with (at_builtin; refine wpCopyT rfl _ _ rfl w.heap.size _ rfl (own_new w) (some ⟨a, o, none⟩) l c (by rw [HL.out]; rfl) (HP.out.up (below_alloc _ _)) HN.out (by rw [HL.out]; exact hn) (by simp) ?_)
      intro p1 c1 w1 hown hgrow
      have HO := Lib.hid hown; clear hown
      have HB := Lib.hid ((below_alloc w (.cells #[] 36)).grown hgrow (by simp) (fun g hg => ownT_lt (own_new w) hg)); clear hgrow
      have hsz := HB.out.size
      clear c0
      go_wp2_with (at_builtin; refine wpList_append_own _ rfl _ _ 22 rfl w.heap.size 36 i0 _ 4 40 Tryd.underlying22 HI.out HZ0.out HZ1.out HZ2.out rfl (by decide) _ _ _ rfl (HO.out.alloc _) ⟨w1.heap.size, 0, none⟩ 1 1 end0.cells rfl rfl (new_cells w1 end0.cells 36) ?c1 ?c2 ?c3 ?c4 ?_)
      case c1 => exact tk_one _
      case c2 => have := HL.out; unfold maxLen; omega
      case c3 => have := HL.out; omega
      case c4 => simp; omega
      intro v' w2 hown' hgrow _
      have HO' := Lib.hid (ownT_snoc hown' rfl); clear hown'
      have HB2 := Lib.hid ((HB.out.alloc hsz _).grown hgrow (by simp; omega) (fun g hg => ownT_lt HO.out hg)); clear hgrow
      obtain ⟨pf, cf, rfl⟩ := own_sliceT HO'.out
      go_wp2_with fail
      go_ret
      exact ⟨pf, cf, by rw [hW2.out]; simp, by rw [hW2.out]; exact (own_tks3 (by simp) HO'.out).1, HB2.out⟩
end Go.Proofs.YtcigdlpljjkplaaDoor
