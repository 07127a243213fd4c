/- The contracts of strings.Builder's methods, more: a byte written, the text asked for. Conditions: what is held and what is written together take at most 2^47 bytes. -/
import Derived.Test.YtcigdlpljjkplaaDoorW5
import Derived.RegionTactic
namespace Go.Proofs.YtcigdlpljjkplaaDoor
open Go.RowKit

set_option maxHeartbeats 1000000 in
set_option maxRecDepth 100000 in
theorem bByte {T : Nat} (hT : Wt T) (b : Nat) (l : List UInt8) (c : UInt8) (w : World) (h : Wr T b l w) (hlen : l.length + 1 ≤ 140737488355328) :
    Calls Tryd.prog 40 #[.pointer (some ⟨b, 0, none⟩), .int .u8 c.toNat] w fun e w' => e = .returned .nilIface ∧ Wr T b (l ++ [c]) w' ∧ Kp b w w' := by
  obtain ⟨i0, hi, hz0, hz1, hz2⟩ := info_parts infoByte
  have HT := Lib.hid hT; clear hT
  have hltw := h.lt
  go_enter Tryd.func40, Tryd.ntmps40
  go_wp2_with (go_at_call 61; refine (bCheck HT.out b l _ h).mono ?_)
  rintro e w1 ⟨rfl, ⟨v, hbk, hown, hne, hnil⟩, hk1⟩
  have HK := Lib.hid hk1; clear hk1
  have HN := Lib.hid hnil; clear hnil
  have hlt : b < w1.heap.size := (Array.getElem?_eq_some_iff.1 hbk).1
  have c0 : w1.cell? ⟨b, 0, none⟩ = some (.pointer (some ⟨b, 0, none⟩)) := by rw [Lib.cell_of_heap hbk]; rfl
  have c1 : w1.cell? ⟨b, 1, none⟩ = some v := by rw [Lib.cell_of_heap hbk]; rfl
  go_wp2_with (at_builtin; refine wpApp_row rfl _ _ 54 rfl b 5 i0 (.int .u8 0) 1 1 Tryd.underlying54 hi hz0 hz1 hz2 rfl (by decide) _ _ _ rfl (hown.alloc _) ⟨w1.heap.size, 0, none⟩ 1 1 [.int .u8 c.toNat] rfl rfl ?c1 ?c2 ?c3 ?c4 ?c5 ?_)
  case c1 =>
    intro j u hj
    match j, hj with
    | 0, hj => simp at hj; subst hj; simp [Addr.add]
  case c2 => intro u hu; simp at hu; subst hu; rfl
  case c3 => unfold maxLen; omega
  case c4 => omega
  case c5 => simp; omega
  intro v' w2 hown' hgrow _ hat
  have HAT := Lib.hid hat; clear hat
  have hb2 : w2.heap[b]? = some (.cells #[.pointer (some ⟨b, 0, none⟩), v] T (0, 0)) := by
    rw [hgrow.block b (by simp; omega) (fun e => hne e.symm), Lib.alloc_old w1 _ b hlt]
    exact hbk
  have HG := Lib.hid hgrow; clear hgrow
  have HO := Lib.hid hown; clear hown
  have d0 : w2.cell? ⟨b, 0, none⟩ = some (.pointer (some ⟨b, 0, none⟩)) := by rw [Lib.cell_of_heap hb2]; rfl
  have d1 : w2.cell? ⟨b, 1, none⟩ = some v := by rw [Lib.cell_of_heap hb2]; rfl
  have f1 : w2.frozen? ⟨b, 1, none⟩ = false := Lib.frozen_of_heap hb2 1
  have HNE := Lib.hid hne; clear hne
  obtain ⟨ao, n', cap, rfl⟩ : ∃ ao n' cap, v' = .slice ao n' cap := by
    rcases hown'.2 with ⟨hv, _⟩ | ⟨g, cap, cur, fz, hv, _⟩
    · exact ⟨_, _, _, hv⟩
    · exact ⟨_, _, _, hv⟩
  have HO' := Lib.hid hown'; clear hown'
  go_wp2
  go_ret
  have hput := Lib.BuilderAtF.put (T := T) (e := 5) (B := b) (Nat.le_refl _) hb2 (bs' := Lib.byteCells (l ++ [c])) (by
    rw [Lib.byteCells_length, List.length_append, Lib.byteCells_append]; exact HO'.out) HT.out.ne
  refine ⟨rfl, ?_, HK.out.trans ⟨?_, ?_, ?_⟩⟩
  · obtain ⟨_, v2, hv2, ho2, hn2⟩ := hput
    exact ⟨_, v2, .inr rfl, hv2, by rw [Lib.byteCells_length] at ho2; exact ho2, hn2, fun he => by simp at he⟩
  · exact ((((Below.refl b w1).alloc (by omega) _).grown HG.out (by simp; omega) (fun k hk => (HO.out.lt k hk).1))).setCell (p := ⟨b, 1, none⟩) (Nat.le_refl _) _
  · exact ((((Lib.OthersKept.refl _ _ w1).alloc _).grown HG.out (Lib.ownsRowF_kind (HO.out.alloc _)))).setCell ⟨b, 1, none⟩ rfl _
  · refine kept_of hbk (show (w2.setCell ⟨b, 1, none⟩ (.slice ao n' cap)).heap[b]? = some (.cells #[.pointer (some ⟨b, 0, none⟩), .slice ao n' cap] T (0, 0)) by simp [World.setCell, Array.getElem?_modify, hb2]) ?_ ?_
    · intro c hc hcb hn
      rw [Below.heap_setCell _ _ _ _ hcb, HG.out.block c (by simp; omega) (fun e => hn e.symm), Lib.alloc_old w1 _ c hc]
    · intro g hg
      rcases HAT.out g hg with h | h
      · exact .inl h
      · exact .inr (by omega)

theorem freeze_other (w : World) (a : Addr) (n k : Nat) (h : k ≠ a.block) : (w.freeze a n).heap[k]? = w.heap[k]? := by
  unfold World.freeze
  split
  · rfl
  · simp only [Array.getElem?_modify]
    rw [if_neg (by omega)]
theorem froze_kept {b g n T : Nat} {p : Value} {l cap : Nat} {w : World} (hb : w.heap[b]? = some (.cells #[p, .slice (some ⟨g, 0, none⟩) l cap] T (0, 0))) (hgb : g ≠ b) {c : Nat} (hn : NB b c w) :
    (w.drew.freeze ⟨g, 0, none⟩ n).heap[c]? = w.heap[c]? ∧ NB b c (w.drew.freeze ⟨g, 0, none⟩ n) := by
  have hcg : c ≠ g := fun e => hn _ _ _ _ hb (by simp [Value.ownBlock, e])
  refine ⟨freeze_other _ _ _ _ hcg, ?_⟩
  intro q u T2 fz2 hq
  rw [freeze_other _ _ _ _ (fun e => hgb e.symm)] at hq
  exact hn _ _ _ _ hq
theorem cellsByte : Tryd.prog.cellsOf 5 = 1 := by kernel_rfl
set_option maxHeartbeats 1000000 in
set_option maxRecDepth 100000 in
theorem bText {T : Nat} (b : Nat) (l : List UInt8) (w : World) (h : Wr T b l w) :
    Calls Tryd.prog 43 #[.pointer (some ⟨b, 0, none⟩)] w fun e w' => e = .returned (.string ⟨l.toArray⟩) ∧ Kp b w w' := by
  obtain ⟨p, v, hp, hbk, hown, hne, hnil⟩ := h
  match l, hown, hnil with
  | [], _, hnil =>
    obtain rfl := hnil rfl
    have c1 : w.drew.cell? ⟨b, 1, none⟩ = some (.slice none 0 0) := by
      have : w.drew.heap[b]? = some (.cells #[p, .slice none 0 0] T (0, 0)) := hbk
      rw [Lib.cell_of_heap this]; rfl
    have hSD : (Builtin.unsafeSliceData_ #[54] 80 #[.slice none 0 0]).run Tryd.prog w.drew = .ok (.pointer none) w.drew := rfl
    have hUS : ∀ w : World, (Builtin.unsafeString_ #[80, 3] 9 #[.pointer none, .int .i64 0]).run Tryd.prog w = .ok (.string .empty) w := fun w => Lib.run_unsafeString_none w _ _ _ _
    clear hp hne hnil
    go_enter Tryd.func43, Tryd.ntmps43
    go_wp2
    go_region
    all_goals (go_wp2; go_ret; exact ⟨rfl, (Below.refl b w).drew, (Lib.OthersKept.refl _ _ w).drew, fun _ _ _ h => ⟨rfl, h⟩⟩)
  | x :: r, hown, _ =>
    have hl0 : (x :: r).length ≠ 0 := by simp
    revert hown hl0
    generalize hL : x :: r = L
    intro hown hl0
    clear hL
    obtain ⟨g, cap, cur, fz, rfl, hbg, hg, hfz, hnc, hcm, hcs, htake⟩ : ∃ g cap cur fz, v = .slice (some ⟨g, 0, none⟩) L.length cap ∧ b ≤ g ∧ w.heap[g]? = some (.cells cur 5 fz) ∧ fz.2 ≤ L.length * 1 ∧ L.length ≤ cap ∧ cap ≤ maxLen ∧ cur.size = cap * 1 ∧ cur.toList.take (L.length * 1) = Lib.byteCells L := by
      rcases hown.2 with ⟨_, hz⟩ | ⟨g, cap, cur, fz, hv, r⟩
      · exact absurd hz hl0
      · exact ⟨g, cap, cur, fz, hv, r⟩
    have c1 : w.drew.cell? ⟨b, 1, none⟩ = some (.slice (some ⟨g, 0, none⟩) L.length cap) := by
      have : w.drew.heap[b]? = some (.cells #[p, .slice (some ⟨g, 0, none⟩) L.length cap] T (0, 0)) := hbk
      rw [Lib.cell_of_heap this]; rfl
    have hSD : (Builtin.unsafeSliceData_ #[54] 80 #[.slice (some ⟨g, 0, none⟩) L.length cap]).run Tryd.prog w.drew = .ok (.pointer (some ⟨g, 0, none⟩)) w.drew :=
      Lib.run_unsafeSliceData_row _ _ _ _ _ _ (by omega)
    have hUS : (Builtin.unsafeString_ #[80, 3] 9 #[.pointer (some ⟨g, 0, none⟩), .int .i64 L.length]).run Tryd.prog w.drew = .ok (.string ⟨L.toArray⟩) (w.drew.freeze ⟨g, 0, none⟩ L.length) := by
      refine Lib.run_unsafeString_row w.drew 80 3 9 5 Tryd.underlying80 cellsByte g cur.size (by have hg' : w.drew.heap[g]? = some (.cells cur 5 fz) := hg; simp [World.shape?, hg']) L (by intro e; rw [e] at hl0; exact hl0 rfl) (by omega) (by unfold maxLen at hcm; omega) ?_
      intro j x hx
      exact hown.cells (g := g) rfl j (.int .u8 x.toNat) (by simp [Lib.byteCells, hx])
    have HG := Lib.hid hg; clear hg
    have HB := Lib.hid hbg; clear hbg
    have HBK := Lib.hid hbk; clear hbk
    have HNE := Lib.hid (show g ≠ b from fun e => hne (by simp [Value.ownBlock, e])); clear hne
    clear hp hnil hown hfz hnc hcm hcs htake
    go_enter Tryd.func43, Tryd.ntmps43
    go_wp2
    go_region
    all_goals (go_wp2; go_ret; exact ⟨rfl, Lib.below_freeze (Below.drew (Below.refl b w)) (p := ⟨g, 0, none⟩) HB.out _, ((Lib.OthersKept.refl _ _ w).drew).freeze ⟨g, 0, none⟩ _ ⟨cur, fz, HG.out⟩, fun c _ _ hn => froze_kept HBK.out HNE.out hn⟩)
end Go.Proofs.YtcigdlpljjkplaaDoor
