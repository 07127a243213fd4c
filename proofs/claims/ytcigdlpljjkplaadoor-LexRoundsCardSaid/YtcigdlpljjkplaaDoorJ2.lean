/- The contracts of left and lent. Conditions: the tokens lie as they are told; at most 2^31 of them. -/
import Derived.Test.YtcigdlpljjkplaaDoorJ1
import Derived.Test.YtcigdlpljjkplaaDoorL6
import Derived.Laws.AppendOwn
namespace Go.Proofs.YtcigdlpljjkplaaDoor
open Go.RowKit

/-- Nine marks behind n tokens. -/
def MarksAt (w : World) (b n : Nat) : Prop := ∀ j : Nat, j < 9 → TkCell w b ((n + j) * 4) ⟨77, ⟨#[]⟩, (j : Int), 0⟩
set_option maxHeartbeats 4000000 in
set_option maxRecDepth 100000 in
theorem kLeft (l : List Tk) (b cap : Nat) (q : Option Addr) (d : Nat) (w : World) (hb0 : b < w.heap.size) (hp : TksAt w (some ⟨b, 0, none⟩) l) (hq : TksAt w q l) (hm : MarksAt w b l.length) (hn : l.length ≤ 2147483647) (hc : l.length + 9 ≤ cap) (hcm : cap ≤ maxLen) :
    Calls Tryd.prog 21 #[.slice (some ⟨b, 0, none⟩) l.length cap, .slice q l.length d] w fun e w' => e = .returned (.bool true) ∧ Below w.heap.size w w' := by
  unfold maxLen at hcm
  have HM := Lib.hid hm; clear hm
  have HS := Lib.hid (kSame l (some ⟨b, 0, none⟩) q cap d w hp hq (by unfold maxLen; omega)); clear hp hq
  go_enter Tryd.func21, Tryd.ntmps21
  go_wp2_with fail
  refine HS.out.mono ?_
  rintro e w1 ⟨rfl, hb1⟩
  have HB1 := Lib.hid hb1; clear hb1
  clear HS
  go_wp2_with fail
  go_loopw [6] (fun i wr => ∃ k : Nat, k ≤ 9 ∧ i = .int .i64 k ∧ Below w.heap.size w wr) (fun i _ => 9 - (intOf i).toNat)
  case atStart => exact ⟨0, by omega, rfl, HB1.out⟩
  case round =>
    obtain ⟨k, hk, rfl, hb⟩ := hrel
    have Hb := Lib.hid hb; clear hb
    by_cases hlt : k < 9
    · obtain ⟨c0, c1, c2, c3⟩ := (HM.out k hlt).up Hb.out hb0
      have hk0 : (0 : Int) ≤ (l.length : Int) + (k : Int) := by omega
      have hki : (l.length : Int) + (k : Int) < (l.length : Int) + 9 := by omega
      go_wp2_with fail
      go_roundw
      case rel => exact ⟨k + 1, by omega, by go_num, Hb.out⟩
      case measure => simp [intOf]; omega
    · go_wp2_with fail
      go_ret
      exact ⟨rfl, Hb.out⟩
theorem own_sliceT {w : World} {B n m : Nat} {e : TypeId} {v : Value} {xs : List Value} (h : w.ownsRow B e m v n xs) : ∃ p cap, v = .slice p n cap := by
  rcases h.2 with ⟨hv, hn⟩ | ⟨g, cap, cur, hv, _⟩
  · exact ⟨none, 0, by rw [hv, hn]⟩
  · exact ⟨_, cap, hv⟩
theorem ownT_below {w w' : World} {B n m : Nat} {e : TypeId} {v : Value} {xs : List Value} (h : w.ownsRow B e m v n xs) (hb : Below w.heap.size w w') : w'.ownsRow B e m v n xs := by
  refine ⟨h.1, ?_⟩
  rcases h.2 with h2 | ⟨g, cap, cur, hv, hB, hg, h3⟩
  · exact .inl h2
  · exact .inr ⟨g, cap, cur, hv, hB, (hb.block g (Array.getElem?_eq_some_iff.1 hg).1).trans hg, h3⟩
theorem ownT_lt {w : World} {B n m : Nat} {e : TypeId} {v : Value} {xs : List Value} (h : w.ownsRow B e m v n xs) {g : Nat} (hg : v.ownBlock = some g) : B ≤ g := by
  rcases h.2 with ⟨rfl, _⟩ | ⟨g', cap, cur, rfl, hB, _⟩
  · simp [Value.ownBlock] at hg
  · simp [Value.ownBlock] at hg; omega
theorem ownT_at {w : World} {B n m : Nat} {e : TypeId} {v : Value} {xs : List Value} (h : w.ownsRow B e m v n xs) (hn : 0 < n) :
    ∃ g cap cur, v = .slice (some ⟨g, 0, none⟩) n cap ∧ B ≤ g ∧ w.heap[g]? = some (.cells cur e (0, 0)) ∧ n ≤ cap ∧ cap ≤ maxLen ∧ cur.size = cap * m ∧ cur.toList.take (n * m) = xs := by
  rcases h.2 with ⟨_, h0⟩ | h2
  · omega
  · exact h2
theorem tk_one (x : Tk) : ∀ u ∈ x.cells, u.oneCell' = true := by
  intro u hu
  simp [Tk.cells] at hu
  rcases hu with rfl | rfl | rfl | rfl <;> rfl
def markT (j : Nat) : Tk := ⟨77, ⟨#[]⟩, j, 0⟩
def marksL (k : Nat) : List Value := (List.range k).flatMap fun j => (markT j).cells
theorem marks_snoc (k : Nat) : marksL (k + 1) = marksL k ++ (markT k).cells := by
  simp [marksL, List.range_succ]
theorem tks_len (l : List Tk) : (l.flatMap Tk.cells).length = l.length * 4 := by
  induction l with
  | nil => rfl
  | cons x r ih => simp [Tk.cells] at ih ⊢; omega
theorem tks_at : ∀ (l : List Tk) (i : Nat) (h : i < l.length) (q : Nat), q < 4 → (l.flatMap Tk.cells)[i * 4 + q]? = l[i].cells[q]?
  | x :: r, 0, _, q, hq => by
    rw [List.flatMap_cons, List.getElem?_append_left (by simp [Tk.cells]; omega)]
    simp
  | x :: r, i + 1, h, q, hq => by
    rw [List.flatMap_cons, List.getElem?_append_right (by simp [Tk.cells]; omega)]
    have : (i + 1) * 4 + q - x.cells.length = i * 4 + q := by simp [Tk.cells]; omega
    rw [this]
    exact tks_at r i (by simpa using h) q hq
/-- Cells of a block that begin with these tokens. -/
theorem cells_take {w : World} {g n : Nat} {cur : Array Value} {t : TypeId} {fz : Nat × Nat} {xs : List Tk} (hg : w.heap[g]? = some (.cells cur t fz)) (htk : cur.toList.take (n * 4) = xs.flatMap Tk.cells) (hn : xs.length = n) :
    ∀ i, (h : i < xs.length) → TkCell w g (i * 4) xs[i] := by
  intro i hi
  have hq : ∀ q, q < 4 → w.cell? ⟨g, i * 4 + q, none⟩ = xs[i].cells[q]? := fun q hq => by
    rw [Lib.cell_of_heap hg]
    have h1 := congrArg (·[i * 4 + q]?) htk
    simp only [tks_at xs i hi q hq, List.getElem?_take] at h1
    rw [if_pos (by omega)] at h1
    rw [← h1]
    simp
  exact ⟨hq 0 (by omega), hq 1 (by omega), hq 2 (by omega), hq 3 (by omega)⟩
theorem marks_flat (k : Nat) : marksL k = ((List.range k).map markT).flatMap Tk.cells := by
  rw [marksL, List.flatMap_map]
theorem lent_fin (l : List Tk) (w : World) (g cap : Nat) (cur : Array Value) (hg : w.heap[g]? = some (.cells cur 36 (0, 0))) (_hcs : cur.size = cap * 4) (htk : cur.toList.take ((l.length + 9) * 4) = l.flatMap Tk.cells ++ marksL 9) (_hnc : l.length + 9 ≤ cap) :
    (∀ i, (h : i < l.length) → TkCell w g (i * 4) l[i]) ∧ MarksAt w g l.length := by
  rw [marks_flat, ← List.flatMap_append] at htk
  have h1 := cells_take hg htk (by simp)
  refine ⟨fun i hi => ?_, fun j hj => ?_⟩
  · have h2 := h1 i (by simp; omega)
    rw [List.getElem_append_left hi] at h2
    exact h2
  · have h2 := h1 (l.length + j) (by simp; omega)
    rw [List.getElem_append_right (by omega)] at h2
    simp only [Nat.add_sub_cancel_left, List.getElem_map, List.getElem_range] at h2
    exact h2
theorem tks_one (l : List Tk) : ∀ u ∈ l.flatMap Tk.cells, u.oneCell' = true := by
  intro u hu
  obtain ⟨x, _, h⟩ := List.mem_flatMap.1 hu
  exact tk_one x u h
theorem tks_read {w : World} {ad : Addr} {l : List Tk} (h : TksAt w (some ad) l) : ∀ j u, (l.flatMap Tk.cells)[j]? = some u → w.cell? (ad.add j) = some u := by
  intro j u hj
  have hlt : j < l.length * 4 := by
    rw [← tks_len l]
    exact (List.getElem?_eq_some_iff.1 hj).1
  rcases h with h0 | ⟨b, o, hp, ha, hc⟩
  · omega
  · obtain rfl : ad = ⟨b, o, none⟩ := by simpa using hp
    have h3 : (⟨b, o, none⟩ : Addr).add j = ⟨b, o + j, none⟩ := by unfold Addr.add; split <;> simp_all
    rw [h3]
    have hi : j / 4 < l.length := by omega
    have h4 := hc (j / 4) hi
    have h5 := tks_at l (j / 4) hi (j % 4) (by omega)
    rw [show j / 4 * 4 + j % 4 = j by omega, hj] at h5
    rcases (show j % 4 = 0 ∨ j % 4 = 1 ∨ j % 4 = 2 ∨ j % 4 = 3 by omega) with e | e | e | e
    all_goals
      rw [e] at h5
      simp [Tk.cells] at h5
      subst h5
    · rw [show o + j = o + j / 4 * 4 by omega]; exact h4.c0
    · rw [show o + j = o + j / 4 * 4 + 1 by omega]; exact h4.c1
    · rw [show o + j = o + j / 4 * 4 + 2 by omega]; exact h4.c2
    · rw [show o + j = o + j / 4 * 4 + 3 by omega]; exact h4.c3
def LentPost (l : List Tk) (w : World) (e : Ending) (w' : World) : Prop :=
  ∃ b cap cur, e = .returned (.slice (some ⟨b, 0, none⟩) l.length cap) ∧ w.heap.size ≤ b ∧ w'.heap[b]? = some (.cells cur 36 (0, 0)) ∧ cur.size = cap * 4 ∧ l.length + 9 ≤ cap ∧ cap ≤ maxLen ∧
      (∀ i, (h : i < l.length) → TkCell w' b (i * 4) l[i]) ∧ MarksAt w' b l.length ∧ Below w.heap.size w w'
def LentRel (l : List Tk) (w : World) (v i : Value) (wr : World) : Prop :=
  ∃ k : Nat, k ≤ 9 ∧ i = .int .i64 k ∧ wr.ownsRow w.heap.size 36 4 v (l.length + k) (l.flatMap Tk.cells ++ marksL k) ∧ Below w.heap.size w wr
set_option maxHeartbeats 4000000 in
set_option maxRecDepth 100000 in
theorem kLent (l : List Tk) (p : Option Addr) (c : Nat) (w : World) (hp : TksAt w p l) (hn : l.length ≤ 2147483647) (hnil : p = none → c = 0) :
    Calls Tryd.prog 18 #[.slice p l.length c] w (LentPost l w) := by
  obtain ⟨i0, hi, hzz⟩ := Option.map_eq_some_iff.1 infoTk
  simp only [Prod.mk.injEq] at hzz
  obtain ⟨hz0, hz1, hz2⟩ := hzz
  have HI := Lib.hid hi; clear hi
  have HZ0 := Lib.hid hz0; clear hz0
  have HZ1 := Lib.hid hz1; clear hz1
  have HZ2 := Lib.hid hz2; clear hz2
  have HOE := Lib.hid (show (w.alloc (.cells #[] 36)).ownsRow w.heap.size 36 4 (.slice (some ⟨w.heap.size, 0, none⟩) 0 0) 0 [] from ⟨rfl, .inr ⟨w.heap.size, 0, #[], rfl, Nat.le_refl _, heap_alloc_new w _, Nat.le_refl _, by unfold maxLen; omega, rfl, rfl⟩⟩)
  rcases p with _ | ⟨ad⟩
  · obtain rfl : c = 0 := hnil rfl
    have hl : l = [] := by
      rcases hp with h0 | ⟨a, o, h, _⟩
      · exact List.eq_nil_of_length_eq_zero h0
      · exact absurd h (by simp)
    have hl0 : l.length = 0 := by rw [hl]; rfl
    have HL := Lib.hid hl
    rw [hl0]
    have HL0 := Lib.hid hl0
    clear hp hnil hl hl0
    go_enter Tryd.func18, Tryd.ntmps18
    go_wp2_with fail
    go_loopw [3, 4] (fun v i wr => LentRel l w v i wr) (fun _ i _ => 9 - (intOf i).toNat)
    case atStart => exact ⟨0, by omega, rfl, by rw [HL0.out, HL.out]; exact HOE.out, below_alloc _ _⟩
    case round =>
      obtain ⟨k, hk, rfl, hown, hb⟩ := hrel
      have Hb := Lib.hid hb; clear hb
      have hsz := Hb.out.size
      obtain ⟨pn, cn, rfl⟩ := own_sliceT hown
      have HO := Lib.hid hown; clear hown
      by_cases hlt : k < 9
      · go_wp2_with (at_builtin; refine wpList_append_own _ rfl _ _ 22 rfl w.heap.size 36 i0 _ 4 40 Tryd.underlying22 HI.out HZ0.out HZ1.out HZ2.out rfl (by decide) _ _ _ rfl (ownT_below HO.out (below_alloc _ _)) ⟨wr.heap.size, 0, none⟩ 1 1 (markT k).cells rfl rfl (new_cells wr (markT k).cells 36) ?c1 ?c2 ?c3 ?c4 ?_)
        case c1 => exact tk_one _
        case c2 => unfold maxLen; omega
        case c3 => omega
        case c4 => simp; omega
        intro v' w2 hown' hgrow _
        have HO' := Lib.hid hown'; clear hown'
        have HGr := Lib.hid hgrow; clear hgrow
        go_wp2_with fail
        go_roundw
        case rel => exact ⟨k + 1, by omega, by go_num, by have h9 := HO'.out; rw [← marks_snoc] at h9; exact h9, (Hb.out.alloc hsz _).grown HGr.out (by simp; omega) (fun g hg => ownT_lt HO.out hg)⟩
        case measure => simp [intOf]; omega
      · obtain rfl : k = 9 := by omega
        obtain ⟨g, cap, cur, hv, hbg, hg, hnc, hcm, hcs, htk⟩ := ownT_at HO.out (by omega)
        obtain ⟨rfl, rfl⟩ : pn = some ⟨g, 0, none⟩ ∧ cn = cap := by simpa using hv
        have HF := Lib.hid (lent_fin l wr g cn cur hg hcs htk hnc)
        have HG := Lib.hid hg
        clear hg htk hv
        go_wp2_with fail
        go_ret
        exact ⟨g, cn, cur, by rw [HL0.out]; first | done | rfl | simp, hbg, HG.out, hcs, hnc, hcm, HF.out.1, HF.out.2, Hb.out⟩
  · have HP := Lib.hid hp; clear hp hnil
    go_enter Tryd.func18, Tryd.ntmps18
    go_wp2_with (at_builtin; refine wpList_append_own _ rfl _ _ 22 rfl w.heap.size 36 i0 _ 4 40 Tryd.underlying22 HI.out HZ0.out HZ1.out HZ2.out rfl (by decide) _ _ _ rfl HOE.out ad l.length c (l.flatMap Tk.cells) rfl ?c0 ?c5 ?c1 ?c2 ?c3 ?c4 ?_)
    case c0 => exact tks_len l
    case c5 => exact tks_read (HP.out.up (below_alloc _ _))
    case c1 => exact tks_one l
    case c2 => unfold maxLen; omega
    case c3 => omega
    case c4 => simp
    intro v' w1 hown' hgrow _
    have HO' := Lib.hid hown'; clear hown'
    have HGr := Lib.hid hgrow; clear hgrow
    have HB1 := Lib.hid ((below_alloc w (.cells #[] 36)).grown HGr.out (by simp) (fun g hg => ownT_lt HOE.out hg))
    go_wp2_with fail
    go_loopw [3, 4] (fun v i wr => LentRel l w v i wr) (fun _ i _ => 9 - (intOf i).toNat)
    case atStart => exact ⟨0, by omega, rfl, by rw [show l.length + 0 = 0 + l.length by omega]; simpa [marksL] using HO'.out, HB1.out⟩
    case round =>
      obtain ⟨k, hk, rfl, hown, hb⟩ := hrel
      have Hb := Lib.hid hb; clear hb
      have hsz := Hb.out.size
      obtain ⟨pn, cn, rfl⟩ := own_sliceT hown
      have HO := Lib.hid hown; clear hown
      by_cases hlt : k < 9
      · go_wp2_with (at_builtin; refine wpList_append_own _ rfl _ _ 22 rfl w.heap.size 36 i0 _ 4 40 Tryd.underlying22 HI.out HZ0.out HZ1.out HZ2.out rfl (by decide) _ _ _ rfl (ownT_below HO.out (below_alloc _ _)) ⟨wr.heap.size, 0, none⟩ 1 1 (markT k).cells rfl rfl (new_cells wr (markT k).cells 36) ?c1 ?c2 ?c3 ?c4 ?_)
        case c1 => exact tk_one _
        case c2 => unfold maxLen; omega
        case c3 => omega
        case c4 => simp; omega
        intro v' w2 hown' hgrow _
        have HO' := Lib.hid hown'; clear hown'
        have HGr := Lib.hid hgrow; clear hgrow
        go_wp2_with fail
        go_roundw
        case rel => exact ⟨k + 1, by omega, by go_num, by have h9 := HO'.out; rw [← marks_snoc] at h9; exact h9, (Hb.out.alloc hsz _).grown HGr.out (by simp; omega) (fun g hg => ownT_lt HO.out hg)⟩
        case measure => simp [intOf]; omega
      · obtain rfl : k = 9 := by omega
        obtain ⟨g, cap, cur, hv, hbg, hg, hnc, hcm, hcs, htk⟩ := ownT_at HO.out (by omega)
        obtain ⟨rfl, rfl⟩ : pn = some ⟨g, 0, none⟩ ∧ cn = cap := by simpa using hv
        have HF := Lib.hid (lent_fin l wr g cn cur hg hcs htk hnc)
        have HG := Lib.hid hg
        clear hg htk hv
        go_wp2_with fail
        go_ret
        exact ⟨g, cn, cur, rfl, hbg, HG.out, hcs, hnc, hcm, HF.out.1, HF.out.2, Hb.out⟩
end Go.Proofs.YtcigdlpljjkplaaDoor
