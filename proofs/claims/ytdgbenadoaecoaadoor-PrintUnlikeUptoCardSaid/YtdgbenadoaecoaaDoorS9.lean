/- The contract of print.Rule. Conditions: the rule lies in memory as it is told. -/
import Derived.Test.YtdgbenadoaecoaaDoorS8
namespace Go.Proofs.YtdgbenadoaecoaaDoor
open Go.RowKit

theorem agL_le {x : Ag} (hr : TmR x.t.v x.t.x.k x.t.x.n x.t.x.t) (ho : agOk x = true) : (agL x).length ≤ 1000 := by
  unfold agL
  split
  · rename_i h0
    unfold agOk at ho
    rw [if_pos h0, solidB, Bool.and_eq_true] at ho
    have := termL_le hr ho.2
    omega
  · rename_i h0
    split
    · simp
    · rename_i h1
      unfold agOk at ho
      rw [if_neg h0, if_neg h1] at ho
      split at ho
      · rename_i h2
        have h3 : ∀ i, i < 5 → (bl (foldsL.getD i ⟨#[]⟩)).length ≤ 3 := by decide
        have h4 := h3 x.g.toNat (by omega)
        simp only [Bool.and_eq_true, solidB] at ho
        have h5 := termL_le hr ho.2.2
        have h6 : termL x.t = bl x.t.v := by
          unfold termL
          rw [if_neg]
          intro h9
          rw [h9] at ho
          exact absurd ho.1 (by decide)
        rw [h6] at h5
        simp only [List.length_append, List.length_cons, List.length_nil]
        omega
      · cases ho
theorem ruL_le {d : Nat} {p : ByteArray} {hs : List Ag} {bs : List (Lt d)} (hr : RuR p hs bs) (ho : ruOk p hs bs = true) : (ruL p hs bs).length ≤ 9000000 := by
  obtain ⟨h24, h16, hao, hlo⟩ := ruOk_parts ho
  have hn : nameB (bl p) = true := by
    simp only [ruOk, Bool.and_eq_true] at ho
    exact ho.1.1.1.1.1
  have h1 : ∀ (f : Bool) (l : List (Lt d)), (∀ x ∈ l, (litL x).length ≤ 500000) → (bodL f l).length ≤ 500004 * l.length := by
    intro f l
    induction l generalizing f with
    | nil => intro _; simp [bodL]
    | cons x r ih =>
      intro hl
      have a1 := hl x (by simp)
      have a2 := ih false (fun y hy => hl y (by simp [hy]))
      have a3 : (if f then [32, 58, 45, 32] else [44, 32] : List UInt8).length ≤ 4 := by cases f <;> simp
      simp only [bodL, List.length_append, List.length_cons]
      omega
  have h2 := h1 true bs (fun x hx => litL_le (hr.b_ x hx) (hlo x hx))
  have h3 : ∀ (f : Bool) (l : List (List UInt8)), (∀ x ∈ l, x.length ≤ 1000) → (sepL f l).length ≤ 1002 * l.length := by
    intro f l
    induction l generalizing f with
    | nil => intro _; simp [sepL]
    | cons x r ih =>
      intro hl
      have a1 := hl x (by simp)
      have a2 := ih false (fun y hy => hl y (by simp [hy]))
      cases f <;> simp [sepL] <;> omega
  have h4 := h3 true (hs.map agL) (fun x hx => by
    obtain ⟨a, ha, rfl⟩ := List.mem_map.1 hx
    exact agL_le (hr.h_ a ha).2 (hao a ha))
  have h5 := nameB_le hn
  have h6 : (if (hs.map agL).isEmpty then [] else [41] : List UInt8).length ≤ 1 := by split <;> simp
  simp only [ruL, colsL, List.length_append, List.length_cons, List.length_nil, List.length_map] at h4 ⊢
  omega
set_option maxHeartbeats 2000000 in
theorem pToldR (d : Nat) (p : ByteArray) (hp : Option Addr) (hc : Nat) (hs : List Ag) (bp : Option Addr) (bc : Nat) (bs : List (Lt d)) (w : World) (hh : AgsAt w hp hs) (hb : LtsAt w d bp bs) (hr : RuR p hs bs) (hT : Tabs w) (hRl : RelsAt w) (hFo : FoldsAt w) :
    Calls Tryd.prog 22 #[.agg #[.string p, .slice hp hs.length hc, .slice bp bs.length bc], .func (.func 18) #[] #[], .func (.func 19) #[] #[]] w (TextPost (ruOk p hs bs) (ruL p hs bs) w) := by
  have HH := Lib.hid hh; clear hh
  have HB := Lib.hid hb; clear hb
  have HR := Lib.hid hr; clear hr
  have HT := Lib.hid hT; clear hT
  have HRL := Lib.hid hRl; clear hRl
  have HFO := Lib.hid hFo; clear hFo
  have HC := Lib.hid (fun w' h1 h2 => tCheckRule d p hp hc hs bp bc bs w' h1 h2 HR.out)
  have HD := Lib.hid (fun w0 b pre w' h1 h2 h3 h4 h5 h6 h7 h8 h9 => pRule w0 b pre d p hp hc hs bp bc bs w' h1 h2 h3 h4 h5 h6 HR.out h7 h8 h9)
  rcases ho : ruOk p hs bs with _ | _
  all_goals have HO := Lib.hid ho
  all_goals rw [← ho]
  all_goals clear ho
  · go_enter Tryd.func22, Tryd.ntmps22
    go_wp2_with fail
    refine (HC.out _ (HH.out.up (below_alloc _ _)) (HB.out.up (below_alloc _ _))).mono ?_
    rintro e w1 ⟨rfl, hb⟩
    have Hb := Lib.hid hb; clear hb
    rw [HO.out, show okCode false 40 = 40 from rfl]
    go_wp2_with fail
    go_ret2
    exact ⟨ret_no HO.out, (below_alloc _ _).trans (Hb.out.mono (by simp))⟩
  · have HL := Lib.hid (ruL_le HR.out HO.out)
    obtain ⟨W, hW⟩ : ∃ W, W = w.alloc (.cells #[.string p, .slice hp hs.length hc, .slice bp bs.length bc] 25) := ⟨_, rfl⟩
    have HBW := Lib.hid (show Below w.heap.size w W by rw [hW]; exact below_alloc _ _)
    have hsW : W.heap.size = w.heap.size + 1 := by rw [hW]; simp
    have HBX := Lib.hid (show W.heap[w.heap.size]? = some (.cells #[.string p, .slice hp hs.length hc, .slice bp bs.length bc] 25 (0, 0)) by rw [hW]; exact heap_alloc_new w _)
    go_enter Tryd.func22, Tryd.ntmps22
    go_wp2_with fail
    rw [← hW]
    clear hW
    refine (HC.out _ (HH.out.up HBW.out) (HB.out.up HBW.out)).mono ?_
    rintro e w1 ⟨rfl, hb⟩
    obtain ⟨x0, x1, x2⟩ := three ((hb.block w.heap.size (by omega)).trans HBX.out)
    have Hb := Lib.hid (HBW.out.trans (hb.mono (by omega)))
    have hsz1 : w.heap.size < w1.heap.size := by have := hb.size; omega
    clear hb
    rw [HO.out, show okCode true 40 = 0 from rfl]
    go_wp2_with fail
    refine (HD.out w w1.heap.size [] _ ⟨by omega, Hb.out.trans ((below_alloc w1 _).mono (by omega))⟩ HT.out HRL.out HFO.out HH.out HB.out HO.out (wr_fresh _ w1) (by have := HL.out; simp; omega)).mono ?_
    rintro e w2 ⟨rfl, hw2, hk2⟩
    have H2 := Lib.hid hw2; clear hw2
    have HK2 := Lib.hid hk2; clear hk2
    clear x0 x1 x2
    go_wp2_with fail
    refine (bText w1.heap.size _ _ H2.out).mono ?_
    rintro e w3 ⟨rfl, hk3⟩
    have HK3 := Lib.hid hk3; clear hk3
    go_wp2_with fail
    go_ret2
    exact ⟨ret_yes HO.out, (Hb.out.trans ((below_alloc w1 _).mono (by omega))).trans ((HK2.out.trans HK3.out).below.mono (by omega))⟩
theorem pRuleT (d : Nat) (p : ByteArray) (hp : Option Addr) (hc : Nat) (hs : List Ag) (bp : Option Addr) (bc : Nat) (bs : List (Lt d)) (w : World) (hh : AgsAt w hp hs) (hb : LtsAt w d bp bs) (hr : RuR p hs bs) (hT : Tabs w) (hRl : RelsAt w) (hFo : FoldsAt w) :
    Calls Tryd.prog 8 #[.agg #[.string p, .slice hp hs.length hc, .slice bp bs.length bc]] w (TextPost (ruOk p hs bs) (ruL p hs bs) w) := by
  have HC := Lib.hid (fun w' h1 h2 h3 h4 h5 => pToldR d p hp hc hs bp bc bs w' h1 h2 hr h3 h4 h5)
  have HH := Lib.hid hh; clear hh
  have HB := Lib.hid hb; clear hb
  have HT := Lib.hid hT; clear hT
  have HRL := Lib.hid hRl; clear hRl
  have HFO := Lib.hid hFo; clear hFo
  clear hr
  go_enter Tryd.func8, Tryd.ntmps8
  go_wp2_with fail
  refine (HC.out _ (HH.out.up (below_alloc _ _)) (HB.out.up (below_alloc _ _)) (HT.out.alloc _) (HRL.out.at (below_alloc _ _)) (HFO.out.at (below_alloc _ _))).mono ?_
  rintro e w1 ⟨rfl, hb⟩
  have Hb := Lib.hid hb; clear hb
  go_wp2_with fail
  go_ret2
  exact ⟨rfl, (below_alloc _ _).trans (Hb.out.mono (by simp))⟩
end Go.Proofs.YtdgbenadoaecoaaDoor
