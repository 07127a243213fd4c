/- The contracts of the reference's Rule and of BeyondRule. Conditions: the rule lies in memory as it is told. -/
import Derived.Test.YtdgbenadoaecoaaGreatDoorS15
namespace Go.Proofs.YtdgbenadoaecoaaGreatDoor
open Go.RowKit

set_option maxHeartbeats 2000000 in
theorem rRuleT (d : Nat) (p : ByteArray) (hp : Option Addr) (hc : Nat) (hs : List Ag) (bp : Option Addr) (bc : Nat) (bs : List (Lt d)) (w : World) (hh : AgsAt w hp hs) (hb : LtsAt w d bp bs) (hr : RuR p hs bs) :
    Calls Tryz.prog 7 #[.agg #[.string p, .slice hp hs.length hc, .slice bp bs.length bc]] w (TextPost (ruOk p hs bs) (ruL p hs bs) w) := by
  have HC := Lib.hid (fun w' h1 h2 => rCheckRule d p hp hc hs bp bc bs w' h1 h2 hr)
  have HD := Lib.hid (fun w' h1 h2 h3 => rRuleL d p hp hc hs bp bc bs w' h1 h2 hr h3)
  have HH := Lib.hid hh; clear hh
  have HB := Lib.hid hb; clear hb
  clear hr
  rcases ho : ruOk p hs bs with _ | _
  all_goals have HO := Lib.hid ho
  all_goals rw [← ho]
  all_goals clear ho
  · go_enter Tryz.func7, Tryz.ntmps7
    go_wp2_with fail
    refine (HC.out _ (HH.out.up (below_alloc _ _)) (HB.out.up (below_alloc _ _))).mono ?_
    rintro e w1 ⟨rfl, hb⟩
    have Hb := Lib.hid hb; clear hb
    rw [HO.out, show okCode false 40 = 40 from rfl]
    go_wp2_with fail
    go_ret2
    exact ⟨ret_no HO.out, (below_alloc _ _).trans (Hb.out.mono (by simp))⟩
  · obtain ⟨W, hW⟩ : ∃ W, W = w.alloc (.cells #[.string p, .slice hp hs.length hc, .slice bp bs.length bc] 25) := ⟨_, rfl⟩
    have HBW := Lib.hid (show Below w.heap.size w W by rw [hW]; exact below_alloc _ _)
    have hsW : W.heap.size = w.heap.size + 1 := by rw [hW]; simp
    have HBX := Lib.hid (show W.heap[w.heap.size]? = some (.cells #[.string p, .slice hp hs.length hc, .slice bp bs.length bc] 25 (0, 0)) by rw [hW]; exact heap_alloc_new w _)
    go_enter Tryz.func7, Tryz.ntmps7
    go_wp2_with fail
    rw [← hW]
    clear hW
    refine (HC.out _ (HH.out.up HBW.out) (HB.out.up HBW.out)).mono ?_
    rintro e w1 ⟨rfl, hb⟩
    obtain ⟨x0, x1, x2⟩ := three ((hb.block w.heap.size (by omega)).trans HBX.out)
    have Hb := Lib.hid (HBW.out.trans (hb.mono (by omega))); clear hb
    rw [HO.out, show okCode true 40 = 0 from rfl]
    go_wp2_with fail
    refine (HD.out _ (HH.out.up Hb.out) (HB.out.up Hb.out) HO.out).mono ?_
    rintro e w2 ⟨rfl, hb2⟩
    have Hb2 := Lib.hid (Hb.out.trans (hb2.mono Hb.out.size)); clear hb2
    clear x0 x1 x2
    go_wp2_with fail
    go_ret2
    exact ⟨ret_yes HO.out, Hb2.out⟩
set_option maxHeartbeats 2000000 in
theorem beyondRule (d : Nat) (p : ByteArray) (hp : Option Addr) (hn hc : Nat) (xs : List (Lt d)) (q : Option Addr) (cap : Nat) (w : World) (hh : hn ≤ 2932031007317) (hlen : xs.length ≤ 2932031007317) (hx : LtsAt w d q xs) (hb : ∀ x ∈ xs, LtB x) :
    Calls Tryz.prog 5 #[.agg #[.string p, .slice hp hn hc, .slice q xs.length cap]] w (BoolPost w) := by
  have HX := Lib.hid hx; clear hx
  have HB := Lib.hid hb; clear hb
  go_enter Tryz.func5, Tryz.ntmps5
  go_wp2_with fail
  refine (ruleParts d p hp hn hc xs q cap 1048576 _ hh hlen (HX.out.up (below_alloc _ _)) HB.out (by decide) (by decide)).mono ?_
  rintro r w1 ⟨n, rfl, h0, h1, hb1⟩
  have Hb := Lib.hid hb1; clear hb1
  go_wp2_with fail
  go_ret
  exact ⟨_, rfl, (below_alloc _ _).trans (Hb.out.mono (by simp))⟩
end Go.Proofs.YtdgbenadoaecoaaGreatDoor
