/- A rule and its copy: what the checks and the writers say of both is the same; no program in sight. The walk of PrintRules. Conditions: none. the rule lies in memory as it is told, the tables are in place, no list is too long. -/
import Derived.Test.YtdgbenadoaecoaaGreatDoorS20
import Derived.Test.YtdgbenadoaecoaaGreatDoorF3
import Derived.Test.YtdgbenadoaecoaaGreatDoorS9
import Derived.Test.YtdgbenadoaecoaaGreatDoorS22
namespace Go.Proofs.YtdgbenadoaecoaaGreatDoor
open Go.RowKit

theorem like_map {α β : Type} {R : α → α → Prop} (g : α → β) (hR : ∀ x y, R x y → g x = g y) {fs gs : List α} (hl : gs.length = fs.length) (h : ∀ i, (h : i < fs.length) → (h' : i < gs.length) → R fs[i] gs[i]) : fs.map g = gs.map g :=
  alike_map g hl.symm (fun i h1 h2 => hR _ _ (h i h1 h2))
theorem Alike.tms : ∀ {d : Nat} {e f : Ex d}, Alike d e f → exTms d e = exTms d f
  | 0, e, _, _ => nomatch e
  | d + 1, (_, tm, _, ks), (_, tm', _, ts), h => by
    obtain ⟨_, h2, h3, h4⟩ := h
    have h2' : tm = tm' := h2
    have h3' : ks.length = ts.length := h3
    subst h2'
    show tm :: ks.flatMap (exTms d) = tm :: ts.flatMap (exTms d)
    rw [List.flatMap_def, List.flatMap_def, alike_map (exTms d) h3' (fun i a b => (h4 i a b).tms)]
theorem LtLike.tms {d : Nat} {x y : Lt d} (h : LtLike x y) : ltTms x = ltTms y := by
  unfold ltTms
  rw [h.ts_, h.l_.tms, h.g_.tms]
theorem bodL_map {d : Nat} : ∀ (xs ys : List (Lt d)) (f : Bool), xs.map litL = ys.map litL → bodL f xs = bodL f ys
  | [], [], _, _ => rfl
  | [], _ :: _, _, h => by simp at h
  | _ :: _, [], _, h => by simp at h
  | x :: r, y :: s, f, h => by
    simp only [List.map_cons, List.cons.injEq] at h
    rw [bodL, bodL, h.1, bodL_map r s false h.2]
theorem ruOk_like {d : Nat} (p : ByteArray) (hs : List Ag) {bs gs : List (Lt d)} (hl : gs.length = bs.length) (h : ∀ i, (h : i < bs.length) → (h' : i < gs.length) → LtLike bs[i] gs[i]) : ruOk p hs gs = ruOk p hs bs := by
  have h1 := like_map ltOk (fun _ _ h => LtLike.ok h) hl h
  have h2 := like_map ltTms (fun _ _ h => LtLike.tms h) hl h
  unfold ruOk ruTms
  rw [hl, all_map ltOk gs, all_map ltOk bs, h1, List.flatMap_def, List.flatMap_def, h2]
theorem ruL_like {d : Nat} (p : ByteArray) (hs : List Ag) {bs gs : List (Lt d)} (hl : gs.length = bs.length) (h : ∀ i, (h : i < bs.length) → (h' : i < gs.length) → LtLike bs[i] gs[i]) : ruL p hs gs = ruL p hs bs := by
  have h1 := like_map litL (fun _ _ h => LtLike.txt h) hl h
  unfold ruL
  rw [bodL_map gs bs true h1.symm]
open Go.RowKit

set_option maxHeartbeats 8000000 in
theorem printRules (d : Nat) (p : ByteArray) (hp : Option Addr) (hc : Nat) (hs : List Ag) (bp : Option Addr) (bc : Nat) (bs : List (Lt d)) (w : World) (hh : AgsAt w hp hs) (hhn : hs.length ≤ 2932031007317) (hb : LtsAt w d bp bs)
    (hr : RuR p hs bs) (hbb : ∀ f ∈ bs, LtB f) (hbn : bs.length ≤ 1000000000000) (hT : Tabs w) (hRl : RelsAt w) (hFo : FoldsAt w) :
    Calls Tryz.prog 3 #[.agg #[.string p, .slice hp hs.length hc, .slice bp bs.length bc]] w fun e w' => e = .returned (.bool true) ∧ Below w.heap.size w w' := by
  have HBY := Lib.hid (fun w' h => beyondRule d p hp hs.length hc bs bp bc w' hhn (by omega) h hbb)
  have HTW := Lib.hid (fun w' h1 h2 h3 => twinRule d p hp hc hs bp bc bs w' h1 hhn h2 hr.b_ hbb hbn h3)
  have HRF := Lib.hid (fun w' h1 h2 => rRuleT d p hp hc hs bp bc bs w' h1 h2 hr)
  have HLF := Lib.hid (fun gs a b w' h1 h2 h3 h4 h5 => leftRule d p hp hc hs bp bc bs gs a b w' h1 hhn h2 hbb hbn h3 h4 h5)
  have HPR := Lib.hid (fun (gs : List (Lt d)) a b w' (hl : gs.length = bs.length) (hk : ∀ i, (h : i < bs.length) → (h' : i < gs.length) → LtLike bs[i] gs[i]) h1 h2 h3 h4 h5 =>
    (show Calls Tryz.prog 8 #[.agg #[.string p, .slice (some ⟨a, 0, none⟩) hs.length (hs.length + 1), .slice (some ⟨b, 0, none⟩) bs.length (bs.length + 1)]] w' (TextPost (ruOk p hs bs) (ruL p hs bs) w') by
      have hq := pRuleT d p (some ⟨a, 0, none⟩) (hs.length + 1) hs (some ⟨b, 0, none⟩) (bs.length + 1) gs w' h1 h2 ⟨hr.p_, hr.hl, by rw [hl]; exact hr.bl, hr.h_, like_lt hl hk hr.b_ (fun _ _ x y => x.r y)⟩ h3 h4 h5
      rw [ruOk_like p hs hl hk, ruL_like p hs hl hk, hl] at hq
      exact hq))
  have HBB := Lib.hid hbb; clear hbb hr
  have HH := Lib.hid hh; clear hh
  have HB := Lib.hid hb; clear hb
  have HT := Lib.hid hT; clear hT
  have HRL := Lib.hid hRl; clear hRl
  have HFO := Lib.hid hFo; clear hFo
  obtain ⟨W, hW⟩ : ∃ W, W = w.alloc (.cells #[.string p, .slice hp hs.length hc, .slice bp bs.length bc] 25) := ⟨_, rfl⟩
  have HBW := Lib.hid (show Below w.heap.size w W by rw [hW]; exact below_alloc _ _)
  have hsW : W.heap.size = w.heap.size + 1 := by rw [hW]; simp
  have HBX := Lib.hid (show W.heap[w.heap.size]? = some (.cells #[.string p, .slice hp hs.length hc, .slice bp bs.length bc] 25 (0, 0)) by rw [hW]; exact heap_alloc_new w _)
  obtain ⟨x0, x1, x2⟩ := three HBX.out
  go_enter Tryz.func3, Tryz.ntmps3
  go_wp2_with fail
  rw [← hW]
  clear hW x0 x1 x2
  refine (HBY.out _ (HB.out.up HBW.out)).mono ?_
  rintro r w1 ⟨b, rfl, hb1⟩
  have hbx := (hb1.block w.heap.size (by omega)).trans HBX.out
  have hsz1 := hb1.size
  have Hb1 := Lib.hid (HBW.out.trans (hb1.mono (by omega))); clear hb1
  cases b
  case true =>
    go_wp2_with fail
    go_ret
    exact ⟨rfl, Hb1.out⟩
  case false =>
    obtain ⟨x0, x1, x2⟩ := three hbx
    have HBX1 := Lib.hid hbx; clear hbx
    go_wp2_with fail
    refine (HTW.out _ (HH.out.up Hb1.out) (HB.out.up Hb1.out) (HT.out.at Hb1.out)).mono ?_
    rintro r w2 ⟨a, b, gs, rfl, ha, hb, hta, htl, hb2⟩
    clear x0 x1 x2
    obtain ⟨W2, hW2⟩ : ∃ W2, W2 = w2.alloc (.cells #[.string p, .slice (some ⟨a, 0, none⟩) hs.length (hs.length + 1), .slice (some ⟨b, 0, none⟩) bs.length (bs.length + 1)] 25) := ⟨_, rfl⟩
    have hs2 := hb2.size
    have hlw : w.heap.size < w2.heap.size := by omega
    have HX1w := Lib.hid ((hb2.block w.heap.size (by omega)).trans HBX1.out)
    have hbW2 : Below w2.heap.size w2 W2 := by rw [hW2]; exact below_alloc _ _
    have HY := Lib.hid (show W2.heap[w2.heap.size]? = some (.cells #[.string p, .slice (some ⟨a, 0, none⟩) hs.length (hs.length + 1), .slice (some ⟨b, 0, none⟩) bs.length (bs.length + 1)] 25 (0, 0)) by rw [hW2]; exact heap_alloc_new w2 _)
    have HX2 := Lib.hid ((hbW2.block w.heap.size (by omega)).trans ((hb2.block w.heap.size (by omega)).trans HBX1.out))
    have HTA := Lib.hid (hta.low hbW2); clear hta
    have HTL := Lib.hid (htl.low hbW2); clear htl
    have Hb2 := Lib.hid ((Hb1.out.trans (hb2.mono Hb1.out.size)).trans (hbW2.mono (by have := Hb1.out.size; omega)))
    have hsW2 : W2.heap.size = w2.heap.size + 1 := by rw [hW2]; simp
    clear hb2 hbW2
    obtain ⟨x0, x1, x2⟩ := three HX1w.out
    go_wp2_with fail
    rw [← hW2]
    clear hW2 x0 x1 x2 hlw
    refine (HRF.out _ (HH.out.up Hb2.out) (HB.out.up Hb2.out)).mono ?_
    rintro r w3 ⟨rfl, hb3⟩
    obtain ⟨y0, y1, y2⟩ := three ((hb3.block w2.heap.size (by omega)).trans HY.out)
    have HX3 := Lib.hid ((hb3.block w.heap.size (by omega)).trans HX2.out)
    have HY3 := Lib.hid ((hb3.block w2.heap.size (by omega)).trans HY.out)
    have hs3 := hb3.size
    have HTA3 := Lib.hid (HTA.out.low hb3)
    have HTL3 := Lib.hid (HTL.out.low hb3)
    have Hb3 := Lib.hid (Hb2.out.trans (hb3.mono Hb2.out.size)); clear hb3
    obtain ⟨s, hss⟩ : ∃ s : ByteArray, s = ⟨(txt (ruOk p hs bs) (ruL p hs bs)).toArray⟩ := ⟨_, rfl⟩
    obtain ⟨k, hkk⟩ : ∃ k : Int, k = okCode (ruOk p hs bs) 40 := ⟨_, rfl⟩
    have HS := Lib.hid hss
    have HK := Lib.hid hkk
    rw [← hss, ← hkk]
    clear hss hkk
    go_wp2_with fail
    clear y0 y1 y2
    refine (HPR.out gs a b _ HTL.out.len HTL.out.like HTA3.out.sl (HTL3.out.at HBB.out) (HT.out.at Hb3.out) (HRL.out.at Hb3.out) (HFO.out.at Hb3.out)).mono ?_
    rintro r w4 ⟨rfl, hb4⟩
    rw [← HS.out, ← HK.out]
    obtain ⟨x0, x1, x2⟩ := three ((hb4.block w.heap.size (by omega)).trans HX3.out)
    obtain ⟨y0, y1, y2⟩ := three ((hb4.block w2.heap.size (by omega)).trans HY3.out)
    have HTA4 := Lib.hid (HTA3.out.low hb4)
    have HTL4 := Lib.hid (HTL3.out.low hb4)
    have Hb4 := Lib.hid (Hb3.out.trans (hb4.mono Hb3.out.size)); clear hb4
    go_wp2_with fail
    refine (HLF.out gs a b _ (HH.out.up Hb4.out) (HB.out.up Hb4.out) HTA4.out HTL4.out (HT.out.at Hb4.out)).mono ?_
    rintro r w5 ⟨rfl, hb5⟩
    have Hb5 := Lib.hid (Hb4.out.trans (hb5.mono Hb4.out.size)); clear hb5 x0 x1 x2 y0 y1 y2
    go_wp2_with fail
    refine (lives _ (HT.out.at Hb5.out)).mono ?_
    rintro r w6 ⟨rfl, hb6⟩
    have Hb6 := Lib.hid (Hb5.out.trans (hb6.mono Hb5.out.size)); clear hb6
    go_wp2_with fail
    go_ret
    exact ⟨rfl, Hb6.out⟩
end Go.Proofs.YtdgbenadoaecoaaGreatDoor
