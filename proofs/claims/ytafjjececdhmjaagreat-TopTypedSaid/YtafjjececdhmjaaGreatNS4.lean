/- The walk through the terms of expressions, literals, rules; the contract of RuleVars. Conditions: the rule lies in memory as it is told; at most 10000 terms. -/
import Derived.Test.YtafjjececdhmjaaGreatNS3
namespace Go.Proofs.YtafjjececdhmjaaGreat
open Go.RowKit Go.Maps

/-- What is known of a walk through an expression. -/
def WkE (w0 : World) (bt bl' : Nat) (d : Nat) : Prop := ∀ (e : Ex d) (acc : List (List UInt8)) (a o : Nat) (w : World), VS w0 bt bl' acc w → ExCell w0 a o (exOp d e) (exTm d e) (exSl d e) → a < w0.heap.size → ExAt w0 d e → ExR d e →
  acc.length + (exTms d e).length ≤ 10000 →
  Calls Tryz.prog 107 #[.iface 191 (.pointer (some ⟨a, o, none⟩)), gath bt bl'] w (WkPost w0 bt bl' ((exTms d e).foldl addV acc))
theorem flat_take {α : Type} (f : α → List Tm) (l : List α) (acc : List (List UInt8)) (k : Nat) (h : k < l.length) : ((l.take (k + 1)).flatMap f).foldl addV acc = (f l[k]).foldl addV (((l.take k).flatMap f).foldl addV acc) := by
  rw [List.take_succ_eq_append_getElem h, List.flatMap_append, List.foldl_append]
  simp
theorem flat_len {α : Type} (f : α → List Tm) (l : List α) (k : Nat) (h : k < l.length) : ((l.take k).flatMap f).length + (f l[k]).length ≤ (l.flatMap f).length := by
  have h1 : ((l.take (k + 1)).flatMap f).length ≤ (l.flatMap f).length := by
    conv => rhs; rw [← List.take_append_drop (k + 1) l, List.flatMap_append, List.length_append]
    omega
  rw [List.take_succ_eq_append_getElem h, List.flatMap_append, List.length_append] at h1
  simpa using h1
theorem flat_next {α : Type} {f : α → List Tm} {l : List α} {acc : List (List UInt8)} (hn : acc.length + (l.flatMap f).length ≤ 10000) (k : Nat) (h : k < l.length) : (((l.take k).flatMap f).foldl addV acc).length + (f l[k]).length ≤ 10000 := by
  have h1 := (foldV_len ((l.take k).flatMap f) acc).2
  have h2 := flat_len f l k h
  omega
set_option maxHeartbeats 8000000 in
set_option maxRecDepth 100000 in
theorem wExpr (w0 : World) (bt bl' : Nat) : ∀ d, WkE w0 bt bl' d
  | 0 => fun e => nomatch e
  | d + 1 => by
    have ih := wExpr w0 bt bl' d
    rintro ⟨op, t, s, ks⟩ acc a o w h hc ha hat hr hn
    obtain ⟨p, cap, hs, hm, hks, hka⟩ := hat
    obtain ⟨_, htr, hkr⟩ := hr
    simp only at hs hm hks hka htr hkr
    subst hs
    unfold maxLen at hm
    have hc1 := hc.c1
    have hc5 := hc.c5
    simp only [exTm, exSl] at hc1 hc5
    have hn2 : (addV acc t).length + (ks.flatMap (exTms d)).length ≤ 10000 := by
      have h1 := (addV_len acc t).2
      simp only [exTms, List.length_cons] at hn
      omega
    have hn0 : acc.length ≤ 10000 := by omega
    have HIH := Lib.hid ih; clear ih
    have HV := Lib.hid h; clear h
    have HC5 := Lib.hid hc5; clear hc5
    have HC1 := Lib.hid ((HV.out.below.cell (p := ⟨a, o + 1, none⟩) ha).trans hc1); clear hc1 hc
    have HKS := Lib.hid hks; clear hks
    have HKA := Lib.hid hka; clear hka
    have HKR := Lib.hid hkr; clear hkr
    have HN := Lib.hid hn2; clear hn2 hn
    have HTR := Lib.hid htr.v0; clear htr
    have h1 := fun w => asE_R (.pointer (some ⟨a, o, none⟩)) w
    have h2 := fun w => asE_L (.pointer (some ⟨a, o, none⟩)) w
    have h3 := fun w => asE_E (.pointer (some ⟨a, o, none⟩)) w
    have hF := enterVars
    unfold gath WkPost
    simp only [exTms, List.foldl_cons]
    go_enter Tryz.func107, Tryz.ntmps107
    go_wp2_with fail
    clear h1 h2 h3
    refine (tVars1 w0 bt bl' _ t a (o + 1) _ HV.out HC1.out ha HTR.out hn0).mono ?_
    rintro e w1 ⟨rfl, hv⟩
    have HV1 := Lib.hid hv; clear hv
    have hcell := (HV1.out.below.cell (p := ⟨a, o + 5, none⟩) ha).trans HC5.out
    go_wp2_with fail
    clear hcell
    go_loopw [9, 86] (fun _ i wr => ∃ k : Nat, k ≤ ks.length ∧ i = .int .i64 k ∧ VS w0 bt bl' (((ks.take k).flatMap (exTms d)).foldl addV (addV acc t)) wr) (fun _ i _ => ks.length - (intOf i).toNat)
    case atStart => exact ⟨0, by omega, rfl, HV1.out⟩
    case round =>
      obtain ⟨k, hk, rfl, hv⟩ := hrel
      have HVK := Lib.hid hv; clear hv
      by_cases hlt : k < ks.length
      · rcases HKS.out with h0 | ⟨a2, o2, rfl, ha2, hck⟩
        · omega
        · have hcell := (HVK.out.below.cell (p := ⟨a, o + 5, none⟩) ha).trans HC5.out
          have hk0 : (0 : Int) ≤ (k : Int) := by omega
          have hki : (k : Int) < (ks.length : Int) := by omega
          have HCK := Lib.hid (hck k hlt); clear hck
          go_wp2_with fail
          refine (HIH.out ks[k] _ a2 (o2 + k * 6) _ HVK.out HCK.out ha2 (HKA.out _ (List.getElem_mem hlt)) (HKR.out _ (List.getElem_mem hlt)) (flat_next HN.out k hlt)).mono ?_
          rintro e w2 ⟨rfl, hv⟩
          have HV2 := Lib.hid hv; clear hv
          clear hcell
          go_wp2_with fail
          go_roundw
          case rel => exact ⟨k + 1, by omega, by go_num, by rw [flat_take _ _ _ _ hlt]; exact HV2.out⟩
          case measure => simp [intOf]; omega
      · obtain rfl : k = ks.length := by omega
        have HE := Lib.hid (show (ks.take ks.length) = ks from List.take_of_length_le (Nat.le_refl _))
        go_wp2_with fail
        go_end0
        exact ⟨rfl, by have h9 := HVK.out; rw [HE.out] at h9; exact h9⟩
set_option maxHeartbeats 4000000 in
set_option maxRecDepth 100000 in
theorem wLit (w0 : World) (bt bl' : Nat) (acc : List (List UInt8)) (d : Nat) (x : Lt d) (a o : Nat) (w : World) (h : VS w0 bt bl' acc w) (hc : LtCell w0 a o x) (ha : a < w0.heap.size) (hx : LtAt w0 x) (hr : LtR x) (hn : acc.length + (ltTms x).length ≤ 10000) :
    Calls Tryz.prog 107 #[.iface 209 (.pointer (some ⟨a, o, none⟩)), gath bt bl'] w (WkPost w0 bt bl' ((ltTms x).foldl addV acc)) := by
  have HV := Lib.hid h; clear h
  have HC := Lib.hid hc; clear hc
  have HX := Lib.hid hx; clear hx
  have HR := Lib.hid hr; clear hr
  have hl1 := (foldV_len x.ts acc).2
  have hl2 := (foldV_len (exTms d x.l) (x.ts.foldl addV acc)).2
  simp only [ltTms, List.length_append] at hn
  have h1 := fun w => asL_R (.pointer (some ⟨a, o, none⟩)) w
  have h2 := fun w => asL_L (.pointer (some ⟨a, o, none⟩)) w
  have hF := enterVars
  have HFO := Lib.hid (show (ltTms x).foldl addV acc = (exTms d x.g).foldl addV ((exTms d x.l).foldl addV (x.ts.foldl addV acc)) by rw [ltTms, List.foldl_append, List.foldl_append])
  obtain ⟨G, hG⟩ : ∃ G, G = gath bt bl' := ⟨_, rfl⟩
  rw [← hG]
  have HG := Lib.hid hG; clear hG
  go_enter Tryz.func107, Tryz.ntmps107
  go_wp2_with fail
  rw [HG.out]
  refine (wAtom w0 bt bl' acc x.ts x.sv a (o + 1) _ HV.out HC.out.c2 ha HX.out.at_ HR.out.ts_ (by omega)).mono ?_
  rintro e w1 ⟨rfl, hv⟩
  have HV1 := Lib.hid hv; clear hv
  rw [← HG.out]
  go_wp2_with fail
  rw [HG.out]
  refine (wExpr w0 bt bl' d x.l _ a (o + 4) _ HV1.out ⟨HC.out.c4, HC.out.c5, HC.out.c6, HC.out.c7, HC.out.c8, HC.out.c9⟩ ha HX.out.l_ HR.out.l_ (by omega)).mono ?_
  rintro e w2 ⟨rfl, hv⟩
  have HV2 := Lib.hid hv; clear hv
  rw [← HG.out]
  go_wp2_with fail
  rw [HG.out]
  refine (wExpr w0 bt bl' d x.g _ a (o + 10) _ HV2.out ⟨HC.out.c10, HC.out.c11, HC.out.c12, HC.out.c13, HC.out.c14, HC.out.c15⟩ ha HX.out.g_ HR.out.g_ (by omega)).mono ?_
  rintro e w3 ⟨rfl, hv⟩
  have HV3 := Lib.hid hv; clear hv
  rw [← HG.out]
  go_wp2_with fail
  go_end0
  exact ⟨rfl, by rw [HFO.out]; exact HV3.out⟩
/-- Arguments of a head in a row of memory. -/
def AgsAt (w : World) (p : Option Addr) (hs : List Ag) : Prop :=
  hs.length = 0 ∨ ∃ a o, p = some ⟨a, o, none⟩ ∧ a < w.heap.size ∧ ∀ i, (h : i < hs.length) → w.cell? ⟨a, o + i * 5, none⟩ = some (.int .i8 hs[i].g) ∧ TmCell w a (o + i * 5 + 1) hs[i].t
theorem AgsAt.up {w w' : World} {p : Option Addr} {hs : List Ag} (h : AgsAt w p hs) (hb : Below w.heap.size w w') : AgsAt w' p hs := by
  rcases h with h0 | ⟨a, o, hp, ha, hc⟩
  · exact .inl h0
  · exact .inr ⟨a, o, hp, Nat.lt_of_lt_of_le ha hb.size, fun i hi => ⟨(hb.cell (p := ⟨a, o + i * 5, none⟩) ha).trans (hc i hi).1, (hc i hi).2.up hb ha⟩⟩
/-- A rule within its types' bounds. -/
structure RuR {d : Nat} (p : ByteArray) (hs : List Ag) (bs : List (Lt d)) : Prop where
  p_ : p.size ≤ maxLen
  hl : hs.length ≤ maxLen
  bl : bs.length ≤ maxLen
  h_ : ∀ a ∈ hs, (-128 ≤ a.g ∧ a.g ≤ 127) ∧ TmR a.t.v a.t.x.k a.t.x.n a.t.x.t
  b_ : ∀ x ∈ bs, LtR x
set_option maxHeartbeats 8000000 in
set_option maxRecDepth 100000 in
theorem wRule (w0 : World) (bt bl' : Nat) (d : Nat) (p : ByteArray) (hp : Option Addr) (hc : Nat) (hs : List Ag) (bp : Option Addr) (bc : Nat) (bs : List (Lt d)) (b : Nat) (w : World) (h : VS w0 bt bl' [] w)
    (hcell : w0.heap[b]? = some (.cells #[.string p, .slice hp hs.length hc, .slice bp bs.length bc] 41 (0, 0))) (hh : AgsAt w0 hp hs) (hb : LtsAt w0 d bp bs) (hr : RuR p hs bs) (hn : (ruTms hs bs).length ≤ 10000) :
    Calls Tryz.prog 107 #[.iface 165 (.pointer (some ⟨b, 0, none⟩)), gath bt bl'] w (WkPost w0 bt bl' (varsL (ruTms hs bs))) := by
  have hb0 : b < w0.heap.size := (Array.getElem?_eq_some_iff.1 hcell).1
  have HV := Lib.hid h; clear h
  have HY1 := Lib.hid (show w0.cell? ⟨b, 1, none⟩ = some (.slice hp hs.length hc) by rw [Lib.cell_of_heap hcell]; rfl)
  have HY2 := Lib.hid (show w0.cell? ⟨b, 2, none⟩ = some (.slice bp bs.length bc) by rw [Lib.cell_of_heap hcell]; rfl)
  clear hcell
  have HH := Lib.hid hh; clear hh
  have HB := Lib.hid hb; clear hb
  have HR := Lib.hid hr
  have hm1 := hr.hl
  have hm2 := hr.bl
  unfold maxLen at hm1 hm2
  clear hr
  have hn1 : ([] : List (List UInt8)).length + (hs.map (·.t)).length ≤ 10000 := by
    simp only [ruTms, List.length_append, List.length_map] at hn
    simp
    omega
  have hn2 : ((hs.map (·.t)).foldl addV []).length + (bs.flatMap ltTms).length ≤ 10000 := by
    have h1 := (foldV_len (hs.map (·.t)) []).2
    simp only [ruTms, List.length_append, List.length_map] at hn h1
    simp at h1
    omega
  have HN1 := Lib.hid hn1
  have HN2 := Lib.hid hn2
  clear hn hn1 hn2
  have h1 := fun w => asR_R (.pointer (some ⟨b, 0, none⟩)) w
  have hF := enterVars
  have HFO := Lib.hid (show varsL (ruTms hs bs) = (bs.flatMap ltTms).foldl addV ((hs.map (·.t)).foldl addV []) by rw [varsL, ruTms, List.foldl_append])
  unfold gath
  have hcell := (HV.out.below.cell (p := ⟨b, 1, none⟩) hb0).trans HY1.out
  go_enter Tryz.func107, Tryz.ntmps107
  go_wp2_with fail
  clear h1 hcell
  go_loopw [5, 21] (fun _ i wr => ∃ k : Nat, k ≤ hs.length ∧ i = .int .i64 k ∧ VS w0 bt bl' (((hs.map (·.t)).take k).foldl addV []) wr) (fun _ i _ => hs.length - (intOf i).toNat)
  case atStart => exact ⟨0, by omega, rfl, HV.out⟩
  case round =>
    obtain ⟨k, hk, rfl, hv⟩ := hrel
    have HVK := Lib.hid hv; clear hv
    by_cases hlt : k < hs.length
    · rcases HH.out with h0 | ⟨a2, o2, rfl, ha2, hck⟩
      · omega
      · have hcell := (HVK.out.below.cell (p := ⟨b, 1, none⟩) hb0).trans HY1.out
        have hk0 : (0 : Int) ≤ (k : Int) := by omega
        have hki : (k : Int) < (hs.length : Int) := by omega
        have HT := Lib.hid ((HVK.out.below.cell (p := ⟨a2, o2 + k * 5 + 1, none⟩) ha2).trans (hck k hlt).2.c0); clear hck
        have HTV := Lib.hid ((HR.out.h_ hs[k] (List.getElem_mem hlt)).2.v0)
        go_wp2_with fail
        refine (tVars1 w0 bt bl' _ hs[k].t a2 (o2 + k * 5 + 1) _ HVK.out HT.out ha2 HTV.out (fold_le HN1.out k)).mono ?_
        rintro e w1 ⟨rfl, hv⟩
        have HV1 := Lib.hid hv; clear hv
        clear hcell
        go_wp2_with fail
        go_roundw
        case rel => exact ⟨k + 1, by omega, by go_num, by rw [take_add _ _ _ (by simpa using hlt), List.getElem_map]; exact HV1.out⟩
        case measure => simp [intOf]; omega
    · obtain rfl : k = hs.length := by omega
      have HE := Lib.hid (show ((hs.map (·.t)).take hs.length) = hs.map (·.t) from List.take_of_length_le (by simp))
      have HV1 := Lib.hid (show VS w0 bt bl' ((hs.map (·.t)).foldl addV []) wr by have h9 := HVK.out; rw [HE.out] at h9; exact h9)
      rename World => wq
      have hcell := (HV1.out.below.cell (p := ⟨b, 2, none⟩) hb0).trans HY2.out
      go_wp2_with fail
      clear hcell
      go_loopw [6, 39] (fun _ i wr => ∃ k : Nat, k ≤ bs.length ∧ i = .int .i64 k ∧ VS w0 bt bl' (((bs.take k).flatMap ltTms).foldl addV ((hs.map (·.t)).foldl addV [])) wr) (fun _ i _ => bs.length - (intOf i).toNat)
      case atStart => exact ⟨0, by omega, rfl, HV1.out⟩
      case round =>
        obtain ⟨k, hk2, rfl, hv⟩ := hrel
        have HVL := Lib.hid hv; clear hv
        by_cases hlt : k < bs.length
        · rcases HB.out.1 with h0 | ⟨a2, o2, rfl, ha2, hck⟩
          · omega
          · have hcell := (HVL.out.below.cell (p := ⟨b, 2, none⟩) hb0).trans HY2.out
            have hk0 : (0 : Int) ≤ (k : Int) := by omega
            have hki : (k : Int) < (bs.length : Int) := by omega
            have HCK := Lib.hid (hck k hlt); clear hck
            have HWL := Lib.hid (fun w' h => wLit w0 bt bl' _ d bs[k] a2 (o2 + k * 16) w' h HCK.out ha2 (HB.out.2 _ (List.getElem_mem hlt)) (HR.out.b_ _ (List.getElem_mem hlt)) (flat_next HN2.out k hlt))
            unfold gath at HWL
            go_wp2_with fail
            refine (HWL.out _ HVL.out).mono ?_
            rintro e w2 ⟨rfl, hv⟩
            have HV2 := Lib.hid hv; clear hv
            clear hcell
            go_wp2_with fail
            go_roundw
            case rel => exact ⟨k + 1, by omega, by go_num, by rw [flat_take _ _ _ _ hlt]; exact HV2.out⟩
            case measure => simp [intOf]; omega
        · obtain rfl : k = bs.length := by omega
          have HE2 := Lib.hid (show (bs.take bs.length) = bs from List.take_of_length_le (Nat.le_refl _))
          go_wp2_with fail
          go_end0
          exact ⟨rfl, by have h9 := HVL.out; rw [HE2.out] at h9; rw [HFO.out]; exact h9⟩
end Go.Proofs.YtafjjececdhmjaaGreat
