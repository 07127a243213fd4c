/- A renamed rule lies within its types' bounds; the names that a canonical rule's variables are given are short. The reference's Canon: a rule's variables renamed in the order in which they come. Conditions: none. the rule lies in memory as it is told. -/
import Derived.Test.YtafjjececdhmjaaGreatMY49
namespace Go.Proofs.YtafjjececdhmjaaGreat
open Go.RowKit

theorem cano_size {i : Nat} (h : i < 100) : (cano i).size ≤ 3 := by
  have h1 : (cano i).size = (bl (cano i)).length := rfl
  rw [h1, bl_cano h]
  split <;> simp
/-- A renaming whose names are not too long. -/
def ShR (ρ : ByteArray → ByteArray) : Prop := ∀ v : ByteArray, v.size ≤ maxLen → (ρ v).size ≤ maxLen
theorem shR_can {l : List (List UInt8)} (hl : l.length ≤ 24) : ShR (rhoP (canL l)) := fun v hv => by
  by_cases hm : bl v ∈ l
  · obtain ⟨i, hi, _, h2⟩ := rhoP_at l 0 v hm
    unfold canL
    rw [h2]
    have := cano_size (i := 0 + i) (by omega)
    unfold maxLen
    omega
  · unfold canL
    rw [rhoP_off _ _ _ hm]
    exact hv
theorem tmR_rn {ρ : ByteArray → ByteArray} (h : ShR ρ) {t : Tm} (ht : TmR t.v t.x.k t.x.n t.x.t) : TmR (rnTm ρ t).v (rnTm ρ t).x.k (rnTm ρ t).x.n (rnTm ρ t).x.t := by
  have h1 : (rnB ρ t.v).size ≤ maxLen := by
    unfold rnB
    split
    · exact ht.v0
    · exact h _ ht.v0
  exact ⟨ht.toVlR, h1⟩
theorem exR_rn {ρ : ByteArray → ByteArray} (h : ShR ρ) : ∀ (d : Nat) (e : Ex d), ExR d e → ExR d (rnEx ρ d e)
  | 0, _, _ => trivial
  | d + 1, _, ⟨h1, h2, h3⟩ => ⟨h1, tmR_rn h h2, fun k hk => by
    obtain ⟨k0, hk0, rfl⟩ := List.mem_map.1 hk
    exact exR_rn h d k0 (h3 k0 hk0)⟩
theorem exR_nf : ∀ (d : Nat) (e : Ex d), ExR d (nfEx d e) ↔ ExR d e
  | 0, _ => Iff.rfl
  | d + 1, e => by
    constructor
    · rintro ⟨h1, h2, h3⟩
      exact ⟨h1, h2, fun k hk => (exR_nf d k).1 (h3 _ (List.mem_map.2 ⟨k, hk, rfl⟩))⟩
    · rintro ⟨h1, h2, h3⟩
      refine ⟨h1, h2, fun k hk => ?_⟩
      obtain ⟨k0, hk0, rfl⟩ := List.mem_map.1 hk
      exact (exR_nf d k0).2 (h3 k0 hk0)
theorem ltR_rn {ρ : ByteArray → ByteArray} (h : ShR ρ) {d : Nat} {x : Lt d} (k : LtR x) : LtR (rnLt ρ x) :=
  ⟨k.p_, fun t ht => by
    obtain ⟨t0, ht0, rfl⟩ := List.mem_map.1 ht
    exact tmR_rn h (k.ts_ t0 ht0), exR_rn h d _ k.l_, exR_rn h d _ k.g_⟩
theorem ltR_nf {d : Nat} {x : Lt d} : LtR (nfLt x) ↔ LtR x :=
  ⟨fun k => ⟨k.p_, k.ts_, (exR_nf d _).1 k.l_, (exR_nf d _).1 k.g_⟩, fun k => ⟨k.p_, k.ts_, (exR_nf d _).2 k.l_, (exR_nf d _).2 k.g_⟩⟩
theorem ruR_rn {ρ : ByteArray → ByteArray} (h : ShR ρ) {d : Nat} {p : ByteArray} {hs : List Ag} {bs : List (Lt d)} (k : RuR p hs bs) {y : Ru d} (hp : y.p = p) (hh : y.hs = hs.map (rnAg ρ)) (hb : y.bs.map nfLt = (bs.map (rnLt ρ)).map nfLt) : RuR y.p y.hs y.bs := by
  have hl : y.bs.length = bs.length := by
    have := congrArg List.length hb
    simpa using this
  refine ⟨by rw [hp]; exact k.p_, by rw [hh, List.length_map]; exact k.hl, by rw [hl]; exact k.bl, fun a ha => ?_, fun x hx => ?_⟩
  · rw [hh] at ha
    obtain ⟨a0, ha0, rfl⟩ := List.mem_map.1 ha
    exact ⟨(k.h_ a0 ha0).1, tmR_rn h (k.h_ a0 ha0).2⟩
  · have h1 : nfLt x ∈ (bs.map (rnLt ρ)).map nfLt := by rw [← hb]; exact List.mem_map.2 ⟨x, hx, rfl⟩
    obtain ⟨x1, hx1, h2⟩ := List.mem_map.1 h1
    obtain ⟨x0, hx0, rfl⟩ := List.mem_map.1 hx1
    rw [← ltR_nf, ← h2, ltR_nf]
    exact ltR_rn h (k.b_ x0 hx0)
/-! The pairs of a canonical renaming in a row. -/
def prC (x : ByteArray × ByteArray) : List Value := [.string x.1, .string x.2, .int .i8 0, .int .i64 0, .string ⟨#[]⟩]
theorem prC_len (x : ByteArray × ByteArray) : (prC x).length = 5 := rfl
theorem prs_row {w : World} {B c : Nat} {p : Option Addr} {l : List (ByteArray × ByteArray)} (h : w.ownsRow B 95 5 (.slice p l.length c) l.length (l.flatMap prC)) : PrsAt w p l := by
  rcases row_cells prC prC_len h with h0 | ⟨g, hp, _, hg, hc⟩
  · exact .inl h0
  · refine .inr ⟨g, 0, hp, hg, fun i hi => ?_⟩
    rw [Nat.zero_add]
    exact ⟨hc i hi 0 (by omega), hc i hi 1 (by omega), hc i hi 2 (by omega), hc i hi 3 (by omega), hc i hi 4 (by omega)⟩
theorem canL_len (l : List (List UInt8)) : (canL l).length = l.length := by simp [canL, canK]
theorem canL_take {l : List (List UInt8)} {j : Nat} (h : j < l.length) : (canL l).take (j + 1) = (canL l).take j ++ [(⟨l[j].toArray⟩, cano j)] := by
  have h1 : j < (canL l).length := by rw [canL_len]; exact h
  rw [List.take_succ_eq_append_getElem h1]
  congr 2
  simp [canL, canK]
/-- What Canon leaves. -/
def CaPost {d : Nat} (x : Ru d) (w : World) (r : Ending) (w' : World) : Prop :=
  (ruOk x.p x.hs x.bs = false ∧ r = .returned (.tuple #[.agg #[.string ⟨#[]⟩, .slice none 0 0, .slice none 0 0], .int .i64 40]) ∧ Below w.heap.size w w') ∨
  ∃ (y : Ru d) (ρ : ByteArray → ByteArray), RnOf ρ x y ∧ RuR y.p y.hs y.bs ∧ r = .returned (.tuple #[.agg #[.string y.p, .slice y.hp y.hs.length y.hc, .slice y.bp y.bs.length y.bc], .int .i64 0]) ∧
    RuAt w' y ∧ RuIn (fun a => w.heap.size ≤ a ∧ a < w'.heap.size) y ∧ Below w.heap.size w w'
theorem CaPost.of {d : Nat} {x y : Ru d} {w w' : World} (hr : RuR x.p x.hs x.bs) (ho : ruOk x.p x.hs x.bs = true) (hp : y.p = x.p) (hh : y.hs = x.hs.map (rnAg (rhoP (canL (varsL (ruTms x.hs x.bs)))))) (hb : y.bs.map nfLt = (x.bs.map (rnLt (rhoP (canL (varsL (ruTms x.hs x.bs)))))).map nfLt)
    (ha : RuAt w' y) (hi : RuIn (fun a => w.heap.size ≤ a ∧ a < w'.heap.size) y) (hw : Below w.heap.size w w') : CaPost x w (.returned (.tuple #[.agg #[.string y.p, .slice y.hp y.hs.length y.hc, .slice y.bp y.bs.length y.bc], .int .i64 0])) w' :=
  .inr ⟨y, _, rnOf_can ho hp hh hb, ruR_rn (shR_can (putR_ok ho).2) hr hp hh hb, rfl, ha, hi, hw⟩
end Go.Proofs.YtafjjececdhmjaaGreat

namespace Go.Proofs.YtafjjececdhmjaaGreat
open Go.RowKit

theorem infoPr : (Tryz.prog.info? 95).map (fun i => (i.zero, i.size, i.bytes)) = some (some (.agg #[.string ⟨#[]⟩, .string ⟨#[]⟩, .int .i8 0, .int .i64 0, .string ⟨#[]⟩]), 5, 64) := by kernel_rfl
set_option maxRecDepth 100000 in
set_option maxHeartbeats 8000000 in
theorem rCanon (d : Nat) (x : Ru d) (w : World) (hx : RuAt w x) (hr : RuR x.p x.hs x.bs) :
    Calls Tryz.prog 8 #[.agg #[.string x.p, .slice x.hp x.hs.length x.hc, .slice x.bp x.bs.length x.bc]] w (CaPost x w) := by
  obtain ⟨i0, hi, hzz⟩ := Option.map_eq_some_iff.1 infoPr
  simp only [Prod.mk.injEq] at hzz
  obtain ⟨hz0, hz1, hz2⟩ := hzz
  have HI := Lib.hid hi; clear hi
  have HZ0 := Lib.hid hz0; clear hz0
  have HZ1 := Lib.hid hz1; clear hz1
  have HZ2 := Lib.hid hz2; clear hz2
  obtain ⟨R, hR⟩ : ∃ R : Ending → World → Prop, R = CaPost x w := ⟨_, rfl⟩
  rw [← hR]
  have HEND := Lib.hid (show ∀ r w', CaPost x w r w' → R r w' by rw [hR]; exact fun _ _ h => h)
  clear hR
  have HX := Lib.hid hx; clear hx
  have HXR := Lib.hid hr; clear hr
  obtain ⟨V, hV⟩ : ∃ V, V = (w.alloc (.cells #[.string x.p, .slice x.hp x.hs.length x.hc, .slice x.bp x.bs.length x.bc] 41)).alloc (.cells #[.string ⟨#[]⟩, .slice none 0 0, .slice none 0 0] 41) := ⟨_, rfl⟩
  have HBV := Lib.hid (show Below w.heap.size w V by rw [hV]; exact (below_alloc _ _).trans ((below_alloc _ _).mono (by simp)))
  have HSV := Lib.hid (show V.heap.size = w.heap.size + 1 + 1 by rw [hV]; simp)
  have HB1 := Lib.hid (show V.heap[w.heap.size]? = some (.cells #[.string x.p, .slice x.hp x.hs.length x.hc, .slice x.bp x.bs.length x.bc] 41 (0, 0)) by
    have h1 := heap_alloc_new w (.cells #[.string x.p, .slice x.hp x.hs.length x.hc, .slice x.bp x.bs.length x.bc] 41)
    rw [hV]
    exact ((below_alloc (w.alloc _) _).block _ (by simp)).trans h1)
  have HB2 := Lib.hid (show V.heap[w.heap.size + 1]? = some (.cells #[.string ⟨#[]⟩, .slice none 0 0, .slice none 0 0] 41 (0, 0)) by rw [hV]; simpa using heap_alloc_new (w.alloc _) _)
  have hbk : w.heap.size < V.heap.size := by rw [HSV.out]; omega
  have hbs : w.heap.size + 1 < V.heap.size := by rw [HSV.out]; omega
  obtain ⟨x0, x1, x2⟩ := threeC HB1.out
  have hVx := hV
  rw [hV] at x0 x1 x2
  have HRU := Lib.hid (show ∀ V' : World, Below V.heap.size V V' → Calls Tryz.prog 26 #[.agg #[.string x.p, .slice x.hp x.hs.length x.hc, .slice x.bp x.bs.length x.bc]] V' fun e w' => e = .returned (.bool (ruOk x.p x.hs x.bs)) ∧ Below V'.heap.size V' w' from
    fun V' h => rRule d x.p x.hp x.hc x.hs x.bp x.bc x.bs V' (HX.out.h_.up (HBV.out.trans (h.mono HBV.out.size))) (HX.out.b_.up (HBV.out.trans (h.mono HBV.out.size))) HXR.out)
  obtain ⟨ok, hok⟩ : ∃ ok, ok = ruOk x.p x.hs x.bs := ⟨_, rfl⟩
  rw [← hok] at HRU
  have HOK := Lib.hid hok; clear hok
  go_enter Tryz.func8, Tryz.ntmps8
  go_wp2_with fail
  rw [← hV]
  clear hV hVx x0 x1 x2
  refine (HRU.out V (Below.refl _ _)).mono ?_
  rintro e w1 ⟨rfl, hb1⟩
  have Hb1 := Lib.hid (show Below V.heap.size V w1 from hb1); clear hb1 HRU
  cases ok
  case false =>
    have HC4 := Lib.hid ((Hb1.out.block (w.heap.size + 1) hbs).trans HB2.out)
    have g0 : w1.frozen? ⟨w.heap.size + 1, 0, none⟩ = false := Lib.frozen_of_heap HC4.out 0
    have g1 : w1.frozen? ⟨w.heap.size + 1, 1, none⟩ = false := Lib.frozen_of_heap HC4.out 1
    have g2 : w1.frozen? ⟨w.heap.size + 1, 2, none⟩ = false := Lib.frozen_of_heap HC4.out 2
    obtain ⟨z0, z1, z2⟩ := threeC HC4.out
    have HBp := Lib.hid (show Below w.heap.size w (putL w1 (w.heap.size + 1) 0 [.string ⟨#[]⟩, .slice none 0 0, .slice none 0 0]) from putL_below (Nat.le_succ _) _ _ _ (HBV.out.trans (Hb1.out.mono HBV.out.size)))
    have hb2 : (putL w1 (w.heap.size + 1) 0 [.string ⟨#[]⟩, .slice none 0 0, .slice none 0 0]).heap[w.heap.size + 1]? = some (.cells #[.string ⟨#[]⟩, .slice none 0 0, .slice none 0 0] 41 (0, 0)) := putL_heap _ HC4.out rfl
    go_wp2_with fail
    change bodyPost _ _ _ _ _ (putL w1 (w.heap.size + 1) 0 [.string ⟨#[]⟩, .slice none 0 0, .slice none 0 0])
    clear g0 g1 g2 z0 z1 z2
    obtain ⟨W2, hW2⟩ : ∃ W2, W2 = putL w1 (w.heap.size + 1) 0 [.string ⟨#[]⟩, .slice none 0 0, .slice none 0 0] := ⟨_, rfl⟩
    rw [← hW2] at hb2 HBp ⊢
    clear hW2
    have HE := Lib.hid (HEND.out _ _ (.inl ⟨HOK.out.symm, rfl, HBp.out⟩))
    obtain ⟨z0, z1, z2⟩ := threeC hb2
    refine bodyPost_ret (v := .tuple #[.agg #[.string ⟨#[]⟩, .slice none 0 0, .slice none 0 0], .int .i64 40]) (by simp [results, Tryz.results8, go_sem, z0, z1, z2]) rfl ?_
    exact HE.out
  case true =>
    have hro := HOK.out.symm
    have hpu := (putR_ok hro).1
    have HV24 := Lib.hid (putR_ok hro).2
    have HTM := Lib.hid (show (ruTms x.hs x.bs).length ≤ 10000 by
      unfold ruOk at hro
      simp only [Bool.and_eq_true, decide_eq_true_eq, List.all_eq_true] at hro
      exact ruTms_len hro.1.1.1.1.2 hro.1.1.1.2 hro.1.2)
    have HPU := Lib.hid hpu; clear hpu
    have HRO := Lib.hid hro; clear hro HOK
    obtain ⟨x0, x1, x2⟩ := threeC ((Hb1.out.block w.heap.size hbk).trans HB1.out)
    have Hw1 := Lib.hid (HBV.out.trans (Hb1.out.mono HBV.out.size))
    go_wp2_with fail
    refine (rRuleVars d x.p x.hp x.hc x.hs x.bp x.bc x.bs w1 (HX.out.h_.up Hw1.out) (HX.out.b_.up Hw1.out) HXR.out HTM.out).mono ?_
    rintro e w2 ⟨pv, cv, rfl, hb2, hss⟩
    have Hb2 := Lib.hid (Hb1.out.trans (hb2.mono Hb1.out.size)); clear hb2 Hw1 Hb1 HTM
    have HSS := Lib.hid hss; clear hss
    clear x0 x1 x2
    obtain ⟨vs, hvs⟩ : ∃ vs, vs = varsL (ruTms x.hs x.bs) := ⟨_, rfl⟩
    rw [← hvs] at HSS HV24 ⊢
    have HVS := Lib.hid hvs; clear hvs
    have hv24 := HV24.out
    go_wp2_with fail
    go_loopw [5, 6] (fun s i wr => ∃ j : Nat, j ≤ vs.length ∧ i = .int .i64 j ∧ wr.ownsRow w2.heap.size 95 5 s j (((canL vs).take j).flatMap prC) ∧ Below w2.heap.size w2 wr) (fun _ i _ => vs.length - (intOf i).toNat)
    case atStart => exact ⟨0, by omega, rfl, ownR_nil _ _ _ _, Below.refl _ _⟩
    case round =>
      rename Value => s
      rename World => wr
      obtain ⟨j, hj, rfl, hrow, hb⟩ := hrel
      have HR := Lib.hid hrow; clear hrow
      have Hb := Lib.hid hb; clear hb
      obtain ⟨ps, cs, rfl⟩ := ownR_slice HR.out
      by_cases hlt : j < vs.length
      · rcases HSS.out with hx | ⟨a, o, rfl, _, hta, hcc⟩
        · omega
        · have k0 := (Hb.out.cell (p := ⟨a, o + j, none⟩) hta).trans (hcc j hlt)
          clear hcc
          have HTK := Lib.hid (canL_take hlt)
          obtain ⟨nm, hnm⟩ : ∃ nm : ByteArray, nm = ⟨vs[j].toArray⟩ := ⟨_, rfl⟩
          rw [← hnm] at k0 HTK
          clear hnm
          have HCA := Lib.hid fun V' => rCanonical j (by omega) V'
          obtain ⟨cn, hcn⟩ : ∃ cn, cn = cano j := ⟨_, rfl⟩
          rw [← hcn] at HTK HCA
          clear hcn
          have hk0 : (0 : Int) ≤ (j : Int) := by omega
          have hki : (j : Int) < (vs.length : Int) := by omega
          have hba : a < wr.heap.size := by have := Hb.out.size; omega
          go_wp2_with fail
          have Hc := Lib.hid ((Below.refl wr.heap.size wr).drew)
          go_region_held3 (fun w' => w'.cell? ⟨a, o + j, none⟩ = some (.string nm))
            (first
              | exact (Hc.out.cell (p := ⟨a, o + j, none⟩) hba).trans k0
              | exact ((Hc.out.alloc Hc.out.size _).cell (p := ⟨a, o + j, none⟩) hba).trans k0
              | exact (Hb3.out.cell (p := ⟨a, o + j, none⟩) hta).trans k0)
            (first
              | (go_at_call 28
                 refine (HCA.out _).mono ?_
                 rintro r w3 ⟨rfl, hb1⟩
                 have Hc := Lib.hid (show Below wr.heap.size wr w3 from ⟨hb1.os, hb1.tape, hb1.output, hb1.size, hb1.block⟩)
                 clear hb1
                 have HO := Lib.hid (ownR_up HR.out Hc.out)
                 have HS1 := Lib.hid Hc.out.size
                 dsimp only)
              | (refine step_append_lies _ (by rfl) _ _ _ (by rfl) w2.heap.size 95 i0 _ 5 64 Tryz.underlying87 HI.out HZ0.out HZ1.out HZ2.out rfl (by decide) (.slice ps j cs) j _ (by rfl) (ownR_alloc HO.out _) ⟨w3.heap.size, 0, none⟩ 1 1 [.string nm, .string cn, .int .i8 0, .int .i64 0, .string ⟨#[]⟩] (by rfl) (by rfl) (World.news_of_block (cs := #[.string nm, .string cn, .int .i8 0, .int .i64 0, .string ⟨#[]⟩]) (t := 95) (fr := (0, 0)) (heap_alloc_new w3 _)) (by simp [Value.oneCell']) (by omega) (by unfold maxLen; omega) (by omega) (by have := HS1.out; have := Hb.out.size; simp; omega) (w3.heap.size + 1) (by simp) ?_
                 intro g cap w4 hown2 hgrow hat hlt2
                 have Hb3 := Lib.hid (show Below w2.heap.size wr w4 from ap_below Hc.out Hb.out.size HO.out hgrow)
                 have HF := Lib.hid (show w4.ownsRow w2.heap.size 95 5 (.slice (some ⟨g, 0, none⟩) (j + 1) cap) (j + 1) (((canL vs).take (j + 1)).flatMap prC) by
                   rw [HTK.out, List.flatMap_append, List.flatMap_cons, List.flatMap_nil, List.append_nil]
                   exact hown2)
                 clear hat hgrow hown2))
          all_goals
            clear k0
            go_wp2_with fail
            go_roundw
            case rel => exact ⟨j + 1, by omega, by go_num, HF.out, Hb.out.trans Hb3.out⟩
            case measure => simp [intOf]; omega
      · obtain rfl : j = vs.length := by omega
        have Hwr := Lib.hid (Hb2.out.trans (Hb.out.mono Hb2.out.size))
        have Hw := Lib.hid (HBV.out.trans (Hwr.out.mono HBV.out.size))
        obtain ⟨x0, x1, x2⟩ := threeC ((Hwr.out.block w.heap.size hbk).trans HB1.out)
        have HPR := Lib.hid (show PrsAt wr ps (canL vs) by
          have h1 := HR.out
          have h2 : (canL vs).length = vs.length := canL_len vs
          rw [← h2, List.take_of_length_le (Nat.le_refl _)] at h1
          exact prs_row h1)
        have HRP := Lib.hid (rReplaced (canL vs) ps cs (by rw [canL_len]; omega) d x.p x.hp x.hc x.hs x.bp x.bc x.bs wr HPR.out (HX.out.h_.up Hw.out) (HX.out.b_.up Hw.out) HPU.out)
        rw [canL_len] at HRP
        clear HPR
        go_wp2_with fail
        refine HRP.out.mono ?_
        rintro e w5 ⟨y, rfl, hp, hh, hbb, hya, hyi, hb5⟩
        have HYP := Lib.hid hp; clear hp
        have HYH := Lib.hid hh; clear hh
        have HYB := Lib.hid hbb; clear hbb
        have HYA := Lib.hid hya; clear hya
        have HYI := Lib.hid hyi; clear hyi
        have Hb5 := Lib.hid hb5; clear hb5
        clear x0 x1 x2
        have hsz5 := Hb5.out.size
        have hszr := Hwr.out.size
        have HC4 := Lib.hid ((Hb5.out.block (w.heap.size + 1) (by omega)).trans ((Hwr.out.block (w.heap.size + 1) hbs).trans HB2.out))
        have g0 : w5.frozen? ⟨w.heap.size + 1, 0, none⟩ = false := Lib.frozen_of_heap HC4.out 0
        have g1 : w5.frozen? ⟨w.heap.size + 1, 1, none⟩ = false := Lib.frozen_of_heap HC4.out 1
        have g2 : w5.frozen? ⟨w.heap.size + 1, 2, none⟩ = false := Lib.frozen_of_heap HC4.out 2
        obtain ⟨z0, z1, z2⟩ := threeC HC4.out
        have HKP := Lib.hid (show KpW (fun a => wr.heap.size ≤ a) w5 (putL w5 (w.heap.size + 1) 0 [.string y.p, .slice y.hp y.hs.length y.hc, .slice y.bp y.bs.length y.bc]) from ⟨Nat.le_of_eq (putL_size _ _ _).symm, fun a ha _ => putL_block (by omega) _ _ _⟩)
        have hb2 : (putL w5 (w.heap.size + 1) 0 [.string y.p, .slice y.hp y.hs.length y.hc, .slice y.bp y.bs.length y.bc]).heap[w.heap.size + 1]? = some (.cells #[.string y.p, .slice y.hp y.hs.length y.hc, .slice y.bp y.bs.length y.bc] 41 (0, 0)) := putL_heap _ HC4.out rfl
        have HBp := Lib.hid (show Below w.heap.size w (putL w5 (w.heap.size + 1) 0 [.string y.p, .slice y.hp y.hs.length y.hc, .slice y.bp y.bs.length y.bc]) from putL_below (Nat.le_succ _) _ _ _ (Hw.out.trans (Hb5.out.mono Hw.out.size)))
        go_wp2_with fail
        change bodyPost _ _ _ _ _ (putL w5 (w.heap.size + 1) 0 [.string y.p, .slice y.hp y.hs.length y.hc, .slice y.bp y.bs.length y.bc])
        clear g0 g1 g2 z0 z1 z2
        obtain ⟨W2, hW2⟩ : ∃ W2, W2 = putL w5 (w.heap.size + 1) 0 [.string y.p, .slice y.hp y.hs.length y.hc, .slice y.bp y.bs.length y.bc] := ⟨_, rfl⟩
        rw [← hW2] at hb2 HBp HKP ⊢
        clear hW2
        have hs2 := HKP.out.s_
        have hws := Hw.out.size
        have HE := Lib.hid (HEND.out _ _ (CaPost.of (y := y) HXR.out HRO.out HYP.out (by rw [← HVS.out]; exact HYH.out) (by rw [← HVS.out]; exact HYB.out) (HYA.out.keep HKP.out (HYI.out.mono fun a h => h.1)) (HYI.out.mono fun a h => ⟨by omega, by omega⟩) HBp.out))
        obtain ⟨z0, z1, z2⟩ := threeC hb2
        refine bodyPost_ret (v := .tuple #[.agg #[.string y.p, .slice y.hp y.hs.length y.hc, .slice y.bp y.bs.length y.bc], .int .i64 0]) (by simp [results, Tryz.results8, go_sem, z0, z1, z2]) rfl ?_
        exact HE.out
end Go.Proofs.YtafjjececdhmjaaGreat
