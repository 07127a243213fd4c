/- The contract of check.limits. Conditions: the body lies in memory as it is told; it is one that may be. -/
import Derived.Test.YtafjjececdhmjaaGreatNKh
namespace Go.Proofs.YtafjjececdhmjaaGreat
open Go.RowKit Go.Maps

/-- What is known at the head of the rounds that gather: of what has been found, of what waits. -/
structure Lm1 {d : Nat} (bs : List (Lt d)) (k : Nat) (acc : List (List UInt8)) (eqs : List Eqn) : Prop where
  p1 : ∀ v ∈ acc, ∃ x ∈ bs, x.k = 1 ∧ v ∈ varsL x.ts
  p2 : ∀ x ∈ bs.take k, x.k = 1 → ∀ v ∈ varsL x.ts, v ∈ acc
  p3 : ∀ q ∈ eqs, ∃ x ∈ bs, x.k = 3 ∧ x.r = 1 ∧ QnP x q
  p4 : ∀ x ∈ bs.take k, x.k = 3 → x.r = 1 → ∃ q ∈ eqs, QnP x q
  p5 : acc.length ≤ ((bs.take k).flatMap ltTms).length
  p6 : eqs.length ≤ k
theorem mem_addN {acc : List (List UInt8)} {u v : List UInt8} : v ∈ addN acc u ↔ v ∈ acc ∨ v = u := by
  unfold addN
  split
  · rename_i h
    constructor
    · exact .inl
    · rintro (h1 | rfl)
      · exact h1
      · exact List.contains_iff_mem.1 h
  · simp
theorem mem_addL {v : List UInt8} : ∀ {l acc : List (List UInt8)}, v ∈ addL acc l ↔ v ∈ acc ∨ v ∈ l
  | [], acc => by simp [addL]
  | u :: r, acc => by
    have ih := mem_addL (v := v) (l := r) (acc := addN acc u)
    unfold addL at ih ⊢
    rw [List.foldl_cons, ih, mem_addN, List.mem_cons, or_assoc]
theorem varsL_len (ts : List Tm) : (varsL ts).length ≤ ts.length := by
  have := (foldV_len ts []).2
  simpa [varsL] using this
theorem mem_foldV : ∀ (ts : List Tm) (acc : List (List UInt8)) (v : List UInt8), v ∈ ts.foldl addV acc → v ∈ acc ∨ ∃ t ∈ ts, v = bl t.v
  | [], acc, v, h => .inl h
  | t :: r, acc, v, h => by
    rcases mem_foldV r (addV acc t) v h with h1 | ⟨u, hu, e⟩
    · unfold addV at h1
      split at h1
      · rcases List.mem_append.1 h1 with h2 | h2
        · exact .inl h2
        · exact .inr ⟨t, by simp, List.mem_singleton.1 h2⟩
      · exact .inl h1
    · exact .inr ⟨u, List.mem_cons_of_mem _ hu, e⟩
theorem vars_small {ts : List Tm} (h : ∀ t ∈ ts, t.v.size ≤ maxLen) : ∀ v ∈ varsL ts, v.length ≤ maxLen := by
  intro v hv
  rcases mem_foldV ts [] v hv with h1 | ⟨t, ht, e⟩
  · simp at h1
  · rw [e, size_bl]
    exact h t ht
theorem exTms_small : ∀ (d : Nat) (e : Ex d), ExR d e → ∀ t ∈ exTms d e, t.v.size ≤ maxLen
  | 0, e, _ => nomatch e
  | d + 1, (op, t, sl, ks), h => by
    obtain ⟨_, htr, hkr⟩ := h
    intro u hu
    simp only [exTms, List.mem_cons, List.mem_flatMap] at hu
    rcases hu with rfl | ⟨k, hk, hu⟩
    · exact htr.v0
    · exact exTms_small d k (hkr k hk) u hu
theorem eqnR_of {d : Nat} {x : Lt d} (hr : LtR x) (hn : (ltTms x).length ≤ 9600) {q : Eqn} (h : QnP x q) : EqnR q := by
  have hl : ∀ e : Ex d, ExR d e → (loneB (exOp d e) (exTm d e).v (exLen d e)).size ≤ maxLen := fun e he => by
    unfold loneB
    split
    · unfold maxLen; simp [ByteArray.size]
    · match d, e, he with
      | 0, e, _ => nomatch e
      | d + 1, (op, t, sl, ks), he => exact he.2.1.v0
  unfold ltTms at hn
  rw [List.length_append, List.length_append] at hn
  have h1 := varsL_len (exTms d x.l)
  have h2 := varsL_len (exTms d x.g)
  exact ⟨by rw [h.left]; exact hl _ hr.l_, by rw [h.right]; exact hl _ hr.g_, by rw [h.ls]; omega, by rw [h.rs]; omega, by rw [h.ls]; exact vars_small (exTms_small d _ hr.l_), by rw [h.rs]; exact vars_small (exTms_small d _ hr.g_)⟩
theorem take_mem {α : Type} {l : List α} {k : Nat} (h : k < l.length) {x : α} : x ∈ l.take (k + 1) ↔ x ∈ l.take k ∨ x = l[k] := by
  rw [List.take_succ_eq_append_getElem h, List.mem_append, List.mem_singleton]
theorem flat_step {d : Nat} (bs : List (Lt d)) (k : Nat) (h : k < bs.length) : ((bs.take (k + 1)).flatMap ltTms).length = ((bs.take k).flatMap ltTms).length + (ltTms bs[k]).length := by
  rw [List.take_succ_eq_append_getElem h, List.flatMap_append, List.length_append]
  simp
theorem flat_le {d : Nat} (bs : List (Lt d)) (k : Nat) : ((bs.take k).flatMap ltTms).length ≤ (bs.flatMap ltTms).length := by
  conv => rhs; rw [← List.take_append_drop k bs, List.flatMap_append, List.length_append]
  omega
/-- A body's literal has been gone through. -/
theorem Lm1.pos {d : Nat} {bs : List (Lt d)} {k : Nat} {acc : List (List UInt8)} {eqs : List Eqn} (h : Lm1 bs k acc eqs) (hk : k < bs.length) (h1 : bs[k].k = 1) : Lm1 bs (k + 1) (addL acc (varsL bs[k].ts)) eqs := by
  refine ⟨fun v hv => ?_, fun x hx hx1 v hv => ?_, h.p3, fun x hx hx3 hxr => ?_, ?_, by have := h.p6; omega⟩
  · rcases mem_addL.1 hv with h2 | h2
    · exact h.p1 v h2
    · exact ⟨_, List.getElem_mem hk, h1, h2⟩
  · rcases (take_mem hk).1 hx with h2 | h2
    · exact mem_addL.2 (.inl (h.p2 x h2 hx1 v hv))
    · exact mem_addL.2 (.inr (by rw [← h2]; exact hv))
  · rcases (take_mem hk).1 hx with h2 | h2
    · exact h.p4 x h2 hx3 hxr
    · rw [h2] at hx3; omega
  · rw [flat_step bs k hk]
    have h2 := (addL_len (varsL bs[k].ts) acc).2
    have h3 := varsL_len bs[k].ts
    have h4 := h.p5
    have h5 : bs[k].ts.length ≤ (ltTms bs[k]).length := by
      unfold ltTms
      rw [List.length_append]
      omega
    omega
theorem Lm1.eq {d : Nat} {bs : List (Lt d)} {k : Nat} {acc : List (List UInt8)} {eqs : List Eqn} (h : Lm1 bs k acc eqs) (hk : k < bs.length) (h3 : bs[k].k = 3) (hr : bs[k].r = 1) {q : Eqn} (hq : QnP bs[k] q) : Lm1 bs (k + 1) acc (eqs ++ [q]) := by
  refine ⟨h.p1, fun x hx hx1 v hv => ?_, fun p hp => ?_, fun x hx hx3 hxr => ?_, ?_, by have := h.p6; simp; omega⟩
  · rcases (take_mem hk).1 hx with h2 | h2
    · exact h.p2 x h2 hx1 v hv
    · rw [h2] at hx1; omega
  · rcases List.mem_append.1 hp with h2 | h2
    · exact h.p3 p h2
    · rw [List.mem_singleton.1 h2]
      exact ⟨_, List.getElem_mem hk, h3, hr, hq⟩
  · rcases (take_mem hk).1 hx with h2 | h2
    · obtain ⟨p, hp, hpq⟩ := h.p4 x h2 hx3 hxr
      exact ⟨p, List.mem_append_left _ hp, hpq⟩
    · exact ⟨q, List.mem_append_right _ (by simp), by rw [h2]; exact hq⟩
  · have := h.p5
    rw [flat_step bs k hk]
    omega
theorem Lm1.skip {d : Nat} {bs : List (Lt d)} {k : Nat} {acc : List (List UInt8)} {eqs : List Eqn} (h : Lm1 bs k acc eqs) (hk : k < bs.length) (h1 : bs[k].k ≠ 1) (h3 : bs[k].k = 3 → bs[k].r ≠ 1) : Lm1 bs (k + 1) acc eqs := by
  refine ⟨h.p1, fun x hx hx1 v hv => ?_, h.p3, fun x hx hx3 hxr => ?_, ?_, by have := h.p6; omega⟩
  · rcases (take_mem hk).1 hx with h2 | h2
    · exact h.p2 x h2 hx1 v hv
    · rw [h2] at hx1; exact absurd hx1 h1
  · rcases (take_mem hk).1 hx with h2 | h2
    · exact h.p4 x h2 hx3 hxr
    · rw [h2] at hx3 hxr; exact absurd hxr (h3 hx3)
  · have := h.p5
    rw [flat_step bs k hk]
    omega
def LmPost {d : Nat} (bs : List (Lt d)) (w : World) (e : Ending) (w' : World) : Prop :=
  ∃ b own F, e = .returned (.pointer (some ⟨b, 0, none⟩)) ∧ Below w.heap.size w w' ∧ Fnd w.heap.size own b F w' ∧ ∀ v, v ∈ F ↔ Lim bs v
theorem enterLone (args : Array Value) (w : World) : (callFunc 72 args).run Tryz.prog w = .ok (.enter 72 args) w := by kernel_rfl
theorem enterExprVars (args : Array Value) (w : World) : (callFunc 73 args).run Tryz.prog w = .ok (.enter 73 args) w := by kernel_rfl
/-- How many wait in a ring. -/
def waitN (br : Nat) (w : World) : Nat := match w.cell? ⟨br, 0, none⟩ with
  | some (.slice _ n _) => n
  | _ => 0
theorem Rg.wait {own : Nat → Prop} {br : Nat} {l : List Eqn} {w : World} (h : Rg own br l w) : waitN br w = l.length := by
  obtain ⟨p, c, h1, _⟩ := h
  unfold waitN
  rw [Lib.cell_of_heap h1]
  rfl
/-- The state between rounds. -/
structure Lm2 {d : Nat} (bs : List (Lt d)) (w : World) (b br : Nat) (acc0 : List (List UInt8)) (l0 : List Eqn) (acc : List (List UInt8)) (eqs : List Eqn) (own : Nat → Prop) (wr : World) : Prop where
  f_ : Fnd w.heap.size own b acc wr
  g_ : Rg own br eqs wr
  nb : ¬ own br
  brl : w.heap.size ≤ br
  bw : Below w.heap.size w wr
  r_ : LmR bs acc0 l0 (acc, eqs)
  s_ : ∀ q ∈ eqs, q ∈ l0
  n_ : acc.length + eqs.length ≤ 9999
theorem Lm2.round {d : Nat} {bs : List (Lt d)} {w : World} {b br : Nat} {acc0 : List (List UInt8)} {l0 : List Eqn} {acc : List (List UInt8)} {eqs : List Eqn} {own : Nat → Prop} {wr w' : World} {e : Ending} {n : Nat} (hq : ∀ q ∈ l0, ∃ x ∈ bs, x.k = 3 ∧ x.r = 1 ∧ QnP x q) (h : Lm2 bs w b br acc0 l0 acc eqs own wr) (hp : RoPost w.heap.size own b br n (roundQ acc eqs) wr e w') :
    ∃ own', Lm2 bs w b br acc0 l0 (roundQ acc eqs).1 (roundQ acc eqs).2 own' w' := by
  obtain ⟨_, own', h0, h1, h2, h3⟩ := hp
  refine ⟨own', h1, h2, h0, h.brl, h.bw.trans (h3.below h.bw.size fun k hk => hk.elim (fun h5 => (h.f_.lo k h5).1) fun h5 => by have := h.brl; omega), h.r_.round hq h.s_, fun q hq => h.s_ q (round_sub _ _ q hq), ?_⟩
  · have := round_all eqs (acc, [])
    have h4 := h.n_
    unfold roundQ
    simp at this
    omega
theorem lm_start (w : World) : LmS w (w.heap.size + 1) (w.heap.size + 2) (fun k => k = w.heap.size ∨ k = w.heap.size + 1) [] [] (.slice none 0 0) (((w.alloc (.map #[] 0)).alloc (.cells #[.slice none 0 0, .map (some w.heap.size)] 153)).alloc (.cells #[.slice none 0 0] 156)) := by
  have hb : Below w.heap.size w (((w.alloc (.map #[] 0)).alloc (.cells #[.slice none 0 0, .map (some w.heap.size)] 153)).alloc (.cells #[.slice none 0 0] 156)) :=
    ((below_alloc w _).alloc (by simp) _).alloc (by simp; omega) _
  have hm := World.ownsMap_made (H := Unit) w Tryz.prog 9 (plainElem Tryz.prog 3)
  refine ⟨⟨fun k hk => ⟨by omega, by simp; omega⟩, by simp; omega, .inr rfl, w.heap.size, .map [], .slice none 0 0, ?_, .inl rfl, (hm.alloc _).alloc _, ThereD.nil, World.ownsRowF_nil _ _ _ _, fun g hg => by cases hg⟩, by omega, by omega, hb, ?_, World.ownsRowF_nil _ _ _ _, (fun g hg => nomatch hg), fun q hq => by simp at hq⟩
  · rw [Lib.alloc_old _ _ _ (by simp)]
    have h := heap_alloc_new (w.alloc (.map #[] 0)) (.cells #[.slice none 0 0, .map (some w.heap.size)] 153)
    simpa using h
  · have h := heap_alloc_new ((w.alloc (.map #[] 0)).alloc (.cells #[.slice none 0 0, .map (some w.heap.size)] 153)) (.cells #[.slice none 0 0] 156)
    simpa using h
set_option maxHeartbeats 16000000 in
set_option maxRecDepth 100000 in
theorem tLimits (d : Nat) (bp : Option Addr) (bc : Nat) (bs : List (Lt d)) (w : World) (hb : LtsAt w d bp bs) (hr : ∀ x ∈ bs, LtR x) (hlen : bs.length ≤ 16) (hn : (bs.flatMap ltTms).length ≤ 9600) :
    Calls Tryz.prog 38 #[.slice bp bs.length bc] w (LmPost bs w) := by
  have HBS := Lib.hid hb; clear hb
  have HR := Lib.hid hr; clear hr
  have HN := Lib.hid hn; clear hn
  have HS := Lib.hid (lm_start w)
  obtain ⟨W, hW⟩ : ∃ W, W = (((w.alloc (.map #[] 0)).alloc (.cells #[.slice none 0 0, .map (some w.heap.size)] 153)).alloc (.cells #[.slice none 0 0] 156)) := ⟨_, rfl⟩
  rw [← hW] at HS
  have hmm := @run_makeMap Tryz.prog
  have hmf := makeFn'
  go_enter Tryz.func38, Tryz.ntmps38
  go_wp2_with fail
  clear hmm
  rw [← hW]
  clear hW
  go_loopw [6, 12] (fun _ i wr => ∃ k : Nat, k ≤ bs.length ∧ i = .int .i64 k ∧ ∃ own acc eqs sv, LmS w (w.heap.size + 1) (w.heap.size + 2) own acc eqs sv wr ∧ Lm1 bs k acc eqs) (fun _ i _ => bs.length - (intOf i).toNat)
  case atStart => exact ⟨0, by omega, rfl, _, [], [], _, HS.out, ⟨by simp, by simp, by simp, by simp, by simp, by simp⟩⟩
  case round =>
    clear HS
    obtain ⟨k, hk, rfl, own, acc, eqs, sv, hs, h1⟩ := hrel
    have HSK := Lib.hid hs; clear hs
    have HL := Lib.hid h1; clear h1
    by_cases hlt : k < bs.length
    · rcases HBS.out.1 with h0 | ⟨a2, o2, rfl, ha2, hck⟩
      · omega
      · have hk0 : (0 : Int) ≤ (k : Int) := by omega
        have hki : (k : Int) < (bs.length : Int) := by omega
        have hck' := (hck k hlt).up HSK.out.bw ha2
        have HXA := Lib.hid ((HBS.out.2 _ (List.getElem_mem hlt)).up HSK.out.bw)
        have HXR := Lib.hid (HR.out _ (List.getElem_mem hlt))
        have HP := Lib.hid (fun h1 => HL.out.pos hlt h1)
        have HE := Lib.hid (fun h3 hr (q : Eqn) hq => HL.out.eq hlt h3 hr (q := q) hq)
        have HK := Lib.hid (fun h1 h3 => HL.out.skip hlt h1 h3)
        have HT := Lib.hid (show (ltTms bs[k]).length ≤ 9600 by
          have h1 := flat_step bs k hlt
          have h2 := flat_le bs (k + 1)
          have h3 := HN.out
          omega)
        have HA := Lib.hid (show acc.length + (ltTms bs[k]).length ≤ 9600 ∧ eqs.length ≤ 16 by
          have h1 := flat_step bs k hlt
          have h2 := flat_le bs (k + 1)
          have h3 := HN.out
          have h4 := HL.out.p5
          have h5 := HL.out.p6
          omega)
        clear hck
        obtain ⟨x, hx⟩ : ∃ x, x = bs[k] := ⟨_, rfl⟩
        rw [← hx] at hck' HXA HXR HT HA
        simp only [← hx] at HP HE HK
        clear hx
        obtain ⟨y0, y1, y2, y3, y4, y5, y6, y7, y8, y9, y10, y11, y12, y13, y14, y15⟩ := hck'
        obtain ⟨q, cq, hsv, hm, hts⟩ := HXA.out.at_
        have HTS := Lib.hid (show TmSl wr (.slice q x.ts.length cq) x.ts from ⟨q, cq, rfl, hm, hts⟩)
        unfold maxLen at hm
        rw [hsv] at y2
        clear hsv hts hm
        obtain ⟨pl, cl, hsl⟩ := ex_sl2 HXA.out.l_
        obtain ⟨pg, cg, hsg⟩ := ex_sl2 HXA.out.g_
        rw [hsl] at y9
        rw [hsg] at y15
        have HSL := Lib.hid hsl; clear hsl
        have HSG := Lib.hid hsg; clear hsg
        obtain ⟨V, hV⟩ : ∃ V, V = wr.alloc (.cells #[.int .i8 x.k, .string x.p, .slice q x.ts.length cq, .int .i8 x.r, .int .i8 (exOp d x.l), .string (exTm d x.l).v, .int .i8 (exTm d x.l).x.k, .int .i64 (exTm d x.l).x.n, .string (exTm d x.l).x.t, .slice pl (exLen d x.l) cl, .int .i8 (exOp d x.g), .string (exTm d x.g).v, .int .i8 (exTm d x.g).x.k, .int .i64 (exTm d x.g).x.n, .string (exTm d x.g).x.t, .slice pg (exLen d x.g) cg] 114) := ⟨_, rfl⟩
        have HBV := Lib.hid (show Below wr.heap.size wr V by rw [hV]; exact below_alloc _ _)
        have HVC := Lib.hid (sixteen (show V.heap[wr.heap.size]? = some (.cells #[.int .i8 x.k, .string x.p, .slice q x.ts.length cq, .int .i8 x.r, .int .i8 (exOp d x.l), .string (exTm d x.l).v, .int .i8 (exTm d x.l).x.k, .int .i64 (exTm d x.l).x.n, .string (exTm d x.l).x.t, .slice pl (exLen d x.l) cl, .int .i8 (exOp d x.g), .string (exTm d x.g).v, .int .i8 (exTm d x.g).x.k, .int .i64 (exTm d x.g).x.n, .string (exTm d x.g).x.t, .slice pg (exLen d x.g) cg] 114 (0, 0)) by rw [hV]; exact heap_alloc_new wr _))
        have HSV := Lib.hid (HSK.out.below HBV.out)
        obtain ⟨v0, v1, v2, v3, _⟩ := HVC.out
        rw [hV] at v0 v1 v2 v3
        rcases q1 : (x.k == 1) with _ | _
        · rcases q3 : (x.k == 3) with _ | _
          · have HQ := Lib.hid (HK.out (by simpa using q1) (fun h => absurd h (by simpa using q3)))
            go_wp2_with fail
            rw [← hV]
            clear hV y0 y1 y2 y3 y4 y5 y6 y7 y8 y9 y10 y11 y12 y13 y14 y15 v0 v1 v2 v3
            go_roundw
            case rel => exact ⟨k + 1, by omega, by go_num, own, acc, eqs, sv, HSV.out, HQ.out⟩
            case measure => simp [intOf]; omega
          · rcases qr : (x.r == 1) with _ | _
            · have HQ := Lib.hid (HK.out (by simpa using q1) (fun _ => by simpa using qr))
              go_wp2_with fail
              rw [← hV]
              clear hV y0 y1 y2 y3 y4 y5 y6 y7 y8 y9 y10 y11 y12 y13 y14 y15 v0 v1 v2 v3
              go_roundw
              case rel => exact ⟨k + 1, by omega, by go_num, own, acc, eqs, sv, HSV.out, HQ.out⟩
              case measure => simp [intOf]; omega
            · have HQ := Lib.hid (HE.out (by simpa using q3) (by simpa using qr))
              go_wp2_with fail
              rw [← hV]
              clear hV y0 y1 y2 y3 y4 y5 y6 y7 y8 y9 y10 y11 y12 y13 y14 y15 v0 v1 v2 v3
              have hE : EqE V w.heap.size (w.heap.size + 2) wr.heap.size eqs.length sv (qVs eqs) x pl pg cl cg := by
                obtain ⟨_, _, _, _, v4, v5, v6, v7, v8, v9, v10, v11, v12, v13, v14, v15⟩ := HVC.out
                have h9 := HT.out
                unfold ltTms at h9
                rw [List.length_append, List.length_append] at h9
                exact ⟨HSV.out.r_, HSV.out.bw.size, by have := HA.out.2; omega, HSV.out.rb, v4, v5, v6, v7, v8, v9, v10, v11, v12, v13, v14, v15, HSL.out, HSG.out, ExAt.up HBV.out d _ HXA.out.l_, ExAt.up HBV.out d _ HXA.out.g_, HXR.out.l_, HXR.out.g_, by omega, by omega⟩
              refine wp_region_any (by kernel_rfl) ?_
              refine eq_region rfl ⟨rfl, rfl, rfl⟩ ⟨rfl, rfl, rfl⟩ ⟨rfl, rfl, rfl⟩ ⟨rfl, rfl, rfl⟩ ⟨_, rfl, rfl, rfl⟩ ⟨rfl, rfl, rfl⟩ ⟨rfl, rfl, rfl⟩ ⟨_, rfl, rfl, rfl⟩ ⟨rfl, rfl, rfl⟩ ⟨rfl, rfl, rfl⟩ ⟨_, rfl, rfl, rfl⟩ ⟨rfl, rfl, rfl⟩ ⟨rfl, rfl, rfl⟩ ⟨_, rfl, rfl, rfl⟩ ⟨rfl, rfl, rfl⟩ ⟨rfl, rfl, rfl⟩ ⟨rfl, rfl, rfl⟩ ⟨rfl, rfl, rfl⟩ ⟨rfl, rfl, rfl⟩ (back_of (by kernel_rfl)) (by kernel_rfl) (fun _ _ => by kernel_rfl) (fun _ _ => by kernel_rfl) _ (by show 52 ≤ 57; decide) rfl rfl hE ?_ _ (Below.refl _ V).drew
              intro A w2 hS hfin
              clear hE
              have HFIN := Lib.hid (HSV.out.eq hfin); clear hfin
              have hA := SlotsR.fold 18 34 _ A hS (by show 52 ≤ 57; decide)
              clear hS
              rw [hA]
              clear hA
              obtain ⟨E, hEE⟩ : ∃ E, E = A.eval := ⟨_, rfl⟩
              rw [← hEE]
              clear hEE
              simp only [List.range', List.foldl_cons, List.foldl_nil, Nat.reduceAdd, Act.put, List.setIfInBounds_toArray, List.set_cons_succ, List.set_cons_zero]
              obtain ⟨q2, sv2, hqn, hs2⟩ := HFIN.out
              have HS2 := Lib.hid hs2
              have HQ2 := Lib.hid (HQ.out q2 hqn)
              clear hs2 hqn HFIN
              go_wp2_with fail
              go_roundw
              case rel => exact ⟨k + 1, by omega, by go_num, own, acc, eqs ++ [q2], sv2, HS2.out, HQ2.out⟩
              case measure => simp [intOf]; omega
        · have HQ := Lib.hid (HP.out (by simpa using q1))
          have HAV := Lib.hid (tAtomVarsL x.p (.slice q x.ts.length cq) x.ts V (HTS.out.up HBV.out) HXR.out.ts_ (by have h9 := HT.out; unfold ltTms at h9; rw [List.length_append] at h9; omega))
          go_wp2_with fail
          rw [← hV]
          clear hV y0 y1 y2 y3 y4 y5 y6 y7 y8 y9 y10 y11 y12 y13 y14 y15 v0 v1 v2 v3
          refine HAV.out.mono ?_
          rintro e w1 ⟨pv, cv, rfl, hb1, hss⟩
          have HS1 := Lib.hid (HSV.out.below hb1)
          have HADD := Lib.hid (tAdd HS1.out.f_ pv cv (varsL x.ts) (hss.offOf fun k hk => (HSV.out.f_.lo k hk).2) (by
            have h9 := HA.out.1
            have h8 := varsL_len x.ts
            unfold ltTms at h9
            rw [List.length_append] at h9
            omega) (vars_small fun t ht => (HXR.out.ts_ t ht).v0))
          clear hb1 hss
          obtain ⟨n, hnn⟩ : ∃ n, n = (varsL x.ts).length := ⟨_, rfl⟩
          rw [← hnn] at HADD ⊢
          clear hnn
          go_wp2_with fail
          refine HADD.out.mono ?_
          rintro e w2 ⟨rfl, hp⟩
          obtain ⟨own2, hs2⟩ := HS1.out.add hp
          have HS2 := Lib.hid hs2
          clear hp hs2
          go_wp2_with fail
          go_roundw
          case rel => exact ⟨k + 1, by omega, by go_num, own2, _, eqs, sv, HS2.out, HQ.out⟩
          case measure => simp [intOf]; omega
    · obtain rfl : k = bs.length := by omega
      have HTK := Lib.hid (show (bs.take bs.length) = bs from List.take_of_length_le (Nat.le_refl _))
      have h1 := HL.out
      have hp5 := h1.p5
      have hp6 := h1.p6
      rw [HTK.out] at hp5
      have HPOS := Lib.hid (show ∀ x ∈ bs, x.k = 1 → ∀ v ∈ varsL x.ts, v ∈ acc from fun x hx => h1.p2 x (by rw [HTK.out]; exact hx))
      have HEQS := Lib.hid (show ∀ x ∈ bs, x.k = 3 → x.r = 1 → ∃ q ∈ eqs, QnP x q from fun x hx => h1.p4 x (by rw [HTK.out]; exact hx))
      have HP3 := Lib.hid h1.p3
      have H20 := Lib.hid (show Lm2 bs w (w.heap.size + 1) (w.heap.size + 2) acc eqs acc eqs own wr from ⟨HSK.out.f_, HSK.out.ring, HSK.out.nb, HSK.out.brl, HSK.out.bw, ⟨fun v hv => by
        obtain ⟨x, hx, h2, h3⟩ := h1.p1 v hv
        exact .pos hx h2 h3, fun _ h => h, fun q hq => .inl hq⟩, fun _ h => h, by have := HN.out; omega⟩)
      have HQR := Lib.hid (show ∀ q ∈ eqs, EqnR q from fun q hq => by
        obtain ⟨x, hx, _, _, hqn⟩ := h1.p3 q hq
        refine eqnR_of (HR.out x hx) ?_ hqn
        have h2 := HN.out
        obtain ⟨j, hj, rfl⟩ := List.getElem_of_mem hx
        have h3 := flat_step bs j hj
        have h4 := flat_le bs (j + 1)
        omega)
      clear h1 hp5 hp6 HSK HL
      obtain ⟨acc0, hacc0⟩ : ∃ a, a = acc := ⟨_, rfl⟩
      obtain ⟨l0, hl0⟩ : ∃ a, a = eqs := ⟨_, rfl⟩
      rw [← hacc0, ← hl0] at H20
      rw [← hacc0] at HPOS
      rw [← hl0] at HEQS HP3 HQR
      clear hacc0 hl0
      go_wp2_with fail
      go_loopw [] (fun wr => ∃ acc eqs own, Lm2 bs w (w.heap.size + 1) (w.heap.size + 2) acc0 l0 acc eqs own wr) (fun wr => waitN (w.heap.size + 2) wr)
      case atStart => exact ⟨_, _, own, H20.out⟩
      case round =>
        obtain ⟨acc, eqs, own, h2⟩ := hrel
        have H2 := Lib.hid h2; clear h2
        obtain ⟨b, hbb⟩ : ∃ b, b = w.heap.size + 1 := ⟨_, rfl⟩
        obtain ⟨br, hbr⟩ : ∃ br, br = w.heap.size + 2 := ⟨_, rfl⟩
        rw [← hbb, ← hbr] at H2
        have HRO := Lib.hid (tRound H2.out.f_ H2.out.g_ H2.out.nb (fun q hq => HQR.out q (H2.out.s_ q hq)) H2.out.n_)
        have HWAIT := Lib.hid H2.out.g_.wait
        rw [hbb, hbr] at HRO
        go_wp2_with fail
        refine HRO.out.mono ?_
        rintro e w1 hp
        rw [← hbb, ← hbr] at hp
        obtain ⟨own', h3⟩ := H2.out.round HP3.out hp
        have H3 := Lib.hid h3; clear h3
        obtain ⟨rfl, _⟩ := hp
        rcases hd : decide ((roundQ acc eqs).2.length < eqs.length) with _ | _
        · have HN2 := Lib.hid (show (roundQ acc eqs).2.length = eqs.length by
            have h4 := (roundQ_len eqs (acc, [])).2
            have h5 := of_decide_eq_false hd
            simp at h4
            unfold roundQ at h5 ⊢
            omega)
          have HP := Lib.hid (show LmPost bs w (.returned (.pointer (some ⟨b, 0, none⟩))) w1 from by
            have hnn := round_none eqs (acc, []) (by have := HN2.out; unfold roundQ at this; simpa using this)
            refine ⟨b, own', acc, rfl, H3.out.bw, ?_, H2.out.r_.done HPOS.out HEQS.out hnn.1⟩
            have h9 := H3.out.f_
            have h8 : (roundQ acc eqs).1 = acc := hnn.2
            rw [h8] at h9
            exact h9)
          rw [hbb] at HP
          clear hd hbb hbr
          go_wp2_with fail
          go_ret
          exact HP.out
        · have HLT := Lib.hid (of_decide_eq_true hd)
          have HW3 := Lib.hid H3.out.g_.wait
          rw [hbb, hbr] at H3
          rw [hbr] at HW3 HWAIT
          clear hd hbb hbr
          go_wp2_with fail
          go_roundw
          case rel => exact ⟨_, _, own', H3.out⟩
          case measure => rw [HW3.out, HWAIT.out]; exact HLT.out
end Go.Proofs.YtafjjececdhmjaaGreat
