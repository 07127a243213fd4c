/- The contract of the graph's expr. Conditions: the graph and the expression lie in memory as they are told. -/
import Derived.Test.YtafjjececdhmjaaGreatNKb
namespace Go.Proofs.YtafjjececdhmjaaGreat
open Go.RowKit

def exV (d : Nat) (e : Ex d) : Value := .agg #[.int .i8 (exOp d e), .string (exTm d e).v, .int .i8 (exTm d e).x.k, .int .i64 (exTm d e).x.n, .string (exTm d e).x.t, exSl d e]
/-- Old nodes that stand alone stay so behind work that made its own node and used it up. -/
theorem Keeps.used {s0 s1 s2 : Gs} {a : Nat} (h : Keeps (fun _ => False) s0 s1) (hn : ∀ c, Iso s0.N s0.up s0.ps c → c ≠ a) (k : Keeps (fun i => i = a) s1 s2) : Keeps (fun _ => False) s0 s2 :=
  ⟨fun x hx => k.ps x (h.ps x hx), fun c _ hi => by
    obtain ⟨h1, h2⟩ := h.iso c id hi
    obtain ⟨h3, h4⟩ := k.iso c (hn c hi) h1
    exact ⟨h3, h4.trans h2⟩⟩
theorem Keeps.used2 {s0 s1 s2 : Gs} {a b : Nat} (h : Keeps (fun _ => False) s0 s1) (ha : ∀ c, Iso s0.N s0.up s0.ps c → c ≠ a) (hb : ∀ c, Iso s0.N s0.up s0.ps c → c ≠ b) (k : Keeps (fun i => i = a ∨ i = b) s1 s2) : Keeps (fun _ => False) s0 s2 :=
  ⟨fun x hx => k.ps x (h.ps x hx), fun c _ hi => by
    obtain ⟨h1, h2⟩ := h.iso c id hi
    obtain ⟨h3, h4⟩ := k.iso c (fun e => e.elim (ha c hi) (hb c hi)) h1
    exact ⟨h3, h4.trans h2⟩⟩
/-- What is known of expressions of a depth. -/
def WgE (w0 : World) (b0 g m : Nat) (Kn : Pl → Prop) (r : Int) (d : Nat) : Prop := ∀ (e : Ex d) (cs : List Cn) (s : Gs) (w : World), Gst b0 g m Kn cs s w → Below w0.heap.size w0 w → ExAt w0 d e →
  Calls Tryz.prog 47 #[.pointer (some ⟨g, 0, none⟩), .int .i64 r, exV d e] w (GPost b0 g m Kn (cs ++ exCn r d e) (fun _ => False) s w (isSrc s (exSr r d e)))
/-- What holds in a round of the graph's work. -/
def GRel (b0 g m : Nat) (Kn : Pl → Prop) (cs : List Cn) (s : Gs) (w wr : World) : Prop := ∃ s', Gst b0 g m Kn cs s' wr ∧ Keeps (fun _ => False) s s' ∧ Below b0 w wr ∧ Gfr g m s.N s'.N w wr
theorem exSr0 {r : Int} {d : Nat} (e : Ex (d + 1)) (h : e.1 = 0) : exSr r (d + 1) e = tmSr r e.2.1 := by
  show (if e.1 = 0 then tmSr r e.2.1 else .ty (ownT e.1)) = _
  rw [if_pos h]
theorem exSr1 {r : Int} {d : Nat} (e : Ex (d + 1)) (h : e.1 ≠ 0) : exSr r (d + 1) e = .ty (ownT e.1) := by
  show (if e.1 = 0 then tmSr r e.2.1 else .ty (ownT e.1)) = _
  rw [if_neg h]
theorem exCn0 {r : Int} {d : Nat} (e : Ex (d + 1)) (h : e.1 = 0) : exCn r (d + 1) e = [] := by
  show (if e.1 = 0 then [] else e.2.2.2.flatMap fun k => exCn r d k ++ saySr (exSr r d k) (kidT e.1)) = _
  rw [if_pos h]
theorem exCn1 {r : Int} {d : Nat} (e : Ex (d + 1)) (h : e.1 ≠ 0) : exCn r (d + 1) e = e.2.2.2.flatMap fun k => exCn r d k ++ saySr (exSr r d k) (kidT e.1) := by
  show (if e.1 = 0 then [] else e.2.2.2.flatMap fun k => exCn r d k ++ saySr (exSr r d k) (kidT e.1)) = _
  rw [if_neg h]
theorem five (op : Int) : ((op == 7) = true ∧ kidT op = 2 ∧ ownT op = 2) ∨ ((op == 7) = false ∧ (op == 10) = true ∧ kidT op = 2 ∧ ownT op = 2) ∨ ((op == 7) = false ∧ (op == 10) = false ∧ (op == 8) = true ∧ kidT op = 2 ∧ ownT op = 1) ∨
    ((op == 7) = false ∧ (op == 10) = false ∧ (op == 8) = false ∧ (op == 9) = true ∧ kidT op = 2 ∧ ownT op = 1) ∨ ((op == 7) = false ∧ (op == 10) = false ∧ (op == 8) = false ∧ (op == 9) = false ∧ kidT op = 1 ∧ ownT op = 1) := by
  unfold kidT ownT
  by_cases h1 : op = 7
  · subst h1; simp
  · by_cases h2 : op = 10
    · subst h2; simp
    · by_cases h3 : op = 8
      · subst h3; simp
      · by_cases h4 : op = 9
        · subst h4; simp
        · simp [h1, h2, h3, h4]
theorem flat_snoc {α : Type} (f : α → List Cn) (l : List α) (k : Nat) (h : k < l.length) (cs : List Cn) : (cs ++ (l.take k).flatMap f) ++ f l[k] = cs ++ (l.take (k + 1)).flatMap f := by
  rw [List.take_succ_eq_append_getElem h, List.flatMap_append, List.append_assoc]
  simp
set_option maxHeartbeats 8000000 in
set_option maxRecDepth 100000 in
theorem gExpr (w0 : World) (b0 g m : Nat) (Kn : Pl → Prop) (hk : KnV Kn) (r : Int) (hr : 0 ≤ r) (hwb : w0.heap.size ≤ b0) : ∀ d, WgE w0 b0 g m Kn r d
  | 0 => fun e => nomatch e
  | d + 1 => by
    have ih := gExpr w0 b0 g m Kn hk r hr hwb d
    rintro ⟨op, t, sl, ks⟩ cs s w h hb hat
    obtain ⟨p, cap, hs, hm, hks, hka⟩ := hat
    simp only at hs hm hks hka
    subst hs
    unfold maxLen at hm
    obtain ⟨W, hW⟩ : ∃ W, W = w.alloc (.cells #[.int .i8 op, .string t.v, .int .i8 t.x.k, .int .i64 t.x.n, .string t.x.t, .slice p ks.length cap] 112) := ⟨_, rfl⟩
    have hbW : Below w.heap.size w W := by rw [hW]; exact (Below.refl _ _).alloc (Nat.le_refl _) _
    have hGW := h.off (w' := W) hbW.block
    have HIH := Lib.hid ih; clear ih
    have HKS := Lib.hid hks; clear hks
    have HKA := Lib.hid hka; clear hka
    have HB := Lib.hid hb; clear hb
    have HZ := Lib.hid h.size
    have HBW := Lib.hid hbW; clear hbW
    have HGW := Lib.hid hGW; clear hGW
    have HWB := Lib.hid hwb; clear hwb
    clear h
    show Calls Tryz.prog 47 #[.pointer (some ⟨g, 0, none⟩), .int .i64 r, .agg #[.int .i8 op, .string t.v, .int .i8 t.x.k, .int .i64 t.x.n, .string t.x.t, .slice p ks.length cap]] w _
    by_cases h0 : op = 0
    · have HC := Lib.hid (gTerm HGW.out hk r hr t.v t.x.k t.x.n t.x.t)
      have HE : exSr r (d + 1) (op, t, .slice p ks.length cap, ks) = tmSr r t := exSr0 _ h0
      have HE2 : exCn r (d + 1) (op, t, .slice p ks.length cap, ks) = [] := exCn0 _ h0
      rw [HE, HE2, List.append_nil]
      clear HE HE2
      subst h0
      clear hk hr
      go_enter Tryz.func47, Tryz.ntmps47
      go_wp2_with fail
      rw [← hW]
      clear hW
      refine HC.out.mono ?_
      rintro e w1 ⟨_, s', rfl, ⟨⟨a, rfl, ha, hn⟩, _⟩, hg, hkp, hb1, hgf⟩
      have HP := Lib.hid (show GPost b0 g m Kn cs (fun _ => False) s w (isSrc s (tmSr r t)) (.returned (ptrOf a)) w1 from ⟨_, s', rfl, ⟨a, rfl, ha, hn⟩, hg, hkp, (HBW.out.mono HZ.out.1).trans hb1, (Gfr.of_below HBW.out).trans hgf⟩)
      clear ha hn hg hkp hb1 hgf
      go_wp2_with fail
      go_ret
      exact HP.out
    · have HE : exSr r (d + 1) (op, t, .slice p ks.length cap, ks) = .ty (ownT op) := exSr1 _ h0
      have HE2 : exCn r (d + 1) (op, t, .slice p ks.length cap, ks) = ks.flatMap fun k => exCn r d k ++ saySr (exSr r d k) (kidT op) := exCn1 _ h0
      rw [HE, HE2]
      clear HE HE2 hk hr
      have q0 : (op == 0) = false := beq_eq_false_iff_ne.2 h0
      clear h0
      obtain ⟨f, hf⟩ : ∃ f, f = fun k => exCn r d k ++ saySr (exSr r d k) (kidT op) := ⟨_, rfl⟩
      rw [← hf]
      rcases five op with ⟨q7, k1, k2⟩ | ⟨q7, q10, k1, k2⟩ | ⟨q7, q10, q8, k1, k2⟩ | ⟨q7, q10, q8, q9, k1, k2⟩ | ⟨q7, q10, q8, q9, k1, k2⟩ <;>
      (have HF := Lib.hid (show ∀ k, f k = exCn r d k ++ saySr (exSr r d k) (kidT op) from fun k => by rw [hf])
       have HKT := Lib.hid k1
       have HOT := Lib.hid k2
       clear k1 k2 hf
       go_enter Tryz.func47, Tryz.ntmps47
       go_wp2_with fail
       rw [← hW]
       clear hW
       go_loopw [10, 29] (fun _ i wr => ∃ k : Nat, k ≤ ks.length ∧ i = .int .i64 k ∧ GRel b0 g m Kn (cs ++ (ks.take k).flatMap f) s w wr) (fun _ i _ => ks.length - (intOf i).toNat)
       case atStart => exact ⟨0, by omega, rfl, s, by simpa using HGW.out, Keeps.refl _ _, HBW.out.mono HZ.out.1, Gfr.of_below HBW.out⟩
       case round =>
         obtain ⟨k, hk, rfl, s', hg, hkp, hbk, hgf⟩ := hrel
         have HG := Lib.hid hg; clear hg
         have HKP := Lib.hid hkp; clear hkp
         have HBK := Lib.hid hbk; clear hbk
         have HGF := Lib.hid hgf; clear hgf
         by_cases hlt : k < ks.length
         · rcases HKS.out with h0 | ⟨a2, o2, rfl, ha2, hck⟩
           · omega
           · have hk0 : (0 : Int) ≤ (k : Int) := by omega
             have hki : (k : Int) < (ks.length : Int) := by omega
             have hbw : Below w0.heap.size w0 wr := HB.out.trans (HBK.out.mono HWB.out)
             obtain ⟨y0, y1, y2, y3, y4, y5⟩ := (hck k hlt).up hbw ha2
             have HS := Lib.hid (flat_snoc f ks k hlt cs)
             have HA := Lib.hid (HKA.out _ (List.getElem_mem hlt))
             have HKk := Lib.hid (HF.out ks[k])
             have HBw := Lib.hid hbw
             clear hck hbw
             obtain ⟨x, hx⟩ : ∃ x, x = ks[k] := ⟨_, rfl⟩
             rw [← hx] at y0 y1 y2 y3 y4 y5 HS HA HKk
             clear hx
             obtain ⟨px, cx, hsl⟩ := ex_sl2 HA.out
             rw [hsl] at y5
             have HSL := Lib.hid hsl; clear hsl
             obtain ⟨W2, hW2⟩ : ∃ W2, W2 = wr.alloc (.cells #[.int .i8 (exOp d x), .string (exTm d x).v, .int .i8 (exTm d x).x.k, .int .i64 (exTm d x).x.n, .string (exTm d x).x.t, .slice px (exLen d x) cx] 112) := ⟨_, rfl⟩
             have HB2 := Lib.hid (show Below wr.heap.size wr W2 by rw [hW2]; exact (Below.refl _ _).alloc (Nat.le_refl _) _)
             go_wp2_with fail
             rw [← hW2]
             clear hW2 y0 y1 y2 y3 y4 y5
             have HC := HIH.out x _ s' W2 (HG.out.off HB2.out.block) (HBw.out.trans (HB2.out.mono HBw.out.size)) HA.out
             unfold exV at HC
             rw [HSL.out] at HC
             refine HC.mono ?_
             clear HC
             rintro e w1 ⟨_, s1, rfl, ⟨n, rfl, hsn, hni⟩, hg1, hkp1, hb1, hgf1⟩
             have HC2 := gSay hg1 hsn (t := kidT op) (by have := HKT.out; omega)
             rw [HKT.out] at HC2
             have HC2 := Lib.hid HC2
             have HI := Lib.hid hni
             have HK1 := Lib.hid hkp1
             have HBb := Lib.hid hb1
             have HG1 := Lib.hid hgf1
             clear hg1 hsn hni hkp1 hb1 hgf1
             unfold ptrOf
             go_wp2_with fail
             refine HC2.out.mono ?_
             rintro e w2 ⟨_, s2, rfl, rfl, hg2, hkp2, hb2, hgf2⟩
             have HR := Lib.hid (show GRel b0 g m Kn (cs ++ (ks.take (k + 1)).flatMap f) s w w2 from
               ⟨s2, by rw [← HS.out, HKk.out, HKT.out, ← List.append_assoc]; exact hg2, HKP.out.trans (HK1.out.used HI.out hkp2) (fun _ h => h),
                HBK.out.trans ((HB2.out.mono HG.out.size.1).trans (HBb.out.trans hb2)), HGF.out.trans ((Gfr.of_below HB2.out).trans (HG1.out.trans hgf2))⟩)
             clear hg2 hkp2 hb2 hgf2
             go_wp2_with fail
             go_roundw
             case rel => exact ⟨k + 1, by omega, by go_num, HR.out⟩
             case measure => simp [intOf]; omega
         · obtain rfl : k = ks.length := by omega
           have HE := Lib.hid (show (ks.take ks.length) = ks from List.take_of_length_le (Nat.le_refl _))
           have HP := Lib.hid (show GPost b0 g m Kn (cs ++ ks.flatMap f) (fun _ => False) s w (isSrc s (.ty (ownT op))) (.returned (.pointer (some ⟨wr.heap.size, 0, none⟩))) (wr.alloc (.cells #[.pointer none, .int .i8 (ownT op)] 76)) from by
             have hg := HG.out
             rw [HE.out] at hg
             have ho := HOT.out
             have key := hg.fresh (a := wr.heap.size) (w' := wr.alloc (.cells #[.pointer none, .int .i8 (ownT op)] 76)) (t := ownT op) (Nat.le_refl _) (by omega) ((Below.refl _ _).alloc (Nat.le_refl _) _) ⟨_, heap_alloc_new wr _⟩
             rw [if_neg (by omega)] at key
             obtain ⟨v, s3, h1, ⟨⟨a, h2, h3, h4⟩, _⟩, h5, h6, h7, h8⟩ := key
             exact ⟨v, s3, h1, ⟨a, h2, h3, fun c hc => h4 c (HKP.out.iso c id hc).1⟩, h5, HKP.out.trans h6 (fun _ h => h), HBK.out.trans h7, HGF.out.trans h8⟩)
           go_wp2_with fail
           go_ret
           rw [HOT.out] at HP ⊢
           exact HP.out)
end Go.Proofs.YtafjjececdhmjaaGreat
