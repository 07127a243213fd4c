/- The contracts of the reference's CheckLiteral, rel, literal and Literal. Conditions: the literal lies in memory as it is told. -/
import Derived.Test.YtdgbenadoaecoaaGreatDoorC2
import Derived.Deep.RegionHeld3
namespace Go.Proofs.YtdgbenadoaecoaaGreatDoor
open Go.RowKit

def relL : List ByteArray := [⟨#[]⟩, ⟨#[61]⟩, ⟨#[33, 61]⟩, ⟨#[60]⟩, ⟨#[60, 61]⟩, ⟨#[62]⟩, ⟨#[62, 61]⟩]
theorem rel_len : ∀ i, i < 7 → (bl (relL.getD i ⟨#[]⟩)).length ≤ 2 := by decide
/-- A literal's text. -/
def litL {d : Nat} (x : Lt d) : List UInt8 :=
  if x.k = 1 then atomL x.p x.ts else if x.k = 2 then [110, 111, 116, 32] ++ atomL x.p x.ts else exprL d x.l ++ (32 :: (bl (relL.getD x.r.toNat ⟨#[]⟩) ++ [32])) ++ exprL d x.g
theorem lt_open {d : Nat} {x : Lt d} (h : ltOk x = true) : (x.k = 1 ∧ atOk x.p x.ts = true) ∨ (x.k = 2 ∧ atOk x.p x.ts = true) ∨ (x.k = 3 ∧ 1 ≤ x.r ∧ x.r ≤ 6 ∧ exOk 8 d x.l = true ∧ exOk 8 d x.g = true) := by
  unfold ltOk at h
  split at h
  · rename_i hk
    simp only [Bool.and_eq_true] at h
    rcases hk with hk | hk
    · exact .inl ⟨hk, h.1.1.1⟩
    · exact .inr (.inl ⟨hk, h.1.1.1⟩)
  · split at h
    · rename_i hk
      simp only [Bool.and_eq_true, decide_eq_true_eq] at h
      exact .inr (.inr ⟨hk, h.1.1.1.2, h.1.1.2, h.1.2, h.2⟩)
    · cases h
theorem litL_le {d : Nat} {x : Lt d} (hr : LtR x) (h : ltOk x = true) : (litL x).length ≤ 500000 := by
  unfold litL
  rcases lt_open h with ⟨hk, ha⟩ | ⟨hk, ha⟩ | ⟨hk, h1, h6, hl, hg⟩
  · rw [if_pos hk]
    have := atomL_le hr.ts_ ha
    omega
  · rw [if_neg (by omega), if_pos hk]
    have := atomL_le hr.ts_ ha
    simp
    omega
  · rw [if_neg (by omega), if_neg (by omega)]
    have a1 := exprL_b (by omega) hl hr.l_
    have a2 := exprL_b (by omega) hg hr.g_
    have a3 := rel_len x.r.toNat (by omega)
    simp only [List.length_append, List.length_cons, List.length_nil]
    omega
theorem rRel (r : Int) (w : World) (h1 : 1 ≤ r) (h6 : r ≤ 6) :
    Calls Tryz.prog 72 #[.int .i8 r] w fun e w' => e = .returned (.string (relL.getD r.toNat ⟨#[]⟩)) ∧ w = w' := by
  have hr : r = 1 ∨ r = 2 ∨ r = 3 ∨ r = 4 ∨ r = 5 ∨ r = 6 := by omega
  clear h1 h6
  rcases hr with rfl | rfl | rfl | rfl | rfl | rfl
  all_goals
    go_enter Tryz.func72, Tryz.ntmps72
    go_wp2_with fail
    go_ret
    exact ⟨rfl, rfl⟩
set_option maxHeartbeats 8000000 in
set_option maxRecDepth 100000 in
theorem rLitL (d : Nat) (x : Lt d) (w : World) (hx : LtAt w x) (hr : LtR x) (ho : ltOk x = true) :
    Calls Tryz.prog 40 #[.agg #[.int .i8 x.k, .string x.p, x.sv, .int .i8 x.r, .int .i8 (exOp d x.l), .string (exTm d x.l).v, .int .i8 (exTm d x.l).x.k, .int .i64 (exTm d x.l).x.n, .string (exTm d x.l).x.t, exSl d x.l, .int .i8 (exOp d x.g), .string (exTm d x.g).v, .int .i8 (exTm d x.g).x.k, .int .i64 (exTm d x.g).x.n, .string (exTm d x.g).x.t, exSl d x.g]] w fun e w' => e = .returned (.string ⟨(litL x).toArray⟩) ∧ Below w.heap.size w w' := by
  have ho' := lt_open ho
  clear ho
  obtain ⟨k, p, ts, sv, r, el, eg⟩ := x
  obtain ⟨hat, hl, hg⟩ := hx
  obtain ⟨hp, htr, hlr, hgr⟩ := hr
  have HTS := Lib.hid hat
  obtain ⟨q, cap, hsv, _, _⟩ := hat
  obtain ⟨pl, cl, hsl⟩ := ex_sl2 hl
  obtain ⟨pg, cg, hsg⟩ := ex_sl2 hg
  have hsv' : sv = .slice q ts.length cap := hsv
  clear hsv
  subst hsv'
  have HP := Lib.hid (show p.size ≤ maxLen from hp); clear hp
  have HTR := Lib.hid (show TmsR ts from htr); clear htr
  have HLR := Lib.hid (show ExR d el from hlr); clear hlr
  have HGR := Lib.hid (show ExR d eg from hgr); clear hgr
  have HLA := Lib.hid (show ExAt w d el from hl); clear hl
  have HGA := Lib.hid (show ExAt w d eg from hg); clear hg
  have HSL := Lib.hid (show exSl d el = .slice pl (exLen d el) cl from hsl)
  have HSG := Lib.hid (show exSl d eg = .slice pg (exLen d eg) cg from hsg)
  have HTS' := Lib.hid (show TmSl w (.slice q ts.length cap) ts from HTS.out); clear HTS
  simp only at hsl hsg ⊢
  rw [hsl, hsg]
  clear hsl hsg
  rcases ho' with ⟨hk, ha⟩ | ⟨hk, ha⟩ | ⟨hk, h1, h6, hel, heg⟩
  · have hk' : k = 1 := hk
    clear hk
    subst hk'
    have HA := Lib.hid (show atOk p ts = true from ha); clear ha
    have HL := Lib.hid (atomL_le HTR.out HA.out)
    obtain ⟨W, hW⟩ : ∃ W, W = w.alloc (.cells #[.int .i8 1, .string p, .slice q ts.length cap, .int .i8 r, .int .i8 (exOp d el), .string (exTm d el).v, .int .i8 (exTm d el).x.k, .int .i64 (exTm d el).x.n, .string (exTm d el).x.t, .slice pl (exLen d el) cl, .int .i8 (exOp d eg), .string (exTm d eg).v, .int .i8 (exTm d eg).x.k, .int .i64 (exTm d eg).x.n, .string (exTm d eg).x.t, .slice pg (exLen d eg) cg] 80) := ⟨_, rfl⟩
    have HBW := Lib.hid (show Below w.heap.size w W by rw [hW]; exact below_alloc _ _)
    have hsW : W.heap.size = w.heap.size + 1 := by rw [hW]; simp
    have HBX := Lib.hid (show W.heap[w.heap.size]? = some (.cells #[.int .i8 1, .string p, .slice q ts.length cap, .int .i8 r, .int .i8 (exOp d el), .string (exTm d el).v, .int .i8 (exTm d el).x.k, .int .i64 (exTm d el).x.n, .string (exTm d el).x.t, .slice pl (exLen d el) cl, .int .i8 (exOp d eg), .string (exTm d eg).v, .int .i8 (exTm d eg).x.k, .int .i64 (exTm d eg).x.n, .string (exTm d eg).x.t, .slice pg (exLen d eg) cg] 80 (0, 0)) by rw [hW]; exact heap_alloc_new w _)
    go_enter Tryz.func40, Tryz.ntmps40
    go_wp2_with fail
    rw [← hW]
    clear hW
    refine (rAtomL p _ ts _ (HTS'.out.up HBW.out) HTR.out HA.out).mono ?_
    rintro e w1 ⟨rfl, hb⟩
    have Hb := Lib.hid hb; clear hb
    go_wp2_with fail
    go_ret
    exact ⟨rfl, HBW.out.trans (Hb.out.mono (by omega))⟩
  · have hk' : k = 2 := hk
    clear hk
    subst hk'
    have HA := Lib.hid (show atOk p ts = true from ha); clear ha
    have HL := Lib.hid (atomL_le HTR.out HA.out)
    obtain ⟨W, hW⟩ : ∃ W, W = w.alloc (.cells #[.int .i8 2, .string p, .slice q ts.length cap, .int .i8 r, .int .i8 (exOp d el), .string (exTm d el).v, .int .i8 (exTm d el).x.k, .int .i64 (exTm d el).x.n, .string (exTm d el).x.t, .slice pl (exLen d el) cl, .int .i8 (exOp d eg), .string (exTm d eg).v, .int .i8 (exTm d eg).x.k, .int .i64 (exTm d eg).x.n, .string (exTm d eg).x.t, .slice pg (exLen d eg) cg] 80) := ⟨_, rfl⟩
    have HBW := Lib.hid (show Below w.heap.size w W by rw [hW]; exact below_alloc _ _)
    have hsW : W.heap.size = w.heap.size + 1 := by rw [hW]; simp
    have HBX := Lib.hid (show W.heap[w.heap.size]? = some (.cells #[.int .i8 2, .string p, .slice q ts.length cap, .int .i8 r, .int .i8 (exOp d el), .string (exTm d el).v, .int .i8 (exTm d el).x.k, .int .i64 (exTm d el).x.n, .string (exTm d el).x.t, .slice pl (exLen d el) cl, .int .i8 (exOp d eg), .string (exTm d eg).v, .int .i8 (exTm d eg).x.k, .int .i64 (exTm d eg).x.n, .string (exTm d eg).x.t, .slice pg (exLen d eg) cg] 80 (0, 0)) by rw [hW]; exact heap_alloc_new w _)
    go_enter Tryz.func40, Tryz.ntmps40
    go_wp2_with fail
    rw [← hW]
    clear hW
    refine (rAtomL p _ ts _ (HTS'.out.up HBW.out) HTR.out HA.out).mono ?_
    rintro e w1 ⟨rfl, hb⟩
    have Hb := Lib.hid hb; clear hb
    obtain ⟨s, hs⟩ : ∃ s : ByteArray, s = ⟨(atomL p ts).toArray⟩ := ⟨_, rfl⟩
    have hsz : s.size ≤ 20000 := by rw [hs]; simpa [ByteArray.size] using HL.out
    have HSB := Lib.hid (show bl s = atomL p ts by rw [hs])
    rw [← hs]
    clear hs
    go_wp2_with fail
    go_ret
    exact ⟨ret_bytes (by rw [bl_app, HSB.out]; rfl), HBW.out.trans (Hb.out.mono (by omega))⟩
  · have hk' : k = 3 := hk
    clear hk
    subst hk'
    have h1' : 1 ≤ r := h1
    have h6' : r ≤ 6 := h6
    have HEL := Lib.hid (show exOk 8 d el = true from hel); clear hel
    have HEG := Lib.hid (show exOk 8 d eg = true from heg); clear heg
    clear h1 h6
    have HLL := Lib.hid (exprL_b (by omega) HEL.out HLR.out)
    have HLG := Lib.hid (exprL_b (by omega) HEG.out HGR.out)
    obtain ⟨rs, hrs⟩ : ∃ rs, rs = relL.getD r.toNat ⟨#[]⟩ := ⟨_, rfl⟩
    have hrl : rs.size ≤ 2 := by
      have := rel_len r.toNat (by omega)
      rw [← hrs] at this
      rw [size_bl] at this
      exact this
    have HRS := Lib.hid hrs; clear hrs
    obtain ⟨W, hW⟩ : ∃ W, W = w.alloc (.cells #[.int .i8 3, .string p, .slice q ts.length cap, .int .i8 r, .int .i8 (exOp d el), .string (exTm d el).v, .int .i8 (exTm d el).x.k, .int .i64 (exTm d el).x.n, .string (exTm d el).x.t, .slice pl (exLen d el) cl, .int .i8 (exOp d eg), .string (exTm d eg).v, .int .i8 (exTm d eg).x.k, .int .i64 (exTm d eg).x.n, .string (exTm d eg).x.t, .slice pg (exLen d eg) cg] 80) := ⟨_, rfl⟩
    have HBW := Lib.hid (show Below w.heap.size w W by rw [hW]; exact below_alloc _ _)
    have hsW : W.heap.size = w.heap.size + 1 := by rw [hW]; simp
    have HBX := Lib.hid (show W.heap[w.heap.size]? = some (.cells #[.int .i8 3, .string p, .slice q ts.length cap, .int .i8 r, .int .i8 (exOp d el), .string (exTm d el).v, .int .i8 (exTm d el).x.k, .int .i64 (exTm d el).x.n, .string (exTm d el).x.t, .slice pl (exLen d el) cl, .int .i8 (exOp d eg), .string (exTm d eg).v, .int .i8 (exTm d eg).x.k, .int .i64 (exTm d eg).x.n, .string (exTm d eg).x.t, .slice pg (exLen d eg) cg] 80 (0, 0)) by rw [hW]; exact heap_alloc_new w _)
    have hbk : w.heap.size < W.heap.size := by omega
    obtain ⟨x0, x1, x2, x3, x4, x5, x6, x7, x8, x9, x10, x11, x12, x13, x14, x15⟩ := sixteen HBX.out
    have Hb := Lib.hid ((Below.refl W.heap.size W).drew)
    go_enter Tryz.func40, Tryz.ntmps40
    go_wp2_with fail
    rw [← hW]
    clear hW
    go_region_held3 (fun w' => w'.cell? ⟨w.heap.size, 3, none⟩ = W.cell? ⟨w.heap.size, 3, none⟩ ∧ w'.cell? ⟨w.heap.size, 4, none⟩ = W.cell? ⟨w.heap.size, 4, none⟩ ∧ w'.cell? ⟨w.heap.size, 5, none⟩ = W.cell? ⟨w.heap.size, 5, none⟩ ∧ w'.cell? ⟨w.heap.size, 6, none⟩ = W.cell? ⟨w.heap.size, 6, none⟩ ∧ w'.cell? ⟨w.heap.size, 7, none⟩ = W.cell? ⟨w.heap.size, 7, none⟩ ∧ w'.cell? ⟨w.heap.size, 8, none⟩ = W.cell? ⟨w.heap.size, 8, none⟩ ∧ w'.cell? ⟨w.heap.size, 9, none⟩ = W.cell? ⟨w.heap.size, 9, none⟩ ∧ w'.cell? ⟨w.heap.size, 10, none⟩ = W.cell? ⟨w.heap.size, 10, none⟩ ∧ w'.cell? ⟨w.heap.size, 11, none⟩ = W.cell? ⟨w.heap.size, 11, none⟩ ∧ w'.cell? ⟨w.heap.size, 12, none⟩ = W.cell? ⟨w.heap.size, 12, none⟩ ∧ w'.cell? ⟨w.heap.size, 13, none⟩ = W.cell? ⟨w.heap.size, 13, none⟩ ∧ w'.cell? ⟨w.heap.size, 14, none⟩ = W.cell? ⟨w.heap.size, 14, none⟩ ∧ w'.cell? ⟨w.heap.size, 15, none⟩ = W.cell? ⟨w.heap.size, 15, none⟩)
      (exact ⟨Hb.out.cell hbk, Hb.out.cell hbk, Hb.out.cell hbk, Hb.out.cell hbk, Hb.out.cell hbk, Hb.out.cell hbk, Hb.out.cell hbk, Hb.out.cell hbk, Hb.out.cell hbk, Hb.out.cell hbk, Hb.out.cell hbk, Hb.out.cell hbk, Hb.out.cell hbk⟩)
      (first
        | (go_at_call 72
           refine (rRel _ _ h1' h6').mono ?_
           rintro e w2 ⟨rfl, rfl⟩
           rw [← HRS.out])
        | (go_at_call 71
           rw [← HSL.out]
           refine (ref_all d el 8 _ ?_ HEL.out ?_ HLR.out).mono ?_
           · omega
           · exact ExAt.up (HBW.out.trans (Hb.out.mono (by omega))) d el HLA.out
           rintro e w1 ⟨rfl, hb⟩
           have Hb := Lib.hid (Hb.out.trans (hb.mono Hb.out.size))
           clear hb
           obtain ⟨s1, hs1⟩ : ∃ s : ByteArray, s = ⟨(exprL d el).toArray⟩ := ⟨_, rfl⟩
           have hz1 : s1.size ≤ 207352 := by rw [hs1]; simpa [ByteArray.size] using HLL.out
           have hcat1 : ¬ 9223372036854775807 < s1.size + 1 := by omega
           have hcat2 : ¬ 9223372036854775807 < s1.size + 1 + rs.size := by omega
           have hcat3 : ¬ 9223372036854775807 < s1.size + 1 + rs.size + 1 := by omega
           have HS1 := Lib.hid (show bl s1 = exprL d el by rw [hs1])
           rw [← hs1]
           clear hs1)
        | (go_at_call 71
           rw [← HSG.out]
           refine (ref_all d eg 8 _ ?_ HEG.out ?_ HGR.out).mono ?_
           · omega
           · exact ExAt.up (HBW.out.trans (Hb.out.mono (by omega))) d eg HGA.out
           rintro e w1 ⟨rfl, hb⟩
           have Hb := Lib.hid (Hb.out.trans (hb.mono Hb.out.size))
           clear hb
           obtain ⟨s2, hs2⟩ : ∃ s : ByteArray, s = ⟨(exprL d eg).toArray⟩ := ⟨_, rfl⟩
           have hz2 : s2.size ≤ 207352 := by rw [hs2]; simpa [ByteArray.size] using HLG.out
           have hcat4 : ¬ 9223372036854775807 < s1.size + 1 + rs.size + 1 + s2.size := by omega
           have HS2 := Lib.hid (show bl s2 = exprL d eg by rw [hs2])
           rw [← hs2]
           clear hs2))
    all_goals
      clear x0 x1 x2 x3 x4 x5 x6 x7 x8 x9 x10 x11 x12 x13 x14 x15
      go_wp2_with fail
      go_ret
      refine ⟨ret_bytes ?_, HBW.out.trans (Hb.out.mono (by omega))⟩
      rw [bl_app, bl_app, bl_app, bl_app, HS1.out, HS2.out]
      show _ = exprL d el ++ (32 :: (bl (relL.getD r.toNat ⟨#[]⟩) ++ [32])) ++ exprL d eg
      rw [← HRS.out]
      simp [bl]
end Go.Proofs.YtdgbenadoaecoaaGreatDoor
