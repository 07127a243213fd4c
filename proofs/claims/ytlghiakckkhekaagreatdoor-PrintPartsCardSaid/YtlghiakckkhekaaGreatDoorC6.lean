/- The contract of print.Literal. Conditions: the literal lies in memory as it is told. -/
import Derived.Test.YtlghiakckkhekaaGreatDoorC5
namespace Go.Proofs.YtlghiakckkhekaaGreatDoor
open Go.RowKit

theorem pLitOk (w0 : World) (d : Nat) (x : Lt d) (b : Nat) (pre : List UInt8) (w : World) (hE : Env w0 b w) (hT : Tabs w0) (hRl : RelsAt w0) (hx : LtAt w0 x) (hr : LtR x) (ho : ltOk x = true) (hw : Wr 97 b pre w)
    (hlen : pre.length + (litL x).length ≤ 140737488355328) :
    Calls Tryz.prog 40 #[.pointer (some ⟨b, 0, none⟩), .agg #[.int .i8 x.k, .string x.p, x.sv, .int .i8 x.r, .int .i8 (exOp d x.l), .string (exTm d x.l).v, .int .i8 (exTm d x.l).x.k, .int .i64 (exTm d x.l).x.n, .string (exTm d x.l).x.t, exSl d x.l, .int .i8 (exOp d x.g), .string (exTm d x.g).v, .int .i8 (exTm d x.g).x.k, .int .i64 (exTm d x.g).x.n, .string (exTm d x.g).x.t, exSl d x.g]] w (Wrote b pre (litL x) w) := by
  have hk : x.k = 1 ∨ x.k = 2 ∨ x.k = 3 := by
    rcases lt_open ho with ⟨h, _⟩ | ⟨h, _⟩ | ⟨h, _⟩
    · exact .inl h
    · exact .inr (.inl h)
    · exact .inr (.inr h)
  refine pLit w0 d x b pre w hE hx hk hw ?_ ?_ ?_
  · intro h w' hE' hw'
    rcases lt_open ho with ⟨_, ha⟩ | ⟨h2, _⟩ | ⟨h2, _⟩
    · have e : litL x = atomL x.p x.ts := by unfold litL; rw [if_pos h]
      rw [e] at hlen ⊢
      exact pPos w0 d x b pre w' hE' hT hx hr (atOk_24 ha) hw' hlen
    · omega
    · omega
  · intro h w' hE' hw'
    rcases lt_open ho with ⟨h2, _⟩ | ⟨_, ha⟩ | ⟨h2, _⟩
    · omega
    · have e : litL x = [110, 111, 116, 32] ++ atomL x.p x.ts := by unfold litL; rw [if_neg (by omega), if_pos h]
      rw [e] at hlen ⊢
      exact pNot w0 d x b pre w' hE' hT hx hr (atOk_24 ha) hw' hlen
    · omega
  · intro h w' hE' hw'
    rcases lt_open ho with ⟨h2, _⟩ | ⟨h2, _⟩ | ⟨_, h1, h6, hl, hg⟩
    · omega
    · omega
    · have e : litL x = exprL d x.l ++ (32 :: (bl (relL.getD x.r.toNat ⟨#[]⟩) ++ [32])) ++ exprL d x.g := by unfold litL; rw [if_neg (by omega), if_neg (by omega)]
      rw [e] at hlen ⊢
      exact pCmp w0 d x b pre w' hE' hT hRl hx hr h1 h6 hl hg hw' hlen
set_option maxHeartbeats 2000000 in
theorem pToldL (d : Nat) (x : Lt d) (w : World) (hx : LtAt w x) (hr : LtR x) (hT : Tabs w) (hRl : RelsAt w) :
    Calls Tryz.prog 38 #[.agg #[.int .i8 x.k, .string x.p, x.sv, .int .i8 x.r, .int .i8 (exOp d x.l), .string (exTm d x.l).v, .int .i8 (exTm d x.l).x.k, .int .i64 (exTm d x.l).x.n, .string (exTm d x.l).x.t, exSl d x.l, .int .i8 (exOp d x.g), .string (exTm d x.g).v, .int .i8 (exTm d x.g).x.k, .int .i64 (exTm d x.g).x.n, .string (exTm d x.g).x.t, exSl d x.g], .func (.func 39) #[] #[], .func (.func 40) #[] #[]] w (TextPost (ltOk x) (litL x) w) := by
  have HX := Lib.hid hx
  have HR := Lib.hid hr
  have HT := Lib.hid hT; clear hT
  have HRL := Lib.hid hRl; clear hRl
  obtain ⟨q, cap, hsv, _, _⟩ := hx.at_
  obtain ⟨pl, cl, hsl⟩ := ex_sl2 hx.l_
  obtain ⟨pg, cg, hsg⟩ := ex_sl2 hx.g_
  have hc := fun w' h => tLit d x w' h HR.out
  have hd := fun w0 b pre w' h1 h2 h3 h4 h5 h6 h7 => pLitOk w0 d x b pre w' h1 h2 h3 h4 HR.out h5 h6 h7
  rw [hsv, hsl, hsg] at hc hd ⊢
  have HC := Lib.hid hc
  have HD := Lib.hid hd
  clear hc hd hsv hsl hsg hx hr
  rcases ho : ltOk x with _ | _
  all_goals have HO := Lib.hid ho
  all_goals rw [← ho]
  all_goals clear ho
  · go_enter Tryz.func38, Tryz.ntmps38
    go_wp2_with fail
    refine (HC.out _ (HX.out.up (below_alloc _ _))).mono ?_
    rintro e w1 ⟨rfl, hb⟩
    have Hb := Lib.hid hb; clear hb
    rw [HO.out, show okCode false 40 = 40 from rfl]
    go_wp2_with fail
    go_ret2
    exact ⟨ret_no HO.out, (below_alloc _ _).trans (Hb.out.mono (by simp))⟩
  · have HL := Lib.hid (litL_le HR.out HO.out)
    obtain ⟨W, hW⟩ : ∃ W, W = w.alloc (.cells #[.int .i8 x.k, .string x.p, .slice q x.ts.length cap, .int .i8 x.r, .int .i8 (exOp d x.l), .string (exTm d x.l).v, .int .i8 (exTm d x.l).x.k, .int .i64 (exTm d x.l).x.n, .string (exTm d x.l).x.t, .slice pl (exLen d x.l) cl, .int .i8 (exOp d x.g), .string (exTm d x.g).v, .int .i8 (exTm d x.g).x.k, .int .i64 (exTm d x.g).x.n, .string (exTm d x.g).x.t, .slice pg (exLen d x.g) cg] 38) := ⟨_, rfl⟩
    have HBW := Lib.hid (show Below w.heap.size w W by rw [hW]; exact below_alloc _ _)
    have hsW : W.heap.size = w.heap.size + 1 := by rw [hW]; simp
    have HBX := Lib.hid (show W.heap[w.heap.size]? = some (.cells #[.int .i8 x.k, .string x.p, .slice q x.ts.length cap, .int .i8 x.r, .int .i8 (exOp d x.l), .string (exTm d x.l).v, .int .i8 (exTm d x.l).x.k, .int .i64 (exTm d x.l).x.n, .string (exTm d x.l).x.t, .slice pl (exLen d x.l) cl, .int .i8 (exOp d x.g), .string (exTm d x.g).v, .int .i8 (exTm d x.g).x.k, .int .i64 (exTm d x.g).x.n, .string (exTm d x.g).x.t, .slice pg (exLen d x.g) cg] 38 (0, 0)) by rw [hW]; exact heap_alloc_new w _)
    go_enter Tryz.func38, Tryz.ntmps38
    go_wp2_with fail
    rw [← hW]
    clear hW
    refine (HC.out _ (HX.out.up HBW.out)).mono ?_
    rintro e w1 ⟨rfl, hb⟩
    obtain ⟨x0, x1, x2, x3, x4, x5, x6, x7, x8, x9, x10, x11, x12, x13, x14, x15⟩ := sixteen ((hb.block w.heap.size (by omega)).trans HBX.out)
    have Hb := Lib.hid (HBW.out.trans (hb.mono (by omega)))
    have hsz1 : w.heap.size < w1.heap.size := by have := hb.size; omega
    clear hb
    rw [HO.out, show okCode true 40 = 0 from rfl]
    go_wp2_with fail
    refine (HD.out w w1.heap.size [] _ ⟨by omega, Hb.out.trans ((below_alloc w1 _).mono (by omega))⟩ HT.out HRL.out HX.out HO.out (wr_fresh _ w1) (by have := HL.out; simp; omega)).mono ?_
    rintro e w2 ⟨rfl, hw2, hk2⟩
    have H2 := Lib.hid hw2; clear hw2
    have HK2 := Lib.hid hk2; clear hk2
    clear x0 x1 x2 x3 x4 x5 x6 x7 x8 x9 x10 x11 x12 x13 x14 x15
    go_wp2_with fail
    refine (bText w1.heap.size _ _ H2.out).mono ?_
    rintro e w3 ⟨rfl, hk3⟩
    have HK3 := Lib.hid hk3; clear hk3
    go_wp2_with fail
    go_ret2
    exact ⟨ret_yes HO.out, (Hb.out.trans ((below_alloc w1 _).mono (by omega))).trans ((HK2.out.trans HK3.out).below.mono (by omega))⟩
theorem pLitT (d : Nat) (x : Lt d) (w : World) (hx : LtAt w x) (hr : LtR x) (hT : Tabs w) (hRl : RelsAt w) :
    Calls Tryz.prog 14 #[.agg #[.int .i8 x.k, .string x.p, x.sv, .int .i8 x.r, .int .i8 (exOp d x.l), .string (exTm d x.l).v, .int .i8 (exTm d x.l).x.k, .int .i64 (exTm d x.l).x.n, .string (exTm d x.l).x.t, exSl d x.l, .int .i8 (exOp d x.g), .string (exTm d x.g).v, .int .i8 (exTm d x.g).x.k, .int .i64 (exTm d x.g).x.n, .string (exTm d x.g).x.t, exSl d x.g]] w (TextPost (ltOk x) (litL x) w) := by
  have HX := Lib.hid hx
  have HR := Lib.hid hr
  have HT := Lib.hid hT; clear hT
  have HRL := Lib.hid hRl; clear hRl
  obtain ⟨q, cap, hsv, _, _⟩ := hx.at_
  obtain ⟨pl, cl, hsl⟩ := ex_sl2 hx.l_
  obtain ⟨pg, cg, hsg⟩ := ex_sl2 hx.g_
  have hc := fun w' h1 h2 h3 => pToldL d x w' h1 HR.out h2 h3
  rw [hsv, hsl, hsg] at hc ⊢
  have HC := Lib.hid hc
  clear hc hsv hsl hsg hx hr
  go_enter Tryz.func14, Tryz.ntmps14
  go_wp2_with fail
  refine (HC.out _ (HX.out.up (below_alloc _ _)) (HT.out.alloc _) (HRL.out.at (below_alloc _ _))).mono ?_
  rintro e w1 ⟨rfl, hb⟩
  have Hb := Lib.hid hb; clear hb
  go_wp2_with fail
  go_ret2
  exact ⟨rfl, (below_alloc _ _).trans (Hb.out.mono (by simp))⟩
end Go.Proofs.YtlghiakckkhekaaGreatDoor
