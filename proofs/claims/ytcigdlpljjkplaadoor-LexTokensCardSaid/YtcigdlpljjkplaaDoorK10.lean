/- The contract of the reference's Tokens at every source. Conditions: none beyond what the type tells. -/
import Derived.Test.YtcigdlpljjkplaaDoorK9
import Derived.Test.YtcigdlpljjkplaaDoorN3
namespace Go.Proofs.YtcigdlpljjkplaaDoor
open Go.RowKit

structure KsRel (s : ByteArray) (W : World) (k : Nat) (ts : List Tk) (v i : Value) (wr : World) : Prop where
  k_ : k ≤ s.size
  i_ : i = .int .i64 k
  t_ : toksT (bl s) 0 = (toksT ((bl s).drop k) k).map (ts ++ ·)
  l_ : ts.length ≤ k
  n_ : ∀ h : k < s.size, blankB s[k] = false ∧ s[k].toNat ≠ 35
  b_ : Below W.heap.size W wr
  o_ : wr.ownsRow W.heap.size 36 4 v ts.length (ts.flatMap Tk.cells)
set_option maxHeartbeats 16000000 in
set_option maxRecDepth 100000 in
theorem kTokens (S : ByteArray) (w : World) (hs : S.size ≤ maxLen) :
    Calls Tryd.prog 10 #[.string S] w (TsPost (tokR (bl S)) w) := by
  unfold maxLen at hs
  obtain ⟨i0, hi, hzz⟩ := Option.map_eq_some_iff.1 infoTk
  simp only [Prod.mk.injEq] at hzz
  obtain ⟨hz0, hz1, hz2⟩ := hzz
  have HI := Lib.hid hi; clear hi
  have HZ0 := Lib.hid hz0; clear hz0
  have HZ1 := Lib.hid hz1; clear hz1
  have HZ2 := Lib.hid hz2; clear hz2
  obtain ⟨R, hR⟩ : ∃ R, R = tokR (bl S) := ⟨_, rfl⟩
  have HRR := Lib.hid hR
  rw [← hR]
  clear hR
  by_cases hbig : 65536 < S.size
  · have q0 : decide ((65536 : Int) < (S.size : Int)) = true := decide_eq_true (by omega)
    have HR := Lib.hid (show R = .error (30, 65536) by rw [HRR.out]; exact tokR_big (by rw [size_bl]; exact hbig))
    go_enter Tryd.func10, Tryd.ntmps10
    go_wp2_with fail
    refine bodyPost_ret (v := .tuple #[.slice none 0 0, .agg #[.int .i64 30, .int .i64 65536]]) (by simp [results, Tryd.results10, go_sem]) rfl ?_
    rw [HR.out]
    exact ⟨rfl, below_alloc _ _⟩
  · have q0 : decide ((65536 : Int) < (S.size : Int)) = false := decide_eq_false (by omega)
    have HTR := Lib.hid (show R = toksT (bl S) 0 by rw [HRR.out]; exact tokR_small (by rw [size_bl]; exact hbig))
    have hs16 : S.size ≤ 65536 := by omega
    clear hbig
    go_enter Tryd.func10, Tryd.ntmps10
    go_wp2_with fail
    refine (kNext S 0 _ (by omega) hs16).mono ?_
    rintro e wq ⟨k0, _, hk0s, rfl, ht0, hn0, hwq⟩
    rw [← hwq]
    clear hwq
    rw [List.drop_zero] at ht0
    have HT0 := Lib.hid ht0
    have HN0 := Lib.hid hn0
    clear ht0 hn0
    obtain ⟨W, hW⟩ : ∃ W, W = w.alloc (.cells #[.int .i64 0, .int .i64 0] 25) := ⟨_, rfl⟩
    have HBW := Lib.hid (show Below w.heap.size w W by rw [hW]; exact below_alloc _ _)
    have hsW : W.heap.size = w.heap.size + 1 := by rw [hW]; simp
    have HBX := Lib.hid (show W.heap[w.heap.size]? = some (.cells #[.int .i64 0, .int .i64 0] 25 (0, 0)) by rw [hW]; exact heap_alloc_new w _)
    rw [← hW]
    clear hW q0
    go_wp2_with fail
    go_loopw [4, 5] (fun v i wr => ∃ k ts, KsRel S W k ts v i wr) (fun _ i _ => S.size - (intOf i).toNat)
    case atStart => exact ⟨k0, [], hk0s, rfl, by rw [HT0.out]; exact map_nilT, by simp, HN0.out, Below.refl _ _, ⟨rfl, .inl ⟨rfl, rfl⟩⟩⟩
    case round =>
      obtain ⟨k, ts, hk, rfl, ht, hl, hnb, hb, hown⟩ := hrel
      have HT := Lib.hid ht; clear ht
      have Hb := Lib.hid hb; clear hb
      have hszr := Hb.out.size
      obtain ⟨pn, cn, rfl⟩ := own_sliceT hown
      have HO := Lib.hid hown; clear hown
      by_cases hlt : k < S.size
      · obtain ⟨hbk, h35⟩ := hnb hlt
        clear hnb
        have HD := Lib.hid (drop_get S k hlt)
        have hki : (k : Int) < (S.size : Int) := by omega
        have hk0 : (0 : Int) ≤ (k : Int) := by omega
        have HCALL := Lib.hid (fun w' => kToken S k w' hlt hs16)
        have HLEN := Lib.hid (fun (t : Tk) (n : Nat) (h : headT (S[k] :: (bl S).drop (k + 1)) = ((0, t), n)) => head_len h)
        have HERR := Lib.hid (fun (he : (headT (S[k] :: (bl S).drop (k + 1))).1.1 ≠ 0) => toks_err (k := k) hbk h35 he)
        have HOK := Lib.hid (fun (n : Nat) (t : Tk) (he : headT (S[k] :: (bl S).drop (k + 1)) = ((0, t), n)) (hn : 1 ≤ n) => toks_ok (k := k) hbk h35 he hn)
        rw [HD.out] at HCALL
        clear hbk h35
        generalize headT (S[k] :: (bl S).drop (k + 1)) = Q at HLEN HERR HOK HCALL
        obtain ⟨⟨er, ⟨kk, tx, nn, pl⟩⟩, ln⟩ := Q
        go_wp2_with fail
        refine (HCALL.out _).mono ?_
        rintro e w1 ⟨x, n, rfl, hb1, hxe⟩
        have HO1 := Lib.hid (ownT_below HO.out hb1)
        have HB1 := Lib.hid (Hb.out.trans (hb1.mono hszr)); clear hb1
        have hsz1 := HB1.out.size
        rcases her : er == 0 with _ | _
        · have HR := Lib.hid (show R = .error (er, k) by rw [HTR.out, HT.out, HD.out, HERR.out (by simpa using her)]; rfl)
          obtain ⟨xk, xt, xn, xp⟩ := x
          simp only [Tk.agg]
          clear hxe
          have HB1A := Lib.hid (HB1.out.trans ((below_alloc w1 (.cells #[.int .i8 xk, .string xt, .int .i64 xn, .int .i64 xp] 36)).mono hsz1))
          have hx := ((HB1A.out.block w.heap.size (by omega)).trans HBX.out)
          obtain ⟨x0, x1⟩ := two hx
          have f0 : (w1.alloc (.cells #[.int .i8 xk, .string xt, .int .i64 xn, .int .i64 xp] 36)).frozen? ⟨w.heap.size, 0, none⟩ = false := Lib.frozen_of_heap hx 0
          have f1 : (w1.alloc (.cells #[.int .i8 xk, .string xt, .int .i64 xn, .int .i64 xp] 36)).frozen? ⟨w.heap.size, 1, none⟩ = false := Lib.frozen_of_heap hx 1
          have HX := Lib.hid hx; clear hx
          go_wp2_with fail
          skip
          change bodyPost _ _ _ _ _ (putL (w1.alloc (.cells #[.int .i8 xk, .string xt, .int .i64 xn, .int .i64 xp] 36)) w.heap.size 0 [.int .i64 er, .int .i64 (k : Int)])
          clear x0 x1 f0 f1
          have hb2 := putL_heap [.int .i64 er, .int .i64 (k : Int)] HX.out rfl
          have HBp := Lib.hid (putL_below (Nat.le_refl _) [.int .i64 er, .int .i64 (k : Int)] _ 0 (HBW.out.trans (HB1A.out.mono (by omega))))
          obtain ⟨W2, hW2⟩ : ∃ W2, W2 = putL (w1.alloc (.cells #[.int .i8 xk, .string xt, .int .i64 xn, .int .i64 xp] 36)) w.heap.size 0 [.int .i64 er, .int .i64 (k : Int)] := ⟨_, rfl⟩
          rw [← hW2] at hb2 HBp ⊢
          clear hW2
          obtain ⟨z0, z1⟩ := two (show W2.heap[w.heap.size]? = some (.cells #[.int .i64 er, .int .i64 (k : Int)] 25 (0, 0)) from hb2)
          refine bodyPost_ret (v := .tuple #[.slice none 0 0, .agg #[.int .i64 er, .int .i64 (k : Int)]]) (by simp [results, Tryd.results10, go_sem, z0, z1]) rfl ?_
          rw [HR.out]
          exact ⟨rfl, HBp.out⟩
        · obtain rfl : er = 0 := beq_iff_eq.1 her
          obtain ⟨rfl, rfl⟩ := hxe rfl
          obtain ⟨hn1, hn2⟩ := HLEN.out ⟨kk, tx, nn, pl⟩ n rfl
          have hn3 : k + n ≤ S.size := by rw [← HD.out, List.length_drop, size_bl] at hn2; omega
          have HNX := Lib.hid (show toksT (bl S) 0 = (toksT ((bl S).drop (k + n)) (k + n)).map ((ts ++ [⟨kk, tx, nn, k⟩]) ++ ·) by
            rw [HT.out, HD.out, HOK.out n ⟨kk, tx, nn, pl⟩ rfl hn1, ← HD.out, List.drop_drop, ← map_app]; rfl)
          simp only [Tk.agg]
          clear her hn2 hxe
          go_wp2_with (at_builtin; refine wpList_append_own _ rfl _ _ 22 rfl W.heap.size 36 i0 _ 4 40 Tryd.underlying22 HI.out HZ0.out HZ1.out HZ2.out rfl (by decide) _ _ _ rfl (ownT_below HO1.out ((below_alloc _ _).trans ((below_alloc _ _).mono (by simp)))) ⟨w1.heap.size + 1, 0, none⟩ 1 1 (Tk.cells ⟨kk, tx, nn, k⟩) rfl rfl (by simpa [Tk.cells] using new_cells (w1.alloc _) (Tk.cells ⟨kk, tx, nn, k⟩) 36) ?c1 ?c2 ?c3 ?c4 ?_)
          case c1 => exact tk_one _
          case c2 => unfold maxLen; omega
          case c3 => omega
          case c4 => first | omega | (simp; omega)
          intro v' w2 hown' hgrow _
          have HO' := Lib.hid hown'; clear hown'
          have HGr := Lib.hid hgrow; clear hgrow
          go_wp2_with fail
          refine (kNext S (k + n) _ hn3 hs16).mono ?_
          rintro e wq ⟨k2, hkk, hk2s, rfl, ht2, hn2, hwq⟩
          rw [← hwq]
          clear hwq
          have HN2 := Lib.hid hn2
          have HT2 := Lib.hid ht2
          clear hn2 ht2
          go_wp2_with fail
          exact ⟨⟨k2, ts ++ [⟨kk, tx, nn, k⟩], hk2s, rfl, by rw [HNX.out, HT2.out], by simp; omega, HN2.out, ((HB1.out.alloc hsz1 _).alloc (by simp; omega) _).grown HGr.out (by simp; omega) (fun g hg => ownT_lt HO1.out hg), (by have h9 := HO'.out; first | (exact ownT_snoc h9 (by simp)) | (rw [← hsW] at h9; exact ownT_snoc h9 (by simp)))⟩, by simp [intOf]; omega⟩
      · obtain rfl : k = S.size := by omega
        clear hnb
        have HFIN := Lib.hid (show R = .ok (ts ++ [⟨8, ⟨#[]⟩, 0, S.size⟩]) by
          rw [HTR.out, HT.out, List.drop_of_length_le (by rw [size_bl]; exact Nat.le_refl _), toks_nil]; rfl)
        have hx := ((Hb.out.block w.heap.size (by omega)).trans HBX.out)
        obtain ⟨x0, x1⟩ := two hx
        have f0 : wr.frozen? ⟨w.heap.size, 0, none⟩ = false := Lib.frozen_of_heap hx 0
        have f1 : wr.frozen? ⟨w.heap.size, 1, none⟩ = false := Lib.frozen_of_heap hx 1
        have HX := Lib.hid hx; clear hx
        go_wp2_with (at_builtin; refine wpList_append_own _ rfl _ _ 22 rfl W.heap.size 36 i0 _ 4 40 Tryd.underlying22 HI.out HZ0.out HZ1.out HZ2.out rfl (by decide) _ _ _ rfl (ownT_below HO.out (below_alloc _ _)) ⟨wr.heap.size, 0, none⟩ 1 1 (Tk.cells ⟨8, ⟨#[]⟩, 0, (S.size : Int)⟩) rfl rfl (new_cells wr (Tk.cells ⟨8, ⟨#[]⟩, 0, (S.size : Int)⟩) 36) ?c1 ?c2 ?c3 ?c4 ?_)
        case c1 => exact tk_one _
        case c2 => unfold maxLen; omega
        case c3 => omega
        case c4 => simp; omega
        intro v' w2 hown' hgrow _
        have HO' := Lib.hid (ownT_snoc hown' rfl); clear hown'
        have HB2 := Lib.hid ((Hb.out.alloc (by omega) _).grown hgrow (by simp; omega) (fun g hg => ownT_lt HO.out hg)); clear hgrow
        clear x0 x1 f0 f1 HX
        obtain ⟨pf, cf, rfl⟩ := own_sliceT HO'.out
        have hx2 := (HB2.out.block w.heap.size (by omega)).trans HBX.out
        obtain ⟨x0, x1⟩ := two hx2
        have f0 : w2.frozen? ⟨w.heap.size, 0, none⟩ = false := Lib.frozen_of_heap hx2 0
        have f1 : w2.frozen? ⟨w.heap.size, 1, none⟩ = false := Lib.frozen_of_heap hx2 1
        have HX2 := Lib.hid hx2; clear hx2
        go_wp2_with fail
        change bodyPost _ _ _ _ _ (putL w2 w.heap.size 0 [.int .i64 0, .int .i64 0])
        clear x0 x1 f0 f1
        have hb2 := putL_heap [.int .i64 0, .int .i64 0] HX2.out rfl
        have HOF := Lib.hid (ownT_mono (B' := w.heap.size) (ownT_block (w' := putL w2 w.heap.size 0 [.int .i64 0, .int .i64 0]) HO'.out (fun g hg _ => putL_block (by omega) _ _ _)) (by omega))
        have HBp := Lib.hid (putL_below (Nat.le_refl _) [.int .i64 0, .int .i64 0] _ 0 (HBW.out.trans (HB2.out.mono (by omega))))
        obtain ⟨W2, hW2⟩ : ∃ W2, W2 = putL w2 w.heap.size 0 [.int .i64 0, .int .i64 0] := ⟨_, rfl⟩
        rw [← hW2] at hb2 HOF HBp ⊢
        clear hW2
        obtain ⟨z0, z1⟩ := two (show W2.heap[w.heap.size]? = some (.cells #[.int .i64 0, .int .i64 0] 25 (0, 0)) from hb2)
        refine bodyPost_ret (v := .tuple #[.slice pf (ts.length + 1) cf, .agg #[.int .i64 0, .int .i64 0]]) (by simp [results, Tryd.results10, go_sem, z0, z1]) rfl ?_
        rw [HFIN.out]
        exact ⟨_, rfl, by have h9 := HOF.out; simpa using h9, HBp.out⟩
end Go.Proofs.YtcigdlpljjkplaaDoor
