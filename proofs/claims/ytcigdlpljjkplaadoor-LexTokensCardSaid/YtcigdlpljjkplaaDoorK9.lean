/- The contract of the reference's token. Conditions: a source takes at most 2^16 bytes; no blank and no remark stands at the place. -/
import Derived.Test.YtcigdlpljjkplaaDoorK8
namespace Go.Proofs.YtcigdlpljjkplaaDoor
open Go.RowKit

/-- What the reference's token leaves. -/
def KtPost (h : (Int × Tk) × Nat) (p : Nat) (w : World) (e : Ending) (w' : World) : Prop :=
  ∃ (x : Tk) (n : Nat), e = .returned (.tuple #[x.agg, .int .i64 n, .int .i64 h.1.1]) ∧ Below w.heap.size w w' ∧ (h.1.1 = 0 → x = ⟨h.1.2.k, h.1.2.t, h.1.2.n, p⟩ ∧ n = h.2)
theorem KtPost.err {h : (Int × Tk) × Nat} {er : Int} {p n : Nat} {w w' : World} (he : h.1.1 = er) (h0 : er ≠ 0) (x : Tk) (hb : Below w.heap.size w w') : KtPost h p w (.returned (.tuple #[x.agg, .int .i64 n, .int .i64 er])) w' :=
  ⟨x, n, by rw [he], hb, fun h => absurd (he.symm.trans h) h0⟩
theorem KtPost.ok {h : (Int × Tk) × Nat} {k nn : Int} {t : ByteArray} {p n : Nat} {w w' : World} (he : h = ((0, ⟨k, t, nn, 0⟩), n)) (hb : Below w.heap.size w w') : KtPost h p w (.returned (.tuple #[Tk.agg ⟨k, t, nn, p⟩, .int .i64 n, .int .i64 0])) w' := by
  subst he
  exact ⟨⟨k, t, nn, p⟩, n, rfl, hb, fun _ => ⟨rfl, rfl⟩⟩
theorem head_run {c : UInt8} {r : List UInt8} (h : wordB c = true) : headT (c :: r) = (wordT (runL (c :: r)), (runL (c :: r)).length) := by
  have h34 : c.toNat ≠ 34 := by intro e; rw [wordB_iff] at h; omega
  rw [headT, List.head?_cons, Option.map_some, if_neg (by simpa using h34), firstT, if_pos h]
theorem head_sg {c : UInt8} {r : List UInt8} (h : wordB c = false) (h34 : c.toNat ≠ 34) : headT (c :: r) = match headSign (c :: r) with | some g => ((0, ⟨7, g, 0, 0⟩), g.size) | none => ((31, tk0), 0) := by
  rw [headT, List.head?_cons, Option.map_some, if_neg (by simpa using h34), firstT, if_neg (by rw [h]; decide)]
  rfl
theorem head_q {c : UInt8} {r : List UInt8} (h34 : c.toNat = 34) : headT (c :: r) = quotedT (c :: r) := by
  rw [headT, List.head?_cons, Option.map_some, if_pos (by simp [h34])]
theorem run_cons {c : UInt8} {r : List UInt8} (h : wordB c = true) : runL (c :: r) = c :: runL r := by
  rw [runL, List.takeWhile_cons, h]; rfl
set_option maxHeartbeats 16000000 in
set_option maxRecDepth 100000 in
theorem kToken (s : ByteArray) (a : Nat) (w : World) (ha : a < s.size) (hs : s.size ≤ 65536) :
    Calls Tryd.prog 31 #[.string s, .int .i64 a] w (KtPost (headT ((bl s).drop a)) a w) := by
  have hki : (a : Int) < (s.size : Int) := by omega
  have hk0 : (0 : Int) ≤ (a : Int) := by omega
  have HD := Lib.hid (drop_get s a ha)
  have HRUN := Lib.hid (fun w' => kRun s a w' (by omega) (by unfold maxLen; omega))
  obtain ⟨X, hX⟩ : ∃ X : ByteArray, X = ⟨(runL ((bl s).drop a)).toArray⟩ := ⟨_, rfl⟩
  have hbX : bl X = runL ((bl s).drop a) := by rw [hX]
  have hXs : X.size ≤ 65536 := by
    have h1 : (runL ((bl s).drop a)).length ≤ ((bl s).drop a).length := (List.takeWhile_prefix _).length_le
    rw [← size_bl, hbX]
    rw [List.length_drop, size_bl] at h1
    omega
  rw [← hX] at HRUN
  have HBX := Lib.hid hbX
  clear hX hbX
  obtain ⟨H, hH⟩ : ∃ H, H = headT ((bl s).drop a) := ⟨_, rfl⟩
  have HH := Lib.hid hH
  rw [← hH]
  clear hH
  have hc := s[a].toNat_lt
  rcases hl : lowerB s[a] with _ | _
  · rcases hu : upperB s[a] with _ | _
    · have HLO := Lib.hid hl
      have HUP := Lib.hid hu
      by_cases h95 : s[a].toNat = 95
      · have q95 : ((s[a].toNat : Int) == 95) = true := by simp [h95]
        have hwb : wordB s[a] = true := by rw [wordB_iff]; omega
        have HXC := Lib.hid (show bl X = s[a] :: runL ((bl s).drop (a + 1)) by rw [HBX.out, HD.out, run_cons hwb])
        have HHE := Lib.hid (show H = (wordT (bl X), X.size) by rw [HH.out, HD.out, head_run hwb, ← HD.out, ← HBX.out, size_bl])
        have h95' := h95
        clear hl hu h95 hwb
        by_cases hlen : 1 < X.size
        · have q1 : decide (1 < (X.size : Int)) = true := decide_eq_true (by omega)
          have HER := Lib.hid (show H.1.1 = 31 by rw [HHE.out]; show (wordT (bl X)).1 = 31; have := size_bl X; rw [HXC.out] at this ⊢; simp only [wordT, if_pos h95', if_pos (show 1 < (s[a] :: runL ((bl s).drop (a + 1))).length by omega)])
          clear h95'
          go_enter Tryd.func31, Tryd.ntmps31
          go_wp2_with fail
          refine (HRUN.out _).mono ?_
          rintro e wq ⟨rfl, hwq⟩
          rw [← hwq]
          clear hwq
          go_wp2_with fail
          refine (kSmall _ _).mono ?_
          rintro e wq ⟨rfl, hwq⟩
          rw [HLO.out, ← hwq]
          clear hwq
          go_wp2_with fail
          refine (kCapital _ _).mono ?_
          rintro e wq ⟨rfl, hwq⟩
          rw [HUP.out, ← hwq]
          clear hwq
          go_wp2_with fail
          refine bodyPost_ret (v := .tuple #[.agg #[.int .i8 0, .string ⟨#[]⟩, .int .i64 0, .int .i64 0], .int .i64 0, .int .i64 31]) (by simp [results, Tryd.results31, go_sem]) rfl ?_
          exact KtPost.err (n := 0) HER.out (by decide) tk0 (below_alloc _ _)
        · have q1 : decide (1 < (X.size : Int)) = false := decide_eq_false (by omega)
          have HOK := Lib.hid (show H = ((0, ⟨3, ⟨#[]⟩, 0, 0⟩), 1) by
            have h9 := size_bl X
            rw [HXC.out] at h9
            rw [HHE.out, HXC.out]
            simp only [wordT, if_pos h95', if_neg (show ¬ 1 < (s[a] :: runL ((bl s).drop (a + 1))).length by omega)]
            simp at h9 ⊢
            omega)
          clear h95'
          go_enter Tryd.func31, Tryd.ntmps31
          go_wp2_with fail
          refine (HRUN.out _).mono ?_
          rintro e wq ⟨rfl, hwq⟩
          rw [← hwq]
          clear hwq
          go_wp2_with fail
          refine (kSmall _ _).mono ?_
          rintro e wq ⟨rfl, hwq⟩
          rw [HLO.out, ← hwq]
          clear hwq
          go_wp2_with fail
          refine (kCapital _ _).mono ?_
          rintro e wq ⟨rfl, hwq⟩
          rw [HUP.out, ← hwq]
          clear hwq
          go_wp2_with fail
          refine bodyPost_ret (v := .tuple #[.agg #[.int .i8 3, .string ⟨#[]⟩, .int .i64 0, .int .i64 (a : Int)], .int .i64 1, .int .i64 0]) (by simp [results, Tryd.results31, go_sem]) rfl ?_
          exact KtPost.ok (n := 1) HOK.out (below_alloc _ _)
      · have q95 : ((s[a].toNat : Int) == 95) = false := by simp; omega
        rcases hd : digitB s[a] with _ | _
        · have HDG := Lib.hid hd
          have hwb : wordB s[a] = false := by rw [wordB, hl, hu, hd]; simpa using h95
          by_cases h34 : s[a].toNat = 34
          · have q34 : ((s[a].toNat : Int) == 34) = true := by simp [h34]
            obtain ⟨Y, hY⟩ : ∃ Y, Y = s.extract a s.size := ⟨_, rfl⟩
            have hbY : bl Y = (bl s).drop a := by rw [hY, bl_extract]; exact List.take_of_length_le (by simp)
            have hY0 : 0 < Y.size := by rw [← size_bl, hbY, List.length_drop, size_bl]; omega
            have hYs : Y.size ≤ 65536 := by rw [← size_bl, hbY, List.length_drop, size_bl]; omega
            have hY34 : Y[0].toNat = 34 := by
              have h1 := drop_get Y 0 hY0
              rw [List.drop_zero, hbY, HD.out] at h1
              simp only [List.cons.injEq] at h1
              rw [← h1.1]; exact h34
            have HQC := Lib.hid (fun w' => kQd Y w' hY0 hYs hY34)
            have HHE := Lib.hid (show H = quotedT (bl Y) by rw [HH.out, HD.out, head_q h34, ← HD.out, hbY])
            clear hl hu h95 hd hwb h34 hY34 hbY
            rcases hq : qT ((bl Y).drop 1) [] 1 with _ | ⟨b, kk⟩
            · have HER := Lib.hid (show H.1.1 = 33 by rw [HHE.out, quotedT, hq])
              have HQR := Lib.hid (qdR_none hq)
              clear hq
              go_enter Tryd.func31, Tryd.ntmps31
              go_wp2_with fail
              refine (HRUN.out _).mono ?_
              rintro e wq ⟨rfl, hwq⟩
              rw [← hwq]
              clear hwq
              go_wp2_with fail
              refine (kSmall _ _).mono ?_
              rintro e wq ⟨rfl, hwq⟩
              rw [HLO.out, ← hwq]
              clear hwq
              go_wp2_with fail
              refine (kCapital _ _).mono ?_
              rintro e wq ⟨rfl, hwq⟩
              rw [HUP.out, ← hwq]
              clear hwq
              go_wp2_with fail
              refine (kDigit _ _).mono ?_
              rintro e wq ⟨rfl, hwq⟩
              rw [HDG.out, ← hwq]
              clear hwq
              go_wp2_with fail
              rw [← hY]
              clear hY
              obtain ⟨W, hW⟩ : ∃ W, W = w.alloc (.cells #[.int .i8 0, .string ⟨#[]⟩, .int .i64 0, .int .i64 0] 36) := ⟨_, rfl⟩
              have HBW := Lib.hid (show Below w.heap.size w W by rw [hW]; exact below_alloc _ _)
              have hsW : W.heap.size = w.heap.size + 1 := by rw [hW]; simp
              have HBK := Lib.hid (show W.heap[w.heap.size]? = some (.cells #[.int .i8 0, .string ⟨#[]⟩, .int .i64 0, .int .i64 0] 36 (0, 0)) by rw [hW]; exact heap_alloc_new w _)
              rw [← hW]
              clear hW
              refine (HQC.out _).mono ?_
              rintro e w1 ⟨rfl, hb⟩
              rw [HQR.out]
              have HX1 := Lib.hid ((hb.block w.heap.size (by omega)).trans HBK.out)
              have HB1 := Lib.hid (HBW.out.trans (hb.mono (by omega))); clear hb
              obtain ⟨x0, x1, x2, x3⟩ := four HX1.out
              have f0 : World.frozen? w1 ⟨w.heap.size, 0, none⟩ = false := Lib.frozen_of_heap HX1.out 0
              have f1 : World.frozen? w1 ⟨w.heap.size, 1, none⟩ = false := Lib.frozen_of_heap HX1.out 1
              have f2 : World.frozen? w1 ⟨w.heap.size, 2, none⟩ = false := Lib.frozen_of_heap HX1.out 2
              have f3 : World.frozen? w1 ⟨w.heap.size, 3, none⟩ = false := Lib.frozen_of_heap HX1.out 3
              go_wp2_with fail
              change bodyPost _ _ _ _ _ (putL w1 w.heap.size 0 [.int .i8 0, .string ⟨#[]⟩, .int .i64 0, .int .i64 0])
              clear x0 x1 x2 x3 f0 f1 f2 f3
              have hb2 := putL_heap [.int .i8 0, .string ⟨#[]⟩, .int .i64 0, .int .i64 0] HX1.out rfl
              have HBp := Lib.hid (putL_below (Nat.le_refl _) [.int .i8 0, .string ⟨#[]⟩, .int .i64 0, .int .i64 0] _ 0 HB1.out)
              obtain ⟨W2, hW2⟩ : ∃ W2, W2 = putL w1 w.heap.size 0 [.int .i8 0, .string ⟨#[]⟩, .int .i64 0, .int .i64 0] := ⟨_, rfl⟩
              rw [← hW2] at hb2 HBp ⊢
              clear hW2
              obtain ⟨z0, z1, z2, z3⟩ := four (show W2.heap[w.heap.size]? = some (.cells #[.int .i8 0, .string ⟨#[]⟩, .int .i64 0, .int .i64 0] 36 (0, 0)) from hb2)
              refine bodyPost_ret (v := .tuple #[.agg #[.int .i8 0, .string ⟨#[]⟩, .int .i64 0, .int .i64 0], .int .i64 0, .int .i64 33]) (by simp [results, Tryd.results31, go_sem, z0, z1, z2, z3]) rfl ?_
              exact KtPost.err (n := 0) HER.out (by decide) tk0 HBp.out
            · have hkb := qT_bound _ _ _ _ _ hq
              have hk1 : 1 < kk := hkb.1
              have HOK := Lib.hid (show H = ((0, ⟨5, ⟨b.toArray⟩, 0, 0⟩), kk) by rw [HHE.out, quotedT, hq])
              have HQR := Lib.hid (qdR_some hq)
              have hkq : ((kk : Int) == 0) = false := by simp; omega
              clear hq hkb
              go_enter Tryd.func31, Tryd.ntmps31
              go_wp2_with fail
              refine (HRUN.out _).mono ?_
              rintro e wq ⟨rfl, hwq⟩
              rw [← hwq]
              clear hwq
              go_wp2_with fail
              refine (kSmall _ _).mono ?_
              rintro e wq ⟨rfl, hwq⟩
              rw [HLO.out, ← hwq]
              clear hwq
              go_wp2_with fail
              refine (kCapital _ _).mono ?_
              rintro e wq ⟨rfl, hwq⟩
              rw [HUP.out, ← hwq]
              clear hwq
              go_wp2_with fail
              refine (kDigit _ _).mono ?_
              rintro e wq ⟨rfl, hwq⟩
              rw [HDG.out, ← hwq]
              clear hwq
              go_wp2_with fail
              rw [← hY]
              clear hY
              obtain ⟨W, hW⟩ : ∃ W, W = w.alloc (.cells #[.int .i8 0, .string ⟨#[]⟩, .int .i64 0, .int .i64 0] 36) := ⟨_, rfl⟩
              have HBW := Lib.hid (show Below w.heap.size w W by rw [hW]; exact below_alloc _ _)
              have hsW : W.heap.size = w.heap.size + 1 := by rw [hW]; simp
              have HBK := Lib.hid (show W.heap[w.heap.size]? = some (.cells #[.int .i8 0, .string ⟨#[]⟩, .int .i64 0, .int .i64 0] 36 (0, 0)) by rw [hW]; exact heap_alloc_new w _)
              rw [← hW]
              clear hW
              refine (HQC.out _).mono ?_
              rintro e w1 ⟨rfl, hb⟩
              rw [HQR.out]
              obtain ⟨S, hS⟩ : ∃ S : ByteArray, S = ⟨b.toArray⟩ := ⟨_, rfl⟩
              rw [← hS] at HOK ⊢
              clear hS
              have HX1 := Lib.hid ((hb.block w.heap.size (by omega)).trans HBK.out)
              have HB1 := Lib.hid (HBW.out.trans (hb.mono (by omega))); clear hb
              obtain ⟨x0, x1, x2, x3⟩ := four HX1.out
              have f0 : World.frozen? w1 ⟨w.heap.size, 0, none⟩ = false := Lib.frozen_of_heap HX1.out 0
              have f1 : World.frozen? w1 ⟨w.heap.size, 1, none⟩ = false := Lib.frozen_of_heap HX1.out 1
              have f2 : World.frozen? w1 ⟨w.heap.size, 2, none⟩ = false := Lib.frozen_of_heap HX1.out 2
              have f3 : World.frozen? w1 ⟨w.heap.size, 3, none⟩ = false := Lib.frozen_of_heap HX1.out 3
              go_wp2_with fail
              change bodyPost _ _ _ _ _ (putL w1 w.heap.size 0 [.int .i8 5, .string S, .int .i64 0, .int .i64 (a : Int)])
              clear x0 x1 x2 x3 f0 f1 f2 f3
              have hb2 := putL_heap [.int .i8 5, .string S, .int .i64 0, .int .i64 (a : Int)] HX1.out rfl
              have HBp := Lib.hid (putL_below (Nat.le_refl _) [.int .i8 5, .string S, .int .i64 0, .int .i64 (a : Int)] _ 0 HB1.out)
              obtain ⟨W2, hW2⟩ : ∃ W2, W2 = putL w1 w.heap.size 0 [.int .i8 5, .string S, .int .i64 0, .int .i64 (a : Int)] := ⟨_, rfl⟩
              rw [← hW2] at hb2 HBp ⊢
              clear hW2
              obtain ⟨z0, z1, z2, z3⟩ := four (show W2.heap[w.heap.size]? = some (.cells #[.int .i8 5, .string S, .int .i64 0, .int .i64 (a : Int)] 36 (0, 0)) from hb2)
              refine bodyPost_ret (v := .tuple #[.agg #[.int .i8 5, .string S, .int .i64 0, .int .i64 (a : Int)], .int .i64 kk, .int .i64 0]) (by simp [results, Tryd.results31, go_sem, z0, z1, z2, z3]) rfl ?_
              exact KtPost.ok (n := kk) HOK.out HBp.out
          · have q34 : ((s[a].toNat : Int) == 34) = false := by simp; omega
            obtain ⟨Y, hY⟩ : ∃ Y, Y = s.extract a s.size := ⟨_, rfl⟩
            have hbY : bl Y = (bl s).drop a := by rw [hY, bl_extract]; exact List.take_of_length_le (by simp)
            have hYs : Y.size ≤ 65536 := by rw [← size_bl, hbY, List.length_drop, size_bl]; omega
            have HHE := Lib.hid (show H = match headSign (bl Y) with | some g => ((0, ⟨7, g, 0, 0⟩), g.size) | none => ((31, tk0), 0) by rw [HH.out, HD.out, head_sg hwb h34, ← HD.out, hbY])
            have HSC := Lib.hid (fun w' => kSgn Y w' (by unfold maxLen; omega))
            clear hl hu h95 hd hwb h34 hbY
            rcases hq : headSign (bl Y) with _ | g
            · have HER := Lib.hid (show H.1.1 = 31 by rw [HHE.out, hq])
              rw [hq] at HSC
              clear hq
              go_enter Tryd.func31, Tryd.ntmps31
              go_wp2_with fail
              refine (HRUN.out _).mono ?_
              rintro e wq ⟨rfl, hwq⟩
              rw [← hwq]
              clear hwq
              go_wp2_with fail
              refine (kSmall _ _).mono ?_
              rintro e wq ⟨rfl, hwq⟩
              rw [HLO.out, ← hwq]
              clear hwq
              go_wp2_with fail
              refine (kCapital _ _).mono ?_
              rintro e wq ⟨rfl, hwq⟩
              rw [HUP.out, ← hwq]
              clear hwq
              go_wp2_with fail
              refine (kDigit _ _).mono ?_
              rintro e wq ⟨rfl, hwq⟩
              rw [HDG.out, ← hwq]
              clear hwq
              go_wp2_with fail
              rw [← hY]
              clear hY
              obtain ⟨W, hW⟩ : ∃ W, W = w.alloc (.cells #[.int .i8 0, .string ⟨#[]⟩, .int .i64 0, .int .i64 0] 36) := ⟨_, rfl⟩
              have HBW := Lib.hid (show Below w.heap.size w W by rw [hW]; exact below_alloc _ _)
              have hsW : W.heap.size = w.heap.size + 1 := by rw [hW]; simp
              have HBK := Lib.hid (show W.heap[w.heap.size]? = some (.cells #[.int .i8 0, .string ⟨#[]⟩, .int .i64 0, .int .i64 0] 36 (0, 0)) by rw [hW]; exact heap_alloc_new w _)
              rw [← hW]
              clear hW
              refine (HSC.out _).mono ?_
              rintro e w1 ⟨rfl, hb⟩
              rw [Option.getD_none]
              have HX1 := Lib.hid ((hb.block w.heap.size (by omega)).trans HBK.out)
              have HB1 := Lib.hid (HBW.out.trans (hb.mono (by omega))); clear hb
              obtain ⟨x0, x1, x2, x3⟩ := four HX1.out
              have f0 : World.frozen? w1 ⟨w.heap.size, 0, none⟩ = false := Lib.frozen_of_heap HX1.out 0
              have f1 : World.frozen? w1 ⟨w.heap.size, 1, none⟩ = false := Lib.frozen_of_heap HX1.out 1
              have f2 : World.frozen? w1 ⟨w.heap.size, 2, none⟩ = false := Lib.frozen_of_heap HX1.out 2
              have f3 : World.frozen? w1 ⟨w.heap.size, 3, none⟩ = false := Lib.frozen_of_heap HX1.out 3
              go_wp2_with fail
              change bodyPost _ _ _ _ _ (putL w1 w.heap.size 0 [.int .i8 0, .string ⟨#[]⟩, .int .i64 0, .int .i64 0])
              clear x0 x1 x2 x3 f0 f1 f2 f3
              have hb2 := putL_heap [.int .i8 0, .string ⟨#[]⟩, .int .i64 0, .int .i64 0] HX1.out rfl
              have HBp := Lib.hid (putL_below (Nat.le_refl _) [.int .i8 0, .string ⟨#[]⟩, .int .i64 0, .int .i64 0] _ 0 HB1.out)
              obtain ⟨W2, hW2⟩ : ∃ W2, W2 = putL w1 w.heap.size 0 [.int .i8 0, .string ⟨#[]⟩, .int .i64 0, .int .i64 0] := ⟨_, rfl⟩
              rw [← hW2] at hb2 HBp ⊢
              clear hW2
              obtain ⟨z0, z1, z2, z3⟩ := four (show W2.heap[w.heap.size]? = some (.cells #[.int .i8 0, .string ⟨#[]⟩, .int .i64 0, .int .i64 0] 36 (0, 0)) from hb2)
              refine bodyPost_ret (v := .tuple #[.agg #[.int .i8 0, .string ⟨#[]⟩, .int .i64 0, .int .i64 0], .int .i64 0, .int .i64 31]) (by simp [results, Tryd.results31, go_sem, z0, z1, z2, z3]) rfl ?_
              exact KtPost.err (n := 0) HER.out (by decide) tk0 HBp.out
            · have HOK := Lib.hid (show H = ((0, ⟨7, g, 0, 0⟩), g.size) by rw [HHE.out, hq])
              have hgm : g ∈ signsT := List.mem_of_find?_eq_some hq
              have hg0 : ∀ g ∈ signsT, (bl g).isEmpty = false := by decide
              have hge : g.toList.isEmpty = false := by rw [ByteArray.toList_eq]; exact hg0 g hgm
              rw [hq] at HSC
              clear hq hgm hg0
              go_enter Tryd.func31, Tryd.ntmps31
              go_wp2_with fail
              refine (HRUN.out _).mono ?_
              rintro e wq ⟨rfl, hwq⟩
              rw [← hwq]
              clear hwq
              go_wp2_with fail
              refine (kSmall _ _).mono ?_
              rintro e wq ⟨rfl, hwq⟩
              rw [HLO.out, ← hwq]
              clear hwq
              go_wp2_with fail
              refine (kCapital _ _).mono ?_
              rintro e wq ⟨rfl, hwq⟩
              rw [HUP.out, ← hwq]
              clear hwq
              go_wp2_with fail
              refine (kDigit _ _).mono ?_
              rintro e wq ⟨rfl, hwq⟩
              rw [HDG.out, ← hwq]
              clear hwq
              go_wp2_with fail
              rw [← hY]
              clear hY
              obtain ⟨W, hW⟩ : ∃ W, W = w.alloc (.cells #[.int .i8 0, .string ⟨#[]⟩, .int .i64 0, .int .i64 0] 36) := ⟨_, rfl⟩
              have HBW := Lib.hid (show Below w.heap.size w W by rw [hW]; exact below_alloc _ _)
              have hsW : W.heap.size = w.heap.size + 1 := by rw [hW]; simp
              have HBK := Lib.hid (show W.heap[w.heap.size]? = some (.cells #[.int .i8 0, .string ⟨#[]⟩, .int .i64 0, .int .i64 0] 36 (0, 0)) by rw [hW]; exact heap_alloc_new w _)
              rw [← hW]
              clear hW
              refine (HSC.out _).mono ?_
              rintro e w1 ⟨rfl, hb⟩
              rw [Option.getD_some]
              have HX1 := Lib.hid ((hb.block w.heap.size (by omega)).trans HBK.out)
              have HB1 := Lib.hid (HBW.out.trans (hb.mono (by omega))); clear hb
              obtain ⟨x0, x1, x2, x3⟩ := four HX1.out
              have f0 : World.frozen? w1 ⟨w.heap.size, 0, none⟩ = false := Lib.frozen_of_heap HX1.out 0
              have f1 : World.frozen? w1 ⟨w.heap.size, 1, none⟩ = false := Lib.frozen_of_heap HX1.out 1
              have f2 : World.frozen? w1 ⟨w.heap.size, 2, none⟩ = false := Lib.frozen_of_heap HX1.out 2
              have f3 : World.frozen? w1 ⟨w.heap.size, 3, none⟩ = false := Lib.frozen_of_heap HX1.out 3
              go_wp2_with fail
              change bodyPost _ _ _ _ _ (putL w1 w.heap.size 0 [.int .i8 7, .string g, .int .i64 0, .int .i64 (a : Int)])
              clear x0 x1 x2 x3 f0 f1 f2 f3
              have hb2 := putL_heap [.int .i8 7, .string g, .int .i64 0, .int .i64 (a : Int)] HX1.out rfl
              have HBp := Lib.hid (putL_below (Nat.le_refl _) [.int .i8 7, .string g, .int .i64 0, .int .i64 (a : Int)] _ 0 HB1.out)
              obtain ⟨W2, hW2⟩ : ∃ W2, W2 = putL w1 w.heap.size 0 [.int .i8 7, .string g, .int .i64 0, .int .i64 (a : Int)] := ⟨_, rfl⟩
              rw [← hW2] at hb2 HBp ⊢
              clear hW2
              obtain ⟨z0, z1, z2, z3⟩ := four (show W2.heap[w.heap.size]? = some (.cells #[.int .i8 7, .string g, .int .i64 0, .int .i64 (a : Int)] 36 (0, 0)) from hb2)
              refine bodyPost_ret (v := .tuple #[.agg #[.int .i8 7, .string g, .int .i64 0, .int .i64 (a : Int)], .int .i64 g.size, .int .i64 0]) (by simp [results, Tryd.results31, go_sem, z0, z1, z2, z3]) rfl ?_
              exact KtPost.ok (n := g.size) HOK.out HBp.out
        · have HDG := Lib.hid hd
          have hwb : wordB s[a] = true := by rw [wordB_iff]; have := (digit_iff s[a]).1 hd; omega
          have HXC := Lib.hid (show bl X = s[a] :: runL ((bl s).drop (a + 1)) by rw [HBX.out, HD.out, run_cons hwb])
          have hX0 : 0 < X.size := by rw [← size_bl, HXC.out]; simp
          have HHE := Lib.hid (show H = (numT (bl X), X.size) by
            rw [HH.out, HD.out, head_run hwb, ← HD.out, ← HBX.out, size_bl]
            congr 1
            rw [HXC.out]
            simp only [wordT, if_neg h95, hd, if_true])
          clear hl hu h95 hd hwb
          go_enter Tryd.func31, Tryd.ntmps31
          go_wp2_with fail
          refine (HRUN.out _).mono ?_
          rintro e wq ⟨rfl, hwq⟩
          rw [← hwq]
          clear hwq
          go_wp2_with fail
          refine (kSmall _ _).mono ?_
          rintro e wq ⟨rfl, hwq⟩
          rw [HLO.out, ← hwq]
          clear hwq
          go_wp2_with fail
          refine (kCapital _ _).mono ?_
          rintro e wq ⟨rfl, hwq⟩
          rw [HUP.out, ← hwq]
          clear hwq
          go_wp2_with fail
          refine (kDigit _ _).mono ?_
          rintro e wq ⟨rfl, hwq⟩
          rw [HDG.out, ← hwq]
          clear hwq
          go_wp2_with fail
          refine (kNumber X _ hX0 hXs).mono ?_
          rintro e w1 ⟨v, b, rfl, hw1, ht, hf⟩
          rw [← hw1]
          clear hw1
          cases b with
          | true =>
            have HOK := Lib.hid (show H = ((0, ⟨4, ⟨#[]⟩, v, 0⟩), X.size) by rw [HHE.out, ht (by trivial)])
            clear ht hf
            go_wp2_with fail
            refine bodyPost_ret (v := .tuple #[.agg #[.int .i8 4, .string ⟨#[]⟩, .int .i64 v, .int .i64 (a : Int)], .int .i64 X.size, .int .i64 0]) (by simp [results, Tryd.results31, go_sem]) rfl ?_
            exact KtPost.ok (n := X.size) HOK.out (below_alloc _ _)
          | false =>
            have HER := Lib.hid (show H.1.1 = 32 by rw [HHE.out, hf (by trivial)])
            clear ht hf
            go_wp2_with fail
            refine bodyPost_ret (v := .tuple #[.agg #[.int .i8 0, .string ⟨#[]⟩, .int .i64 0, .int .i64 0], .int .i64 0, .int .i64 32]) (by simp [results, Tryd.results31, go_sem]) rfl ?_
            exact KtPost.err (n := 0) HER.out (by decide) tk0 (below_alloc _ _)
    · have hwb : wordB s[a] = true := by rw [wordB_iff]; simp [upperB] at hu; omega
      have HXC := Lib.hid (show bl X = s[a] :: runL ((bl s).drop (a + 1)) by rw [HBX.out, HD.out, run_cons hwb])
      have hX0 : 0 < X.size := by rw [← size_bl, HXC.out]; simp
      have HHE := Lib.hid (show H = (wordT (bl X), X.size) by rw [HH.out, HD.out, head_run hwb, ← HD.out, ← HBX.out, size_bl])
      have hX1 : X[0] = s[a] := by
        have h1 := drop_get X 0 hX0
        rw [List.drop_zero, HXC.out] at h1
        simp only [List.cons.injEq] at h1
        exact h1.1.symm
      have HWC := Lib.hid (fun w' => kWord X a w' hX0 hXs (by rw [hX1]; exact .inr hu))
      have HLO := Lib.hid hl
      have HUP := Lib.hid hu
      clear hl hu hwb hX1
      generalize wordT (bl X) = Q at HHE HWC
      obtain ⟨er, ⟨kk, tx, nn, pl⟩⟩ := Q
      go_enter Tryd.func31, Tryd.ntmps31
      go_wp2_with fail
      refine (HRUN.out _).mono ?_
      rintro e wq ⟨rfl, hwq⟩
      rw [← hwq]
      clear hwq
      go_wp2_with fail
      refine (kSmall _ _).mono ?_
      rintro e wq ⟨rfl, hwq⟩
      rw [HLO.out, ← hwq]
      clear hwq
      go_wp2_with fail
      refine (kCapital _ _).mono ?_
      rintro e wq ⟨rfl, hwq⟩
      rw [HUP.out, ← hwq]
      clear hwq
      go_wp2_with fail
      obtain ⟨W, hW⟩ : ∃ W, W = w.alloc (.cells #[.int .i8 0, .string ⟨#[]⟩, .int .i64 0, .int .i64 0] 36) := ⟨_, rfl⟩
      have HBW := Lib.hid (show Below w.heap.size w W by rw [hW]; exact below_alloc _ _)
      have hsW : W.heap.size = w.heap.size + 1 := by rw [hW]; simp
      have HBK := Lib.hid (show W.heap[w.heap.size]? = some (.cells #[.int .i8 0, .string ⟨#[]⟩, .int .i64 0, .int .i64 0] 36 (0, 0)) by rw [hW]; exact heap_alloc_new w _)
      rw [← hW]
      clear hW
      refine (HWC.out _).mono ?_
      rintro e w1 ⟨rfl, hb⟩
      rcases her : er == 0 with _ | _
      · have he0 : er ≠ 0 := by simpa using her
        rw [show WdR (er, ⟨kk, tx, nn, pl⟩) a = .tuple #[.agg #[.int .i8 0, .string ⟨#[]⟩, .int .i64 0, .int .i64 0], .int .i64 er] from if_neg he0]
        have HER := Lib.hid (show H.1.1 = er by rw [HHE.out])
        have HE0 := Lib.hid he0
        clear her he0
        have hlt1 : w.heap.size < w1.heap.size := by have := hb.size; omega
        have HX1 := Lib.hid ((hb.block w.heap.size (by omega)).trans HBK.out)
        have HB1 := Lib.hid (HBW.out.trans (hb.mono (by omega))); clear hb
        obtain ⟨x0, x1, x2, x3⟩ := four HX1.out
        have f0 : World.frozen? w1 ⟨w.heap.size, 0, none⟩ = false := Lib.frozen_of_heap HX1.out 0
        have f1 : World.frozen? w1 ⟨w.heap.size, 1, none⟩ = false := Lib.frozen_of_heap HX1.out 1
        have f2 : World.frozen? w1 ⟨w.heap.size, 2, none⟩ = false := Lib.frozen_of_heap HX1.out 2
        have f3 : World.frozen? w1 ⟨w.heap.size, 3, none⟩ = false := Lib.frozen_of_heap HX1.out 3
        go_wp2_with fail
        change bodyPost _ _ _ _ _ ((putL w1 w.heap.size 0 [.int .i8 0, .string ⟨#[]⟩, .int .i64 0, .int .i64 0]).alloc (.cells #[.int .i8 0, .string ⟨#[]⟩, .int .i64 0, .int .i64 0] 36))
        clear x0 x1 x2 x3 f0 f1 f2 f3
        have hb2 := (Lib.alloc_old (putL w1 w.heap.size 0 [.int .i8 0, .string ⟨#[]⟩, .int .i64 0, .int .i64 0]) (.cells #[.int .i8 0, .string ⟨#[]⟩, .int .i64 0, .int .i64 0] 36) w.heap.size (by rw [putL_size]; exact hlt1)).trans (putL_heap [.int .i8 0, .string ⟨#[]⟩, .int .i64 0, .int .i64 0] HX1.out rfl)
        have HBp := Lib.hid ((putL_below (Nat.le_refl _) [.int .i8 0, .string ⟨#[]⟩, .int .i64 0, .int .i64 0] _ 0 HB1.out).alloc (by rw [putL_size]; exact HB1.out.size) (.cells #[.int .i8 0, .string ⟨#[]⟩, .int .i64 0, .int .i64 0] 36))
        obtain ⟨W2, hW2⟩ : ∃ W2, W2 = (putL w1 w.heap.size 0 [.int .i8 0, .string ⟨#[]⟩, .int .i64 0, .int .i64 0]).alloc (.cells #[.int .i8 0, .string ⟨#[]⟩, .int .i64 0, .int .i64 0] 36) := ⟨_, rfl⟩
        rw [← hW2] at hb2 HBp ⊢
        clear hW2
        obtain ⟨z0, z1, z2, z3⟩ := four (show W2.heap[w.heap.size]? = some (.cells #[.int .i8 0, .string ⟨#[]⟩, .int .i64 0, .int .i64 0] 36 (0, 0)) from hb2)
        refine bodyPost_ret (v := .tuple #[.agg #[.int .i8 0, .string ⟨#[]⟩, .int .i64 0, .int .i64 0], .int .i64 X.size, .int .i64 er]) (by simp [results, Tryd.results31, go_sem, z0, z1, z2, z3]) rfl ?_
        exact KtPost.err (n := X.size) HER.out HE0.out tk0 HBp.out
      · obtain rfl : er = 0 := beq_iff_eq.1 her
        rw [show WdR (0, ⟨kk, tx, nn, pl⟩) a = .tuple #[.agg #[.int .i8 kk, .string tx, .int .i64 nn, .int .i64 (a : Int)], .int .i64 0] from if_pos rfl]
        have HOK := Lib.hid (show (H.1.1 = 0 ∧ H.1.2.k = kk ∧ H.1.2.t = tx ∧ H.1.2.n = nn) ∧ H.2 = X.size by rw [HHE.out]; exact ⟨⟨rfl, rfl, rfl, rfl⟩, rfl⟩)
        clear her
        have hlt1 : w.heap.size < w1.heap.size := by have := hb.size; omega
        have HX1 := Lib.hid ((hb.block w.heap.size (by omega)).trans HBK.out)
        have HB1 := Lib.hid (HBW.out.trans (hb.mono (by omega))); clear hb
        obtain ⟨x0, x1, x2, x3⟩ := four HX1.out
        have f0 : World.frozen? w1 ⟨w.heap.size, 0, none⟩ = false := Lib.frozen_of_heap HX1.out 0
        have f1 : World.frozen? w1 ⟨w.heap.size, 1, none⟩ = false := Lib.frozen_of_heap HX1.out 1
        have f2 : World.frozen? w1 ⟨w.heap.size, 2, none⟩ = false := Lib.frozen_of_heap HX1.out 2
        have f3 : World.frozen? w1 ⟨w.heap.size, 3, none⟩ = false := Lib.frozen_of_heap HX1.out 3
        go_wp2_with fail
        change bodyPost _ _ _ _ _ ((putL w1 w.heap.size 0 [.int .i8 kk, .string tx, .int .i64 nn, .int .i64 (a : Int)]).alloc (.cells #[.int .i8 kk, .string tx, .int .i64 nn, .int .i64 (a : Int)] 36))
        clear x0 x1 x2 x3 f0 f1 f2 f3
        have hb2 := (Lib.alloc_old (putL w1 w.heap.size 0 [.int .i8 kk, .string tx, .int .i64 nn, .int .i64 (a : Int)]) (.cells #[.int .i8 kk, .string tx, .int .i64 nn, .int .i64 (a : Int)] 36) w.heap.size (by rw [putL_size]; exact hlt1)).trans (putL_heap [.int .i8 kk, .string tx, .int .i64 nn, .int .i64 (a : Int)] HX1.out rfl)
        have HBp := Lib.hid ((putL_below (Nat.le_refl _) [.int .i8 kk, .string tx, .int .i64 nn, .int .i64 (a : Int)] _ 0 HB1.out).alloc (by rw [putL_size]; exact HB1.out.size) (.cells #[.int .i8 kk, .string tx, .int .i64 nn, .int .i64 (a : Int)] 36))
        obtain ⟨W2, hW2⟩ : ∃ W2, W2 = (putL w1 w.heap.size 0 [.int .i8 kk, .string tx, .int .i64 nn, .int .i64 (a : Int)]).alloc (.cells #[.int .i8 kk, .string tx, .int .i64 nn, .int .i64 (a : Int)] 36) := ⟨_, rfl⟩
        rw [← hW2] at hb2 HBp ⊢
        clear hW2
        obtain ⟨z0, z1, z2, z3⟩ := four (show W2.heap[w.heap.size]? = some (.cells #[.int .i8 kk, .string tx, .int .i64 nn, .int .i64 (a : Int)] 36 (0, 0)) from hb2)
        refine bodyPost_ret (v := .tuple #[.agg #[.int .i8 kk, .string tx, .int .i64 nn, .int .i64 (a : Int)], .int .i64 X.size, .int .i64 0]) (by simp [results, Tryd.results31, go_sem, z0, z1, z2, z3]) rfl ?_
        obtain ⟨⟨e1, e2, e3, e4⟩, e5⟩ := HOK.out
        exact ⟨⟨kk, tx, nn, a⟩, X.size, by rw [e1]; rfl, HBp.out, fun _ => ⟨by rw [e2, e3, e4], e5.symm⟩⟩
  · have hwb : wordB s[a] = true := by rw [wordB_iff]; simp [lowerB] at hl; omega
    have HXC := Lib.hid (show bl X = s[a] :: runL ((bl s).drop (a + 1)) by rw [HBX.out, HD.out, run_cons hwb])
    have hX0 : 0 < X.size := by rw [← size_bl, HXC.out]; simp
    have HHE := Lib.hid (show H = (wordT (bl X), X.size) by rw [HH.out, HD.out, head_run hwb, ← HD.out, ← HBX.out, size_bl])
    have hX1 : X[0] = s[a] := by
      have h1 := drop_get X 0 hX0
      rw [List.drop_zero, HXC.out] at h1
      simp only [List.cons.injEq] at h1
      exact h1.1.symm
    have HWC := Lib.hid (fun w' => kWord X a w' hX0 hXs (by rw [hX1]; exact .inl hl))
    have HLO := Lib.hid hl
    clear hl hwb hX1
    generalize wordT (bl X) = Q at HHE HWC
    obtain ⟨er, ⟨kk, tx, nn, pl⟩⟩ := Q
    go_enter Tryd.func31, Tryd.ntmps31
    go_wp2_with fail
    refine (HRUN.out _).mono ?_
    rintro e wq ⟨rfl, hwq⟩
    rw [← hwq]
    clear hwq
    go_wp2_with fail
    refine (kSmall _ _).mono ?_
    rintro e wq ⟨rfl, hwq⟩
    rw [HLO.out, ← hwq]
    clear hwq
    go_wp2_with fail
    obtain ⟨W, hW⟩ : ∃ W, W = w.alloc (.cells #[.int .i8 0, .string ⟨#[]⟩, .int .i64 0, .int .i64 0] 36) := ⟨_, rfl⟩
    have HBW := Lib.hid (show Below w.heap.size w W by rw [hW]; exact below_alloc _ _)
    have hsW : W.heap.size = w.heap.size + 1 := by rw [hW]; simp
    have HBK := Lib.hid (show W.heap[w.heap.size]? = some (.cells #[.int .i8 0, .string ⟨#[]⟩, .int .i64 0, .int .i64 0] 36 (0, 0)) by rw [hW]; exact heap_alloc_new w _)
    rw [← hW]
    clear hW
    refine (HWC.out _).mono ?_
    rintro e w1 ⟨rfl, hb⟩
    rcases her : er == 0 with _ | _
    · have he0 : er ≠ 0 := by simpa using her
      rw [show WdR (er, ⟨kk, tx, nn, pl⟩) a = .tuple #[.agg #[.int .i8 0, .string ⟨#[]⟩, .int .i64 0, .int .i64 0], .int .i64 er] from if_neg he0]
      have HER := Lib.hid (show H.1.1 = er by rw [HHE.out])
      have HE0 := Lib.hid he0
      clear her he0
      have hlt1 : w.heap.size < w1.heap.size := by have := hb.size; omega
      have HX1 := Lib.hid ((hb.block w.heap.size (by omega)).trans HBK.out)
      have HB1 := Lib.hid (HBW.out.trans (hb.mono (by omega))); clear hb
      obtain ⟨x0, x1, x2, x3⟩ := four HX1.out
      have f0 : World.frozen? w1 ⟨w.heap.size, 0, none⟩ = false := Lib.frozen_of_heap HX1.out 0
      have f1 : World.frozen? w1 ⟨w.heap.size, 1, none⟩ = false := Lib.frozen_of_heap HX1.out 1
      have f2 : World.frozen? w1 ⟨w.heap.size, 2, none⟩ = false := Lib.frozen_of_heap HX1.out 2
      have f3 : World.frozen? w1 ⟨w.heap.size, 3, none⟩ = false := Lib.frozen_of_heap HX1.out 3
      go_wp2_with fail
      change bodyPost _ _ _ _ _ ((putL w1 w.heap.size 0 [.int .i8 0, .string ⟨#[]⟩, .int .i64 0, .int .i64 0]).alloc (.cells #[.int .i8 0, .string ⟨#[]⟩, .int .i64 0, .int .i64 0] 36))
      clear x0 x1 x2 x3 f0 f1 f2 f3
      have hb2 := (Lib.alloc_old (putL w1 w.heap.size 0 [.int .i8 0, .string ⟨#[]⟩, .int .i64 0, .int .i64 0]) (.cells #[.int .i8 0, .string ⟨#[]⟩, .int .i64 0, .int .i64 0] 36) w.heap.size (by rw [putL_size]; exact hlt1)).trans (putL_heap [.int .i8 0, .string ⟨#[]⟩, .int .i64 0, .int .i64 0] HX1.out rfl)
      have HBp := Lib.hid ((putL_below (Nat.le_refl _) [.int .i8 0, .string ⟨#[]⟩, .int .i64 0, .int .i64 0] _ 0 HB1.out).alloc (by rw [putL_size]; exact HB1.out.size) (.cells #[.int .i8 0, .string ⟨#[]⟩, .int .i64 0, .int .i64 0] 36))
      obtain ⟨W2, hW2⟩ : ∃ W2, W2 = (putL w1 w.heap.size 0 [.int .i8 0, .string ⟨#[]⟩, .int .i64 0, .int .i64 0]).alloc (.cells #[.int .i8 0, .string ⟨#[]⟩, .int .i64 0, .int .i64 0] 36) := ⟨_, rfl⟩
      rw [← hW2] at hb2 HBp ⊢
      clear hW2
      obtain ⟨z0, z1, z2, z3⟩ := four (show W2.heap[w.heap.size]? = some (.cells #[.int .i8 0, .string ⟨#[]⟩, .int .i64 0, .int .i64 0] 36 (0, 0)) from hb2)
      refine bodyPost_ret (v := .tuple #[.agg #[.int .i8 0, .string ⟨#[]⟩, .int .i64 0, .int .i64 0], .int .i64 X.size, .int .i64 er]) (by simp [results, Tryd.results31, go_sem, z0, z1, z2, z3]) rfl ?_
      exact KtPost.err (n := X.size) HER.out HE0.out tk0 HBp.out
    · obtain rfl : er = 0 := beq_iff_eq.1 her
      rw [show WdR (0, ⟨kk, tx, nn, pl⟩) a = .tuple #[.agg #[.int .i8 kk, .string tx, .int .i64 nn, .int .i64 (a : Int)], .int .i64 0] from if_pos rfl]
      have HOK := Lib.hid (show (H.1.1 = 0 ∧ H.1.2.k = kk ∧ H.1.2.t = tx ∧ H.1.2.n = nn) ∧ H.2 = X.size by rw [HHE.out]; exact ⟨⟨rfl, rfl, rfl, rfl⟩, rfl⟩)
      clear her
      have hlt1 : w.heap.size < w1.heap.size := by have := hb.size; omega
      have HX1 := Lib.hid ((hb.block w.heap.size (by omega)).trans HBK.out)
      have HB1 := Lib.hid (HBW.out.trans (hb.mono (by omega))); clear hb
      obtain ⟨x0, x1, x2, x3⟩ := four HX1.out
      have f0 : World.frozen? w1 ⟨w.heap.size, 0, none⟩ = false := Lib.frozen_of_heap HX1.out 0
      have f1 : World.frozen? w1 ⟨w.heap.size, 1, none⟩ = false := Lib.frozen_of_heap HX1.out 1
      have f2 : World.frozen? w1 ⟨w.heap.size, 2, none⟩ = false := Lib.frozen_of_heap HX1.out 2
      have f3 : World.frozen? w1 ⟨w.heap.size, 3, none⟩ = false := Lib.frozen_of_heap HX1.out 3
      go_wp2_with fail
      change bodyPost _ _ _ _ _ ((putL w1 w.heap.size 0 [.int .i8 kk, .string tx, .int .i64 nn, .int .i64 (a : Int)]).alloc (.cells #[.int .i8 kk, .string tx, .int .i64 nn, .int .i64 (a : Int)] 36))
      clear x0 x1 x2 x3 f0 f1 f2 f3
      have hb2 := (Lib.alloc_old (putL w1 w.heap.size 0 [.int .i8 kk, .string tx, .int .i64 nn, .int .i64 (a : Int)]) (.cells #[.int .i8 kk, .string tx, .int .i64 nn, .int .i64 (a : Int)] 36) w.heap.size (by rw [putL_size]; exact hlt1)).trans (putL_heap [.int .i8 kk, .string tx, .int .i64 nn, .int .i64 (a : Int)] HX1.out rfl)
      have HBp := Lib.hid ((putL_below (Nat.le_refl _) [.int .i8 kk, .string tx, .int .i64 nn, .int .i64 (a : Int)] _ 0 HB1.out).alloc (by rw [putL_size]; exact HB1.out.size) (.cells #[.int .i8 kk, .string tx, .int .i64 nn, .int .i64 (a : Int)] 36))
      obtain ⟨W2, hW2⟩ : ∃ W2, W2 = (putL w1 w.heap.size 0 [.int .i8 kk, .string tx, .int .i64 nn, .int .i64 (a : Int)]).alloc (.cells #[.int .i8 kk, .string tx, .int .i64 nn, .int .i64 (a : Int)] 36) := ⟨_, rfl⟩
      rw [← hW2] at hb2 HBp ⊢
      clear hW2
      obtain ⟨z0, z1, z2, z3⟩ := four (show W2.heap[w.heap.size]? = some (.cells #[.int .i8 kk, .string tx, .int .i64 nn, .int .i64 (a : Int)] 36 (0, 0)) from hb2)
      refine bodyPost_ret (v := .tuple #[.agg #[.int .i8 kk, .string tx, .int .i64 nn, .int .i64 (a : Int)], .int .i64 X.size, .int .i64 0]) (by simp [results, Tryd.results31, go_sem, z0, z1, z2, z3]) rfl ?_
      obtain ⟨⟨e1, e2, e3, e4⟩, e5⟩ := HOK.out
      exact ⟨⟨kk, tx, nn, a⟩, X.size, by rw [e1]; rfl, HBp.out, fun _ => ⟨by rw [e2, e3, e4], e5.symm⟩⟩
end Go.Proofs.YtcigdlpljjkplaaDoor
