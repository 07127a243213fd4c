/- The contract of lex.Text at the kinds of tokens without a word, and at every token. Conditions: the tables lie as the program lays them. -/
import Derived.Test.YtcigdlpljjkplaaDoorG6
namespace Go.Proofs.YtcigdlpljjkplaaDoor
open Go.RowKit

theorem empty_b {t : ByteArray} (h : t.size ≠ 0) : t.toList.isEmpty = false := by
  rw [ByteArray.toList_eq, Bool.eq_false_iff]; intro h2; rw [List.isEmpty_iff_length_eq_zero] at h2; exact h (by rw [← size_bl]; exact h2)
theorem empty_bl {t : ByteArray} (h : t.size ≠ 0) : (bl t).isEmpty = false := by rw [bl_empty]; exact decide_eq_false h
theorem wrap_nn {n : Int} (h0 : 0 ≤ n) (h1 : n < 9223372036854775808) : IntKind.u64.wrap n = (n.toNat : Int) := by rw [IntKind.wrap_u64]; omega
set_option maxHeartbeats 4000000 in
set_option maxRecDepth 100000 in
theorem lT3e (p : Int) (w : World) :
    Calls Tryd.prog 15 #[.agg #[.int .i8 3, .string ⟨#[]⟩, .int .i64 0, .int .i64 p]] w (TP ⟨3, ⟨#[]⟩, 0, p⟩ w) := by
  obtain ⟨W, hW⟩ : ∃ W, W = w.alloc (.cells #[.int .i8 3, .string ⟨#[]⟩, .int .i64 0, .int .i64 p] 36) := ⟨_, rfl⟩
  have HBW := Lib.hid (show Below w.heap.size w W by rw [hW]; exact below_alloc _ _)
  have hsW : W.heap.size = w.heap.size + 1 := by rw [hW]; simp
  have hbk : w.heap.size < W.heap.size := by omega
  obtain ⟨x0, x1, x2, x3⟩ := four (show W.heap[w.heap.size]? = some (.cells #[.int .i8 3, .string ⟨#[]⟩, .int .i64 0, .int .i64 p] 36 (0, 0)) by rw [hW]; exact heap_alloc_new w _)
  go_enter Tryd.func15, Tryd.ntmps15
  go_wp2_with fail
  rw [← hW]
  clear hW
  go_quiet (fail)
  go_wp2_with fail
  go_quiet (fail)
  go_wp2_with fail
  go_ret2
  exact TP.ok rfl rfl (HBW.out.trans ((below_drewN _ _).mono (by omega)))
set_option maxHeartbeats 4000000 in
set_option maxRecDepth 100000 in
theorem lT3f (t : ByteArray) (p : Int) (w : World) (ht : t.size ≠ 0) :
    Calls Tryd.prog 15 #[.agg #[.int .i8 3, .string t, .int .i64 0, .int .i64 p]] w (TP ⟨3, t, 0, p⟩ w) := by
  obtain ⟨W, hW⟩ : ∃ W, W = w.alloc (.cells #[.int .i8 3, .string t, .int .i64 0, .int .i64 p] 36) := ⟨_, rfl⟩
  have HBW := Lib.hid (show Below w.heap.size w W by rw [hW]; exact below_alloc _ _)
  have hsW : W.heap.size = w.heap.size + 1 := by rw [hW]; simp
  have hbk : w.heap.size < W.heap.size := by omega
  obtain ⟨x0, x1, x2, x3⟩ := four (show W.heap[w.heap.size]? = some (.cells #[.int .i8 3, .string t, .int .i64 0, .int .i64 p] 36 (0, 0)) by rw [hW]; exact heap_alloc_new w _)
  have g := empty_b ht
  have HG := Lib.hid (empty_bl ht); clear ht
  go_enter Tryd.func15, Tryd.ntmps15
  go_wp2_with fail
  rw [← hW]
  clear hW
  go_quiet (fail)
  go_wp2_with fail
  go_quiet (fail)
  go_wp2_with fail
  go_ret2
  exact TP.no (show (0 == 0 && (bl t).isEmpty) = false by rw [HG.out]; rfl) (HBW.out.trans ((below_drewN _ _).mono (by omega)))
set_option maxHeartbeats 4000000 in
set_option maxRecDepth 100000 in
theorem lT3n (t : ByteArray) (n p : Int) (w : World) (qn : (n == 0) = false) :
    Calls Tryd.prog 15 #[.agg #[.int .i8 3, .string t, .int .i64 n, .int .i64 p]] w (TP ⟨3, t, n, p⟩ w) := by
  obtain ⟨W, hW⟩ : ∃ W, W = w.alloc (.cells #[.int .i8 3, .string t, .int .i64 n, .int .i64 p] 36) := ⟨_, rfl⟩
  have HBW := Lib.hid (show Below w.heap.size w W by rw [hW]; exact below_alloc _ _)
  have hsW : W.heap.size = w.heap.size + 1 := by rw [hW]; simp
  have hbk : w.heap.size < W.heap.size := by omega
  obtain ⟨x0, x1, x2, x3⟩ := four (show W.heap[w.heap.size]? = some (.cells #[.int .i8 3, .string t, .int .i64 n, .int .i64 p] 36 (0, 0)) by rw [hW]; exact heap_alloc_new w _)
  go_enter Tryd.func15, Tryd.ntmps15
  go_wp2_with fail
  rw [← hW]
  clear hW
  go_quiet (fail)
  go_wp2_with fail
  go_quiet (fail)
  go_wp2_with fail
  go_ret2
  exact TP.no (show (n == 0 && (bl t).isEmpty) = false by rw [qn]; rfl) (HBW.out.trans ((below_drewN _ _).mono (by omega)))
set_option maxHeartbeats 4000000 in
set_option maxRecDepth 100000 in
theorem lT8e (p : Int) (w : World) :
    Calls Tryd.prog 15 #[.agg #[.int .i8 8, .string ⟨#[]⟩, .int .i64 0, .int .i64 p]] w (TP ⟨8, ⟨#[]⟩, 0, p⟩ w) := by
  obtain ⟨W, hW⟩ : ∃ W, W = w.alloc (.cells #[.int .i8 8, .string ⟨#[]⟩, .int .i64 0, .int .i64 p] 36) := ⟨_, rfl⟩
  have HBW := Lib.hid (show Below w.heap.size w W by rw [hW]; exact below_alloc _ _)
  have hsW : W.heap.size = w.heap.size + 1 := by rw [hW]; simp
  have hbk : w.heap.size < W.heap.size := by omega
  obtain ⟨x0, x1, x2, x3⟩ := four (show W.heap[w.heap.size]? = some (.cells #[.int .i8 8, .string ⟨#[]⟩, .int .i64 0, .int .i64 p] 36 (0, 0)) by rw [hW]; exact heap_alloc_new w _)
  go_enter Tryd.func15, Tryd.ntmps15
  go_wp2_with fail
  rw [← hW]
  clear hW
  go_quiet (fail)
  go_wp2_with fail
  go_ret2
  exact TP.ok rfl rfl (HBW.out.trans ((below_drewN _ _).mono (by omega)))
set_option maxHeartbeats 4000000 in
set_option maxRecDepth 100000 in
theorem lT8f (t : ByteArray) (p : Int) (w : World) (ht : t.size ≠ 0) :
    Calls Tryd.prog 15 #[.agg #[.int .i8 8, .string t, .int .i64 0, .int .i64 p]] w (TP ⟨8, t, 0, p⟩ w) := by
  obtain ⟨W, hW⟩ : ∃ W, W = w.alloc (.cells #[.int .i8 8, .string t, .int .i64 0, .int .i64 p] 36) := ⟨_, rfl⟩
  have HBW := Lib.hid (show Below w.heap.size w W by rw [hW]; exact below_alloc _ _)
  have hsW : W.heap.size = w.heap.size + 1 := by rw [hW]; simp
  have hbk : w.heap.size < W.heap.size := by omega
  obtain ⟨x0, x1, x2, x3⟩ := four (show W.heap[w.heap.size]? = some (.cells #[.int .i8 8, .string t, .int .i64 0, .int .i64 p] 36 (0, 0)) by rw [hW]; exact heap_alloc_new w _)
  have g := empty_b ht
  have HG := Lib.hid (empty_bl ht); clear ht
  go_enter Tryd.func15, Tryd.ntmps15
  go_wp2_with fail
  rw [← hW]
  clear hW
  go_quiet (fail)
  go_wp2_with fail
  go_ret2
  exact TP.no (show (0 == 0 && (bl t).isEmpty) = false by rw [HG.out]; rfl) (HBW.out.trans ((below_drewN _ _).mono (by omega)))
set_option maxHeartbeats 4000000 in
set_option maxRecDepth 100000 in
theorem lT8n (t : ByteArray) (n p : Int) (w : World) (qn : (n == 0) = false) :
    Calls Tryd.prog 15 #[.agg #[.int .i8 8, .string t, .int .i64 n, .int .i64 p]] w (TP ⟨8, t, n, p⟩ w) := by
  obtain ⟨W, hW⟩ : ∃ W, W = w.alloc (.cells #[.int .i8 8, .string t, .int .i64 n, .int .i64 p] 36) := ⟨_, rfl⟩
  have HBW := Lib.hid (show Below w.heap.size w W by rw [hW]; exact below_alloc _ _)
  have hsW : W.heap.size = w.heap.size + 1 := by rw [hW]; simp
  have hbk : w.heap.size < W.heap.size := by omega
  obtain ⟨x0, x1, x2, x3⟩ := four (show W.heap[w.heap.size]? = some (.cells #[.int .i8 8, .string t, .int .i64 n, .int .i64 p] 36 (0, 0)) by rw [hW]; exact heap_alloc_new w _)
  go_enter Tryd.func15, Tryd.ntmps15
  go_wp2_with fail
  rw [← hW]
  clear hW
  go_quiet (fail)
  go_wp2_with fail
  go_ret2
  exact TP.no (show (n == 0 && (bl t).isEmpty) = false by rw [qn]; rfl) (HBW.out.trans ((below_drewN _ _).mono (by omega)))
set_option maxHeartbeats 4000000 in
set_option maxRecDepth 100000 in
theorem lT5n (t : ByteArray) (n p : Int) (w : World) (qn : (n == 0) = false) :
    Calls Tryd.prog 15 #[.agg #[.int .i8 5, .string t, .int .i64 n, .int .i64 p]] w (TP ⟨5, t, n, p⟩ w) := by
  obtain ⟨W, hW⟩ : ∃ W, W = w.alloc (.cells #[.int .i8 5, .string t, .int .i64 n, .int .i64 p] 36) := ⟨_, rfl⟩
  have HBW := Lib.hid (show Below w.heap.size w W by rw [hW]; exact below_alloc _ _)
  have hsW : W.heap.size = w.heap.size + 1 := by rw [hW]; simp
  have hbk : w.heap.size < W.heap.size := by omega
  obtain ⟨x0, x1, x2, x3⟩ := four (show W.heap[w.heap.size]? = some (.cells #[.int .i8 5, .string t, .int .i64 n, .int .i64 p] 36 (0, 0)) by rw [hW]; exact heap_alloc_new w _)
  go_enter Tryd.func15, Tryd.ntmps15
  go_wp2_with fail
  rw [← hW]
  clear hW
  go_quiet (fail)
  go_wp2_with fail
  go_ret2
  exact TP.no (show (n == 0 && decide (t.size ≤ 200)) = false by rw [qn]; rfl) (HBW.out.trans ((below_drewN _ _).mono (by omega)))
set_option maxHeartbeats 4000000 in
set_option maxRecDepth 100000 in
theorem lT5f (t : ByteArray) (p : Int) (w : World) (ht : 200 < t.size) :
    Calls Tryd.prog 15 #[.agg #[.int .i8 5, .string t, .int .i64 0, .int .i64 p]] w (TP ⟨5, t, 0, p⟩ w) := by
  obtain ⟨W, hW⟩ : ∃ W, W = w.alloc (.cells #[.int .i8 5, .string t, .int .i64 0, .int .i64 p] 36) := ⟨_, rfl⟩
  have HBW := Lib.hid (show Below w.heap.size w W by rw [hW]; exact below_alloc _ _)
  have hsW : W.heap.size = w.heap.size + 1 := by rw [hW]; simp
  have hbk : w.heap.size < W.heap.size := by omega
  obtain ⟨x0, x1, x2, x3⟩ := four (show W.heap[w.heap.size]? = some (.cells #[.int .i8 5, .string t, .int .i64 0, .int .i64 p] 36 (0, 0)) by rw [hW]; exact heap_alloc_new w _)
  have q : decide ((t.size : Int) ≤ 200) = false := decide_eq_false (by omega)
  have HG := Lib.hid (show decide (t.size ≤ 200) = false from decide_eq_false (by omega)); clear ht
  go_enter Tryd.func15, Tryd.ntmps15
  go_wp2_with fail
  rw [← hW]
  clear hW
  go_quiet (fail)
  go_wp2_with fail
  go_ret2
  exact TP.no (show (0 == 0 && decide (t.size ≤ 200)) = false by rw [HG.out]; rfl) (HBW.out.trans ((below_drewN _ _).mono (by omega)))
set_option maxHeartbeats 4000000 in
set_option maxRecDepth 100000 in
theorem lT5 (t : ByteArray) (p : Int) (w : World) (ht : t.size ≤ 200) :
    Calls Tryd.prog 15 #[.agg #[.int .i8 5, .string t, .int .i64 0, .int .i64 p]] w (TP ⟨5, t, 0, p⟩ w) := by
  obtain ⟨W, hW⟩ : ∃ W, W = w.alloc (.cells #[.int .i8 5, .string t, .int .i64 0, .int .i64 p] 36) := ⟨_, rfl⟩
  have HBW := Lib.hid (show Below w.heap.size w W by rw [hW]; exact below_alloc _ _)
  have hsW : W.heap.size = w.heap.size + 1 := by rw [hW]; simp
  have hbk : w.heap.size < W.heap.size := by omega
  obtain ⟨x0, x1, x2, x3⟩ := four (show W.heap[w.heap.size]? = some (.cells #[.int .i8 5, .string t, .int .i64 0, .int .i64 p] 36 (0, 0)) by rw [hW]; exact heap_alloc_new w _)
  have q : decide ((t.size : Int) ≤ 200) = true := decide_eq_true (by omega)
  have HG := Lib.hid (show decide (t.size ≤ 200) = true from decide_eq_true (by omega))
  have HT := Lib.hid ht; clear ht
  go_enter Tryd.func15, Tryd.ntmps15
  go_wp2_with fail
  rw [← hW]
  clear hW
  go_quiet (fail)
  go_wp2_with fail
  refine (lShow t _ HT.out).mono ?_
  rintro r w1 ⟨rfl, hb⟩
  have Hb := Lib.hid (HBW.out.trans (((below_drewN W _).trans hb).mono (by omega))); clear hb
  go_wp2_with fail
  go_ret2
  exact TP.ok (show (0 == 0 && decide (t.size ≤ 200)) = true by rw [HG.out]; rfl) rfl Hb.out
set_option maxHeartbeats 4000000 in
set_option maxRecDepth 100000 in
theorem lT0 (k : Int) (t : ByteArray) (n p : Int) (w : World) (h1 : (k == 1) = false) (h2 : (k == 2) = false) (h3 : (k == 3) = false) (h4 : (k == 4) = false) (h5 : (k == 5) = false) (h6 : (k == 6) = false) (h7 : (k == 7) = false) (h8 : (k == 8) = false) :
    Calls Tryd.prog 15 #[.agg #[.int .i8 k, .string t, .int .i64 n, .int .i64 p]] w (TP ⟨k, t, n, p⟩ w) := by
  obtain ⟨W, hW⟩ : ∃ W, W = w.alloc (.cells #[.int .i8 k, .string t, .int .i64 n, .int .i64 p] 36) := ⟨_, rfl⟩
  have HBW := Lib.hid (show Below w.heap.size w W by rw [hW]; exact below_alloc _ _)
  have hsW : W.heap.size = w.heap.size + 1 := by rw [hW]; simp
  have hbk : w.heap.size < W.heap.size := by omega
  obtain ⟨x0, x1, x2, x3⟩ := four (show W.heap[w.heap.size]? = some (.cells #[.int .i8 k, .string t, .int .i64 n, .int .i64 p] 36 (0, 0)) by rw [hW]; exact heap_alloc_new w _)
  have HN := Lib.hid (show tkOk ⟨k, t, n, p⟩ = false by
    simp only [tkOk]
    rw [if_neg (by simpa using h1), if_neg (by simpa using h2), if_neg (by simpa using h6), if_neg (by simpa using h7), if_neg (by simpa using h3), if_neg (by simpa using h4), if_neg (by simpa using h5), if_neg (by simpa using h8)])
  go_enter Tryd.func15, Tryd.ntmps15
  go_wp2_with fail
  rw [← hW]
  clear hW
  rcases hn : (n == 0) with _ | _
  all_goals
    go_quiet (fail)
    go_wp2_with fail
    go_ret2
    exact TP.no HN.out (HBW.out.trans ((below_drewN _ _).mono (by omega)))
set_option maxHeartbeats 4000000 in
set_option maxRecDepth 100000 in
theorem lT4a (n p : Int) (w : World) (hP : PwAt w) (h0 : 0 ≤ n) :
    Calls Tryd.prog 15 #[.agg #[.int .i8 4, .string ⟨#[]⟩, .int .i64 n, .int .i64 p]] w (TP ⟨4, ⟨#[]⟩, n, p⟩ w) := by
  obtain ⟨W, hW⟩ : ∃ W, W = w.alloc (.cells #[.int .i8 4, .string ⟨#[]⟩, .int .i64 n, .int .i64 p] 36) := ⟨_, rfl⟩
  have HBW := Lib.hid (show Below w.heap.size w W by rw [hW]; exact below_alloc _ _)
  have hsW : W.heap.size = w.heap.size + 1 := by rw [hW]; simp
  have hbk : w.heap.size < W.heap.size := by omega
  obtain ⟨x0, x1, x2, x3⟩ := four (show W.heap[w.heap.size]? = some (.cells #[.int .i8 4, .string ⟨#[]⟩, .int .i64 n, .int .i64 p] 36 (0, 0)) by rw [hW]; exact heap_alloc_new w _)
  obtain ⟨u, hU⟩ : ∃ u : Nat, u = (IntKind.u64.wrap n).toNat := ⟨_, rfl⟩
  have HWU := Lib.hid (show IntKind.u64.wrap n = (u : Int) by rw [hU, IntKind.wrap_u64]; omega)
  have hu : u < 18446744073709551616 := by rw [hU, IntKind.wrap_u64]; omega
  obtain ⟨l, hl⟩ : ∃ l : ByteArray, l = ⟨(Lib.decDigits u).toArray⟩ := ⟨_, rfl⟩
  have hls : l.size ≤ 20 := by rw [hl, ← size_bl]; exact dec_len u hu
  have HL := Lib.hid hl
  have HTL := Lib.hid (show tkL ⟨4, ⟨#[]⟩, n, p⟩ = bl l by rw [hl, hU]; rfl)
  have HPW := Lib.hid (hP.at HBW.out); clear hP hl hU
  have qn : decide (0 ≤ n) = true := decide_eq_true h0
  go_enter Tryd.func15, Tryd.ntmps15
  go_wp2_with fail
  rw [← hW]
  clear hW
  go_quiet (fail)
  go_wp2_with fail
  generalize hV : W.drewN _ = V
  have HBV := Lib.hid (show Below W.heap.size W V by rw [← hV]; exact below_drewN _ _)
  have v0 := (HBV.out.cell (p := ⟨w.heap.size, 0, none⟩) hbk).trans x0
  have v1 := (HBV.out.cell (p := ⟨w.heap.size, 1, none⟩) hbk).trans x1
  have v2 := (HBV.out.cell (p := ⟨w.heap.size, 2, none⟩) hbk).trans x2
  have v3 := (HBV.out.cell (p := ⟨w.heap.size, 3, none⟩) hbk).trans x3
  have hbv : w.heap.size < V.heap.size := by have := HBV.out.size; omega
  clear x0 x1 x2 x3 hV
  first | go_region_with (first
      | (go_at_call 35
         first | rw [HWU.out] | skip
         refine (sFormat u hu V.drew (HPW.out.at (HBV.out.drew))).mono ?_
         rintro r w1 ⟨rfl, hb⟩
         rw [← HL.out]
         have y1 := (hb.cell (p := ⟨w.heap.size, 1, none⟩) hbv).trans v1
         have y2 := (hb.cell (p := ⟨w.heap.size, 2, none⟩) hbv).trans v2
         have Hb := Lib.hid (show Below V.heap.size V w1 from ⟨hb.os, hb.tape, hb.output, hb.size, hb.block⟩)
         clear hb)) | fail
  all_goals
    clear v0 v1 v2 v3
    go_wp2_with fail
    go_ret2
    exact TP.ok (show ((bl ⟨#[]⟩).isEmpty && (decide (0 ≤ n) || n == leastI)) = true by rw [qn]; rfl) HTL.out (HBW.out.trans ((HBV.out.trans (Hb.out.mono HBV.out.size)).mono (by omega)))
set_option maxHeartbeats 4000000 in
set_option maxRecDepth 100000 in
theorem lT4b (n p : Int) (w : World) (hP : PwAt w) (h0 : ¬ 0 ≤ n) (h1 : (n == -9223372036854775808) = true) :
    Calls Tryd.prog 15 #[.agg #[.int .i8 4, .string ⟨#[]⟩, .int .i64 n, .int .i64 p]] w (TP ⟨4, ⟨#[]⟩, n, p⟩ w) := by
  obtain ⟨W, hW⟩ : ∃ W, W = w.alloc (.cells #[.int .i8 4, .string ⟨#[]⟩, .int .i64 n, .int .i64 p] 36) := ⟨_, rfl⟩
  have HBW := Lib.hid (show Below w.heap.size w W by rw [hW]; exact below_alloc _ _)
  have hsW : W.heap.size = w.heap.size + 1 := by rw [hW]; simp
  have hbk : w.heap.size < W.heap.size := by omega
  obtain ⟨x0, x1, x2, x3⟩ := four (show W.heap[w.heap.size]? = some (.cells #[.int .i8 4, .string ⟨#[]⟩, .int .i64 n, .int .i64 p] 36 (0, 0)) by rw [hW]; exact heap_alloc_new w _)
  obtain ⟨u, hU⟩ : ∃ u : Nat, u = (IntKind.u64.wrap n).toNat := ⟨_, rfl⟩
  have HWU := Lib.hid (show IntKind.u64.wrap n = (u : Int) by rw [hU, IntKind.wrap_u64]; omega)
  have hu : u < 18446744073709551616 := by rw [hU, IntKind.wrap_u64]; omega
  obtain ⟨l, hl⟩ : ∃ l : ByteArray, l = ⟨(Lib.decDigits u).toArray⟩ := ⟨_, rfl⟩
  have hls : l.size ≤ 20 := by rw [hl, ← size_bl]; exact dec_len u hu
  have HL := Lib.hid hl
  have HTL := Lib.hid (show tkL ⟨4, ⟨#[]⟩, n, p⟩ = bl l by rw [hl, hU]; rfl)
  have HPW := Lib.hid (hP.at HBW.out); clear hP hl hU
  have qn : decide (0 ≤ n) = false := decide_eq_false h0
  go_enter Tryd.func15, Tryd.ntmps15
  go_wp2_with fail
  rw [← hW]
  clear hW
  go_quiet (fail)
  go_wp2_with fail
  generalize hV : W.drewN _ = V
  have HBV := Lib.hid (show Below W.heap.size W V by rw [← hV]; exact below_drewN _ _)
  have v0 := (HBV.out.cell (p := ⟨w.heap.size, 0, none⟩) hbk).trans x0
  have v1 := (HBV.out.cell (p := ⟨w.heap.size, 1, none⟩) hbk).trans x1
  have v2 := (HBV.out.cell (p := ⟨w.heap.size, 2, none⟩) hbk).trans x2
  have v3 := (HBV.out.cell (p := ⟨w.heap.size, 3, none⟩) hbk).trans x3
  have hbv : w.heap.size < V.heap.size := by have := HBV.out.size; omega
  clear x0 x1 x2 x3 hV
  first | go_region_with (first
      | (go_at_call 35
         first | rw [HWU.out] | skip
         refine (sFormat u hu V.drew (HPW.out.at (HBV.out.drew))).mono ?_
         rintro r w1 ⟨rfl, hb⟩
         rw [← HL.out]
         have y1 := (hb.cell (p := ⟨w.heap.size, 1, none⟩) hbv).trans v1
         have y2 := (hb.cell (p := ⟨w.heap.size, 2, none⟩) hbv).trans v2
         have Hb := Lib.hid (show Below V.heap.size V w1 from ⟨hb.os, hb.tape, hb.output, hb.size, hb.block⟩)
         clear hb)) | fail
  all_goals
    clear v0 v1 v2 v3
    go_wp2_with fail
    go_ret2
    exact TP.ok (show ((bl ⟨#[]⟩).isEmpty && (decide (0 ≤ n) || n == leastI)) = true by rw [qn, show (n == leastI) = true from h1]; rfl) HTL.out (HBW.out.trans ((HBV.out.trans (Hb.out.mono HBV.out.size)).mono (by omega)))
set_option maxHeartbeats 4000000 in
set_option maxRecDepth 100000 in
theorem lT4c (n p : Int) (w : World) (hP : PwAt w) (h0 : ¬ 0 ≤ n) (h1 : (n == -9223372036854775808) = false) :
    Calls Tryd.prog 15 #[.agg #[.int .i8 4, .string ⟨#[]⟩, .int .i64 n, .int .i64 p]] w (TP ⟨4, ⟨#[]⟩, n, p⟩ w) := by
  obtain ⟨W, hW⟩ : ∃ W, W = w.alloc (.cells #[.int .i8 4, .string ⟨#[]⟩, .int .i64 n, .int .i64 p] 36) := ⟨_, rfl⟩
  have HBW := Lib.hid (show Below w.heap.size w W by rw [hW]; exact below_alloc _ _)
  have hsW : W.heap.size = w.heap.size + 1 := by rw [hW]; simp
  have hbk : w.heap.size < W.heap.size := by omega
  obtain ⟨x0, x1, x2, x3⟩ := four (show W.heap[w.heap.size]? = some (.cells #[.int .i8 4, .string ⟨#[]⟩, .int .i64 n, .int .i64 p] 36 (0, 0)) by rw [hW]; exact heap_alloc_new w _)
  obtain ⟨u, hU⟩ : ∃ u : Nat, u = (IntKind.u64.wrap n).toNat := ⟨_, rfl⟩
  have HWU := Lib.hid (show IntKind.u64.wrap n = (u : Int) by rw [hU, IntKind.wrap_u64]; omega)
  have hu : u < 18446744073709551616 := by rw [hU, IntKind.wrap_u64]; omega
  obtain ⟨l, hl⟩ : ∃ l : ByteArray, l = ⟨(Lib.decDigits u).toArray⟩ := ⟨_, rfl⟩
  have hls : l.size ≤ 20 := by rw [hl, ← size_bl]; exact dec_len u hu
  have HL := Lib.hid hl
  have HTL := Lib.hid (show tkL ⟨4, ⟨#[]⟩, n, p⟩ = bl l by rw [hl, hU]; rfl)
  have HPW := Lib.hid (hP.at HBW.out); clear hP hl hU
  have qn : decide (0 ≤ n) = false := decide_eq_false h0
  go_enter Tryd.func15, Tryd.ntmps15
  go_wp2_with fail
  rw [← hW]
  clear hW
  go_quiet (fail)
  go_wp2_with fail
  generalize hV : W.drewN _ = V
  have HBV := Lib.hid (show Below W.heap.size W V by rw [← hV]; exact below_drewN _ _)
  have v0 := (HBV.out.cell (p := ⟨w.heap.size, 0, none⟩) hbk).trans x0
  have v1 := (HBV.out.cell (p := ⟨w.heap.size, 1, none⟩) hbk).trans x1
  have v2 := (HBV.out.cell (p := ⟨w.heap.size, 2, none⟩) hbk).trans x2
  have v3 := (HBV.out.cell (p := ⟨w.heap.size, 3, none⟩) hbk).trans x3
  have hbv : w.heap.size < V.heap.size := by have := HBV.out.size; omega
  clear x0 x1 x2 x3 hV
  first | go_region_with (first
      | (go_at_call 35
         first | rw [HWU.out] | skip
         refine (sFormat u hu V.drew (HPW.out.at (HBV.out.drew))).mono ?_
         rintro r w1 ⟨rfl, hb⟩
         rw [← HL.out]
         have y1 := (hb.cell (p := ⟨w.heap.size, 1, none⟩) hbv).trans v1
         have y2 := (hb.cell (p := ⟨w.heap.size, 2, none⟩) hbv).trans v2
         have Hb := Lib.hid (show Below V.heap.size V w1 from ⟨hb.os, hb.tape, hb.output, hb.size, hb.block⟩)
         clear hb)) | fail
  all_goals
    clear v0 v1 v2 v3
    go_wp2_with fail
    go_ret2
    exact TP.no (show ((bl ⟨#[]⟩).isEmpty && (decide (0 ≤ n) || n == leastI)) = false by rw [qn, show (n == leastI) = false from h1]; rfl) (HBW.out.trans ((HBV.out.trans (Hb.out.mono HBV.out.size)).mono (by omega)))
set_option maxHeartbeats 4000000 in
set_option maxRecDepth 100000 in
theorem lT4d (t : ByteArray) (n p : Int) (w : World) (hP : PwAt w) (ht : t.size ≠ 0) :
    Calls Tryd.prog 15 #[.agg #[.int .i8 4, .string t, .int .i64 n, .int .i64 p]] w (TP ⟨4, t, n, p⟩ w) := by
  obtain ⟨W, hW⟩ : ∃ W, W = w.alloc (.cells #[.int .i8 4, .string t, .int .i64 n, .int .i64 p] 36) := ⟨_, rfl⟩
  have HBW := Lib.hid (show Below w.heap.size w W by rw [hW]; exact below_alloc _ _)
  have hsW : W.heap.size = w.heap.size + 1 := by rw [hW]; simp
  have hbk : w.heap.size < W.heap.size := by omega
  obtain ⟨x0, x1, x2, x3⟩ := four (show W.heap[w.heap.size]? = some (.cells #[.int .i8 4, .string t, .int .i64 n, .int .i64 p] 36 (0, 0)) by rw [hW]; exact heap_alloc_new w _)
  obtain ⟨u, hU⟩ : ∃ u : Nat, u = (IntKind.u64.wrap n).toNat := ⟨_, rfl⟩
  have HWU := Lib.hid (show IntKind.u64.wrap n = (u : Int) by rw [hU, IntKind.wrap_u64]; omega)
  have hu : u < 18446744073709551616 := by rw [hU, IntKind.wrap_u64]; omega
  obtain ⟨l, hl⟩ : ∃ l : ByteArray, l = ⟨(Lib.decDigits u).toArray⟩ := ⟨_, rfl⟩
  have hls : l.size ≤ 20 := by rw [hl, ← size_bl]; exact dec_len u hu
  have HL := Lib.hid hl
  have HTL := Lib.hid (show tkL ⟨4, t, n, p⟩ = bl l by rw [hl, hU]; rfl)
  have HPW := Lib.hid (hP.at HBW.out); clear hP hl hU
  have g := empty_b ht
  have HG := Lib.hid (empty_bl ht); clear ht
  go_enter Tryd.func15, Tryd.ntmps15
  go_wp2_with fail
  rw [← hW]
  clear hW
  go_quiet (fail)
  go_wp2_with fail
  generalize hV : W.drewN _ = V
  have HBV := Lib.hid (show Below W.heap.size W V by rw [← hV]; exact below_drewN _ _)
  have v0 := (HBV.out.cell (p := ⟨w.heap.size, 0, none⟩) hbk).trans x0
  have v1 := (HBV.out.cell (p := ⟨w.heap.size, 1, none⟩) hbk).trans x1
  have v2 := (HBV.out.cell (p := ⟨w.heap.size, 2, none⟩) hbk).trans x2
  have v3 := (HBV.out.cell (p := ⟨w.heap.size, 3, none⟩) hbk).trans x3
  have hbv : w.heap.size < V.heap.size := by have := HBV.out.size; omega
  clear x0 x1 x2 x3 hV
  have hun : undef = Value.tuple #[] := rfl
  first | go_region_with (first
      | (go_at_call 35
         first | rw [HWU.out] | skip
         refine (sFormat u hu V.drew (HPW.out.at (HBV.out.drew))).mono ?_
         rintro r w1 ⟨rfl, hb⟩
         rw [← HL.out]
         have y1 := (hb.cell (p := ⟨w.heap.size, 1, none⟩) hbv).trans v1
         have y2 := (hb.cell (p := ⟨w.heap.size, 2, none⟩) hbv).trans v2
         have Hb := Lib.hid (show Below V.heap.size V w1 from ⟨hb.os, hb.tape, hb.output, hb.size, hb.block⟩)
         clear hb)) | fail
  all_goals
    clear v0 v1 v2 v3
    go_wp2_with fail
    go_ret2
    exact TP.no (show ((bl t).isEmpty && (decide (0 ≤ n) || n == leastI)) = false by rw [HG.out]; rfl) (HBW.out.trans ((HBV.out.trans (Hb.out.mono HBV.out.size)).mono (by omega)))
/-- lex.Text at every token. -/
theorem lText (x : Tk) (w : World) (ht : x.t.size ≤ maxLen) (hK : KwAt w) (hG : SgAt w) (hP : PwAt w) :
    Calls Tryd.prog 15 #[x.agg] w (TP x w) := by
  obtain ⟨k, t, n, p⟩ := x
  show Calls Tryd.prog 15 #[.agg #[.int .i8 k, .string t, .int .i64 n, .int .i64 p]] w (TP ⟨k, t, n, p⟩ w)
  simp only at ht
  have hn : n = 0 ∨ (n == 0) = false := by by_cases h : n = 0; exact .inl h; exact .inr (beq_eq_false_iff_ne.2 h)
  have hs : t = ⟨#[]⟩ ∨ t.size ≠ 0 := by by_cases h : t.size = 0; exact .inl (nil_of_size h); exact .inr h
  rcases h1 : (k == 1) with _ | _
  · rcases h2 : (k == 2) with _ | _
    · rcases h6 : (k == 6) with _ | _
      · rcases h7 : (k == 7) with _ | _
        · rcases h3 : (k == 3) with _ | _
          · rcases h4 : (k == 4) with _ | _
            · rcases h5 : (k == 5) with _ | _
              · rcases h8 : (k == 8) with _ | _
                · exact lT0 k t n p w h1 h2 h3 h4 h5 h6 h7 h8
                · obtain rfl := beq_iff_eq.1 h8
                  rcases hn with rfl | hn
                  · rcases hs with rfl | hs
                    · exact lT8e p w
                    · exact lT8f t p w hs
                  · exact lT8n t n p w hn
              · obtain rfl := beq_iff_eq.1 h5
                rcases hn with rfl | hn
                · by_cases h : t.size ≤ 200
                  · exact lT5 t p w h
                  · exact lT5f t p w (by omega)
                · exact lT5n t n p w hn
            · obtain rfl := beq_iff_eq.1 h4
              rcases hs with rfl | hs
              · by_cases h0 : 0 ≤ n
                · exact lT4a n p w hP h0
                · rcases h : (n == -9223372036854775808) with _ | _
                  · exact lT4c n p w hP h0 h
                  · exact lT4b n p w hP h0 h
              · exact lT4d t n p w hP hs
          · obtain rfl := beq_iff_eq.1 h3
            rcases hn with rfl | hn
            · rcases hs with rfl | hs
              · exact lT3e p w
              · exact lT3f t p w hs
            · exact lT3n t n p w hn
        · obtain rfl := beq_iff_eq.1 h7
          rcases hn with rfl | hn
          · exact lT7 t p w ht hK hG
          · exact lT7n t n p w hn
      · obtain rfl := beq_iff_eq.1 h6
        rcases hn with rfl | hn
        · exact lT6 t p w ht hK hG
        · exact lT6n t n p w hn
    · obtain rfl := beq_iff_eq.1 h2
      rcases hn with rfl | hn
      · exact lT2 t p w ht hK hG
      · exact lT2n t n p w hn
  · obtain rfl := beq_iff_eq.1 h1
    rcases hn with rfl | hn
    · exact lT1 t p w ht hK hG
    · exact lT1n t n p w hn
end Go.Proofs.YtcigdlpljjkplaaDoor
