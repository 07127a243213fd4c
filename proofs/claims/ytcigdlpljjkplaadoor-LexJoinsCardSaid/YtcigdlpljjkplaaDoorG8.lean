/- The contract of the reference's Text at every token. Conditions: the text is one that its type holds. -/
import Derived.Test.YtcigdlpljjkplaaDoorG2
import Derived.Test.YtcigdlpljjkplaaDoorG4
import Derived.Test.YtcigdlpljjkplaaDoorG5
import Derived.Test.YtcigdlpljjkplaaDoorG7
namespace Go.Proofs.YtcigdlpljjkplaaDoor
open Go.RowKit

set_option maxHeartbeats 4000000 in
set_option maxRecDepth 100000 in
theorem kT1 (t : ByteArray) (p : Int) (w : World) (ht : t.size ≤ maxLen) :
    Calls Tryd.prog 16 #[.agg #[.int .i8 1, .string t, .int .i64 0, .int .i64 p]] w (TP ⟨1, t, 0, p⟩ w) := by
  obtain ⟨W, hW⟩ : ∃ W, W = w.alloc (.cells #[.int .i8 1, .string t, .int .i64 0, .int .i64 p] 36) := ⟨_, rfl⟩
  have HBW := Lib.hid (show Below w.heap.size w W by rw [hW]; exact below_alloc _ _)
  have hsW : W.heap.size = w.heap.size + 1 := by rw [hW]; simp
  have hbk : w.heap.size < W.heap.size := by omega
  obtain ⟨x0, x1, x2, x3⟩ := four (show W.heap[w.heap.size]? = some (.cells #[.int .i8 1, .string t, .int .i64 0, .int .i64 p] 36 (0, 0)) by rw [hW]; exact heap_alloc_new w _)
  obtain ⟨b, hb⟩ : ∃ b, b = nameB (bl t) := ⟨_, rfl⟩
  have HO := Lib.hid hb; clear hb
  go_enter Tryd.func16, Tryd.ntmps16
  go_wp2_with fail
  rw [← hW]
  clear hW
  refine (kName t _ ht).mono ?_
  rintro e w1 ⟨rfl, hb⟩
  rw [← HO.out, ← hb]
  clear hb
  have HB := HBW
  rcases b with _ | _
  · go_wp2_with fail
    go_ret2
    exact TP.no (show (0 == 0 && nameB (bl t)) = false by rw [← HO.out]; rfl) HB.out
  · go_wp2_with fail
    go_ret2
    exact TP.ok (show (0 == 0 && nameB (bl t)) = true by rw [← HO.out]; rfl) rfl HB.out
set_option maxHeartbeats 4000000 in
set_option maxRecDepth 100000 in
theorem kT2 (t : ByteArray) (p : Int) (w : World) (ht : t.size ≤ maxLen) :
    Calls Tryd.prog 16 #[.agg #[.int .i8 2, .string t, .int .i64 0, .int .i64 p]] w (TP ⟨2, t, 0, p⟩ w) := by
  obtain ⟨W, hW⟩ : ∃ W, W = w.alloc (.cells #[.int .i8 2, .string t, .int .i64 0, .int .i64 p] 36) := ⟨_, rfl⟩
  have HBW := Lib.hid (show Below w.heap.size w W by rw [hW]; exact below_alloc _ _)
  have hsW : W.heap.size = w.heap.size + 1 := by rw [hW]; simp
  have hbk : w.heap.size < W.heap.size := by omega
  obtain ⟨x0, x1, x2, x3⟩ := four (show W.heap[w.heap.size]? = some (.cells #[.int .i8 2, .string t, .int .i64 0, .int .i64 p] 36 (0, 0)) by rw [hW]; exact heap_alloc_new w _)
  obtain ⟨b, hb⟩ : ∃ b, b = varB (bl t) := ⟨_, rfl⟩
  have HO := Lib.hid hb; clear hb
  go_enter Tryd.func16, Tryd.ntmps16
  go_wp2_with fail
  rw [← hW]
  clear hW
  refine (kVariable t _ ht).mono ?_
  rintro e w1 ⟨rfl, hb⟩
  rw [← HO.out, ← hb]
  clear hb
  have HB := HBW
  rcases b with _ | _
  · go_wp2_with fail
    go_ret2
    exact TP.no (show (0 == 0 && varB (bl t)) = false by rw [← HO.out]; rfl) HB.out
  · go_wp2_with fail
    go_ret2
    exact TP.ok (show (0 == 0 && varB (bl t)) = true by rw [← HO.out]; rfl) rfl HB.out
set_option maxHeartbeats 4000000 in
set_option maxRecDepth 100000 in
theorem kT6 (t : ByteArray) (p : Int) (w : World) (_ht : t.size ≤ maxLen) :
    Calls Tryd.prog 16 #[.agg #[.int .i8 6, .string t, .int .i64 0, .int .i64 p]] w (TP ⟨6, t, 0, p⟩ w) := by
  obtain ⟨W, hW⟩ : ∃ W, W = w.alloc (.cells #[.int .i8 6, .string t, .int .i64 0, .int .i64 p] 36) := ⟨_, rfl⟩
  have HBW := Lib.hid (show Below w.heap.size w W by rw [hW]; exact below_alloc _ _)
  have hsW : W.heap.size = w.heap.size + 1 := by rw [hW]; simp
  have hbk : w.heap.size < W.heap.size := by omega
  obtain ⟨x0, x1, x2, x3⟩ := four (show W.heap[w.heap.size]? = some (.cells #[.int .i8 6, .string t, .int .i64 0, .int .i64 p] 36 (0, 0)) by rw [hW]; exact heap_alloc_new w _)
  obtain ⟨b, hb⟩ : ∃ b, b = kwB (bl t) := ⟨_, rfl⟩
  have HO := Lib.hid hb; clear hb
  go_enter Tryd.func16, Tryd.ntmps16
  go_wp2_with fail
  rw [← hW]
  clear hW
  refine (kKeyword t _).mono ?_
  rintro e w1 ⟨rfl, hb⟩
  rw [← HO.out, ← hb]
  clear hb
  have HB := HBW
  rcases b with _ | _
  · go_wp2_with fail
    go_ret2
    exact TP.no (show (0 == 0 && kwB (bl t)) = false by rw [← HO.out]; rfl) HB.out
  · go_wp2_with fail
    go_ret2
    exact TP.ok (show (0 == 0 && kwB (bl t)) = true by rw [← HO.out]; rfl) rfl HB.out
set_option maxHeartbeats 4000000 in
set_option maxRecDepth 100000 in
theorem kT7 (t : ByteArray) (p : Int) (w : World) (ht : t.size ≤ maxLen) :
    Calls Tryd.prog 16 #[.agg #[.int .i8 7, .string t, .int .i64 0, .int .i64 p]] w (TP ⟨7, t, 0, p⟩ w) := by
  obtain ⟨W, hW⟩ : ∃ W, W = w.alloc (.cells #[.int .i8 7, .string t, .int .i64 0, .int .i64 p] 36) := ⟨_, rfl⟩
  have HBW := Lib.hid (show Below w.heap.size w W by rw [hW]; exact below_alloc _ _)
  have hsW : W.heap.size = w.heap.size + 1 := by rw [hW]; simp
  have hbk : w.heap.size < W.heap.size := by omega
  obtain ⟨x0, x1, x2, x3⟩ := four (show W.heap[w.heap.size]? = some (.cells #[.int .i8 7, .string t, .int .i64 0, .int .i64 p] 36 (0, 0)) by rw [hW]; exact heap_alloc_new w _)
  obtain ⟨b, hb⟩ : ∃ b, b = signB (bl t) := ⟨_, rfl⟩
  have HO := Lib.hid hb; clear hb
  go_enter Tryd.func16, Tryd.ntmps16
  go_wp2_with fail
  rw [← hW]
  clear hW
  refine (kSign t _ ht).mono ?_
  rintro e w1 ⟨rfl, hb⟩
  rw [← HO.out]
  have y1 := (hb.cell (p := ⟨w.heap.size, 1, none⟩) hbk).trans x1
  have HB := Lib.hid (HBW.out.trans (hb.mono (by omega))); clear hb
  rcases b with _ | _
  · go_wp2_with fail
    go_ret2
    exact TP.no (show (0 == 0 && signB (bl t)) = false by rw [← HO.out]; rfl) HB.out
  · go_wp2_with fail
    go_ret2
    exact TP.ok (show (0 == 0 && signB (bl t)) = true by rw [← HO.out]; rfl) rfl HB.out
set_option maxHeartbeats 4000000 in
set_option maxRecDepth 100000 in
theorem kTn (k : Int) (t : ByteArray) (n p : Int) (w : World) (h4 : (k == 4) = false) (qn : (n == 0) = false) :
    Calls Tryd.prog 16 #[.agg #[.int .i8 k, .string t, .int .i64 n, .int .i64 p]] w (TP ⟨k, t, n, p⟩ w) := by
  obtain ⟨W, hW⟩ : ∃ W, W = w.alloc (.cells #[.int .i8 k, .string t, .int .i64 n, .int .i64 p] 36) := ⟨_, rfl⟩
  have HBW := Lib.hid (show Below w.heap.size w W by rw [hW]; exact below_alloc _ _)
  have hsW : W.heap.size = w.heap.size + 1 := by rw [hW]; simp
  have hbk : w.heap.size < W.heap.size := by omega
  obtain ⟨x0, x1, x2, x3⟩ := four (show W.heap[w.heap.size]? = some (.cells #[.int .i8 k, .string t, .int .i64 n, .int .i64 p] 36 (0, 0)) by rw [hW]; exact heap_alloc_new w _)
  have HN := Lib.hid (show tkOk ⟨k, t, n, p⟩ = false by
    simp only [tkOk]
    have h : ¬ k = 4 := by simpa using h4
    simp only [qn, Bool.false_and, if_neg h, ite_self])
  have h4m : (k != 4) = true := by simpa using h4
  have h4n : ¬ k = 4 := by simpa using h4
  go_enter Tryd.func16, Tryd.ntmps16
  go_wp2_with fail
  rw [← hW]
  clear hW
  go_ret2
  exact TP.no HN.out HBW.out
set_option maxHeartbeats 4000000 in
set_option maxRecDepth 100000 in
theorem kT3e (p : Int) (w : World) :
    Calls Tryd.prog 16 #[.agg #[.int .i8 3, .string ⟨#[]⟩, .int .i64 0, .int .i64 p]] w (TP ⟨3, ⟨#[]⟩, 0, p⟩ w) := by
  obtain ⟨W, hW⟩ : ∃ W, W = w.alloc (.cells #[.int .i8 3, .string ⟨#[]⟩, .int .i64 0, .int .i64 p] 36) := ⟨_, rfl⟩
  have HBW := Lib.hid (show Below w.heap.size w W by rw [hW]; exact below_alloc _ _)
  have hsW : W.heap.size = w.heap.size + 1 := by rw [hW]; simp
  have hbk : w.heap.size < W.heap.size := by omega
  obtain ⟨x0, x1, x2, x3⟩ := four (show W.heap[w.heap.size]? = some (.cells #[.int .i8 3, .string ⟨#[]⟩, .int .i64 0, .int .i64 p] 36 (0, 0)) by rw [hW]; exact heap_alloc_new w _)
  go_enter Tryd.func16, Tryd.ntmps16
  go_wp2_with fail
  rw [← hW]
  clear hW
  go_ret2
  exact TP.ok rfl rfl HBW.out
set_option maxHeartbeats 4000000 in
set_option maxRecDepth 100000 in
theorem kT3f (t : ByteArray) (p : Int) (w : World) (ht : t.size ≠ 0) :
    Calls Tryd.prog 16 #[.agg #[.int .i8 3, .string t, .int .i64 0, .int .i64 p]] w (TP ⟨3, t, 0, p⟩ w) := by
  obtain ⟨W, hW⟩ : ∃ W, W = w.alloc (.cells #[.int .i8 3, .string t, .int .i64 0, .int .i64 p] 36) := ⟨_, rfl⟩
  have HBW := Lib.hid (show Below w.heap.size w W by rw [hW]; exact below_alloc _ _)
  have hsW : W.heap.size = w.heap.size + 1 := by rw [hW]; simp
  have hbk : w.heap.size < W.heap.size := by omega
  obtain ⟨x0, x1, x2, x3⟩ := four (show W.heap[w.heap.size]? = some (.cells #[.int .i8 3, .string t, .int .i64 0, .int .i64 p] 36 (0, 0)) by rw [hW]; exact heap_alloc_new w _)
  have g := empty_b ht
  have HG := Lib.hid (empty_bl ht); clear ht
  go_enter Tryd.func16, Tryd.ntmps16
  go_wp2_with fail
  rw [← hW]
  clear hW
  go_ret2
  exact TP.no (show (0 == 0 && (bl t).isEmpty) = false by rw [HG.out]; rfl) HBW.out
set_option maxHeartbeats 4000000 in
set_option maxRecDepth 100000 in
theorem kT8e (p : Int) (w : World) :
    Calls Tryd.prog 16 #[.agg #[.int .i8 8, .string ⟨#[]⟩, .int .i64 0, .int .i64 p]] w (TP ⟨8, ⟨#[]⟩, 0, p⟩ w) := by
  obtain ⟨W, hW⟩ : ∃ W, W = w.alloc (.cells #[.int .i8 8, .string ⟨#[]⟩, .int .i64 0, .int .i64 p] 36) := ⟨_, rfl⟩
  have HBW := Lib.hid (show Below w.heap.size w W by rw [hW]; exact below_alloc _ _)
  have hsW : W.heap.size = w.heap.size + 1 := by rw [hW]; simp
  have hbk : w.heap.size < W.heap.size := by omega
  obtain ⟨x0, x1, x2, x3⟩ := four (show W.heap[w.heap.size]? = some (.cells #[.int .i8 8, .string ⟨#[]⟩, .int .i64 0, .int .i64 p] 36 (0, 0)) by rw [hW]; exact heap_alloc_new w _)
  go_enter Tryd.func16, Tryd.ntmps16
  go_wp2_with fail
  rw [← hW]
  clear hW
  go_ret2
  exact TP.ok rfl rfl HBW.out
set_option maxHeartbeats 4000000 in
set_option maxRecDepth 100000 in
theorem kT8f (t : ByteArray) (p : Int) (w : World) (ht : t.size ≠ 0) :
    Calls Tryd.prog 16 #[.agg #[.int .i8 8, .string t, .int .i64 0, .int .i64 p]] w (TP ⟨8, t, 0, p⟩ w) := by
  obtain ⟨W, hW⟩ : ∃ W, W = w.alloc (.cells #[.int .i8 8, .string t, .int .i64 0, .int .i64 p] 36) := ⟨_, rfl⟩
  have HBW := Lib.hid (show Below w.heap.size w W by rw [hW]; exact below_alloc _ _)
  have hsW : W.heap.size = w.heap.size + 1 := by rw [hW]; simp
  have hbk : w.heap.size < W.heap.size := by omega
  obtain ⟨x0, x1, x2, x3⟩ := four (show W.heap[w.heap.size]? = some (.cells #[.int .i8 8, .string t, .int .i64 0, .int .i64 p] 36 (0, 0)) by rw [hW]; exact heap_alloc_new w _)
  have g := empty_b ht
  have HG := Lib.hid (empty_bl ht); clear ht
  go_enter Tryd.func16, Tryd.ntmps16
  go_wp2_with fail
  rw [← hW]
  clear hW
  go_ret2
  exact TP.no (show (0 == 0 && (bl t).isEmpty) = false by rw [HG.out]; rfl) HBW.out
set_option maxHeartbeats 4000000 in
set_option maxRecDepth 100000 in
theorem kT5f (t : ByteArray) (p : Int) (w : World) (ht : 200 < t.size) :
    Calls Tryd.prog 16 #[.agg #[.int .i8 5, .string t, .int .i64 0, .int .i64 p]] w (TP ⟨5, t, 0, p⟩ w) := by
  obtain ⟨W, hW⟩ : ∃ W, W = w.alloc (.cells #[.int .i8 5, .string t, .int .i64 0, .int .i64 p] 36) := ⟨_, rfl⟩
  have HBW := Lib.hid (show Below w.heap.size w W by rw [hW]; exact below_alloc _ _)
  have hsW : W.heap.size = w.heap.size + 1 := by rw [hW]; simp
  have hbk : w.heap.size < W.heap.size := by omega
  obtain ⟨x0, x1, x2, x3⟩ := four (show W.heap[w.heap.size]? = some (.cells #[.int .i8 5, .string t, .int .i64 0, .int .i64 p] 36 (0, 0)) by rw [hW]; exact heap_alloc_new w _)
  have q : decide ((t.size : Int) ≤ 200) = false := decide_eq_false (by omega)
  have HG := Lib.hid (show decide (t.size ≤ 200) = false from decide_eq_false (by omega)); clear ht
  go_enter Tryd.func16, Tryd.ntmps16
  go_wp2_with fail
  rw [← hW]
  clear hW
  go_ret2
  exact TP.no (show (0 == 0 && decide (t.size ≤ 200)) = false by rw [HG.out]; rfl) HBW.out
set_option maxHeartbeats 4000000 in
set_option maxRecDepth 100000 in
theorem kT5 (t : ByteArray) (p : Int) (w : World) (ht : t.size ≤ 200) :
    Calls Tryd.prog 16 #[.agg #[.int .i8 5, .string t, .int .i64 0, .int .i64 p]] w (TP ⟨5, t, 0, p⟩ w) := by
  obtain ⟨W, hW⟩ : ∃ W, W = w.alloc (.cells #[.int .i8 5, .string t, .int .i64 0, .int .i64 p] 36) := ⟨_, rfl⟩
  have HBW := Lib.hid (show Below w.heap.size w W by rw [hW]; exact below_alloc _ _)
  have hsW : W.heap.size = w.heap.size + 1 := by rw [hW]; simp
  have hbk : w.heap.size < W.heap.size := by omega
  obtain ⟨x0, x1, x2, x3⟩ := four (show W.heap[w.heap.size]? = some (.cells #[.int .i8 5, .string t, .int .i64 0, .int .i64 p] 36 (0, 0)) by rw [hW]; exact heap_alloc_new w _)
  have q : decide ((t.size : Int) ≤ 200) = true := decide_eq_true (by omega)
  have HG := Lib.hid (show decide (t.size ≤ 200) = true from decide_eq_true (by omega))
  have HT := Lib.hid ht; clear ht
  go_enter Tryd.func16, Tryd.ntmps16
  go_wp2_with fail
  rw [← hW]
  clear hW
  refine (kQuoted t _ HT.out).mono ?_
  rintro r w1 ⟨rfl, hb⟩
  have Hb := Lib.hid (HBW.out.trans (hb.mono (by omega))); clear hb
  go_wp2_with fail
  go_ret2
  exact TP.ok (show (0 == 0 && decide (t.size ≤ 200)) = true by rw [HG.out]; rfl) rfl Hb.out
set_option maxHeartbeats 4000000 in
set_option maxRecDepth 100000 in
theorem kT0 (k : Int) (t : ByteArray) (p : Int) (w : World) (h1 : (k == 1) = false) (h2 : (k == 2) = false) (h3 : (k == 3) = false) (h4 : (k == 4) = false) (h5 : (k == 5) = false) (h6 : (k == 6) = false) (h7 : (k == 7) = false) (h8 : (k == 8) = false) :
    Calls Tryd.prog 16 #[.agg #[.int .i8 k, .string t, .int .i64 0, .int .i64 p]] w (TP ⟨k, t, 0, p⟩ w) := by
  obtain ⟨W, hW⟩ : ∃ W, W = w.alloc (.cells #[.int .i8 k, .string t, .int .i64 0, .int .i64 p] 36) := ⟨_, rfl⟩
  have HBW := Lib.hid (show Below w.heap.size w W by rw [hW]; exact below_alloc _ _)
  have hsW : W.heap.size = w.heap.size + 1 := by rw [hW]; simp
  have hbk : w.heap.size < W.heap.size := by omega
  obtain ⟨x0, x1, x2, x3⟩ := four (show W.heap[w.heap.size]? = some (.cells #[.int .i8 k, .string t, .int .i64 0, .int .i64 p] 36 (0, 0)) by rw [hW]; exact heap_alloc_new w _)
  have HN := Lib.hid (show tkOk ⟨k, t, 0, p⟩ = false by
    simp only [tkOk]
    rw [if_neg (by simpa using h1), if_neg (by simpa using h2), if_neg (by simpa using h6), if_neg (by simpa using h7), if_neg (by simpa using h3), if_neg (by simpa using h4), if_neg (by simpa using h5), if_neg (by simpa using h8)])
  have h4m : (k != 4) = true := by simpa using h4
  have h4n : ¬ k = 4 := by simpa using h4
  go_enter Tryd.func16, Tryd.ntmps16
  go_wp2_with fail
  rw [← hW]
  clear hW
  go_ret2
  exact TP.no HN.out HBW.out
set_option maxHeartbeats 4000000 in
set_option maxRecDepth 100000 in
theorem kT4d (t : ByteArray) (n p : Int) (w : World) (ht : t.size ≠ 0) :
    Calls Tryd.prog 16 #[.agg #[.int .i8 4, .string t, .int .i64 n, .int .i64 p]] w (TP ⟨4, t, n, p⟩ w) := by
  obtain ⟨W, hW⟩ : ∃ W, W = w.alloc (.cells #[.int .i8 4, .string t, .int .i64 n, .int .i64 p] 36) := ⟨_, rfl⟩
  have HBW := Lib.hid (show Below w.heap.size w W by rw [hW]; exact below_alloc _ _)
  have hsW : W.heap.size = w.heap.size + 1 := by rw [hW]; simp
  have hbk : w.heap.size < W.heap.size := by omega
  obtain ⟨x0, x1, x2, x3⟩ := four (show W.heap[w.heap.size]? = some (.cells #[.int .i8 4, .string t, .int .i64 n, .int .i64 p] 36 (0, 0)) by rw [hW]; exact heap_alloc_new w _)
  have g := empty_b ht
  have HG := Lib.hid (empty_bl ht); clear ht
  go_enter Tryd.func16, Tryd.ntmps16
  go_wp2_with fail
  rw [← hW]
  clear hW
  go_ret2
  exact TP.no (show ((bl t).isEmpty && (decide (0 ≤ n) || n == leastI)) = false by rw [HG.out]; rfl) HBW.out
set_option maxHeartbeats 4000000 in
set_option maxRecDepth 100000 in
theorem kT4c (n p : Int) (w : World) (h0 : ¬ 0 ≤ n) (h1 : (n == -9223372036854775808) = false) :
    Calls Tryd.prog 16 #[.agg #[.int .i8 4, .string ⟨#[]⟩, .int .i64 n, .int .i64 p]] w (TP ⟨4, ⟨#[]⟩, n, p⟩ w) := by
  obtain ⟨W, hW⟩ : ∃ W, W = w.alloc (.cells #[.int .i8 4, .string ⟨#[]⟩, .int .i64 n, .int .i64 p] 36) := ⟨_, rfl⟩
  have HBW := Lib.hid (show Below w.heap.size w W by rw [hW]; exact below_alloc _ _)
  have hsW : W.heap.size = w.heap.size + 1 := by rw [hW]; simp
  have hbk : w.heap.size < W.heap.size := by omega
  obtain ⟨x0, x1, x2, x3⟩ := four (show W.heap[w.heap.size]? = some (.cells #[.int .i8 4, .string ⟨#[]⟩, .int .i64 n, .int .i64 p] 36 (0, 0)) by rw [hW]; exact heap_alloc_new w _)
  have qn : decide (0 ≤ n) = false := decide_eq_false h0
  go_enter Tryd.func16, Tryd.ntmps16
  go_wp2_with fail
  rw [← hW]
  clear hW
  go_ret2
  exact TP.no (show ((bl ⟨#[]⟩).isEmpty && (decide (0 ≤ n) || n == leastI)) = false by rw [qn, show (n == leastI) = false from h1]; rfl) HBW.out
set_option maxHeartbeats 4000000 in
set_option maxRecDepth 100000 in
theorem kT4a (n p : Int) (w : World) (h0 : 0 ≤ n) :
    Calls Tryd.prog 16 #[.agg #[.int .i8 4, .string ⟨#[]⟩, .int .i64 n, .int .i64 p]] w (TP ⟨4, ⟨#[]⟩, n, p⟩ w) := by
  obtain ⟨W, hW⟩ : ∃ W, W = w.alloc (.cells #[.int .i8 4, .string ⟨#[]⟩, .int .i64 n, .int .i64 p] 36) := ⟨_, rfl⟩
  have HBW := Lib.hid (show Below w.heap.size w W by rw [hW]; exact below_alloc _ _)
  have hsW : W.heap.size = w.heap.size + 1 := by rw [hW]; simp
  have hbk : w.heap.size < W.heap.size := by omega
  obtain ⟨x0, x1, x2, x3⟩ := four (show W.heap[w.heap.size]? = some (.cells #[.int .i8 4, .string ⟨#[]⟩, .int .i64 n, .int .i64 p] 36 (0, 0)) by rw [hW]; exact heap_alloc_new w _)
  obtain ⟨u, hU⟩ : ∃ u : Nat, u = (IntKind.u64.wrap n).toNat := ⟨_, rfl⟩
  have HWU := Lib.hid (show IntKind.u64.wrap n = (u : Int) by rw [hU, IntKind.wrap_u64]; omega)
  have hu : u < 18446744073709551616 := by rw [hU, IntKind.wrap_u64]; omega
  obtain ⟨l, hl⟩ : ∃ l : ByteArray, l = ⟨(Lib.decDigits u).toArray⟩ := ⟨_, rfl⟩
  have HL := Lib.hid hl
  have HTL := Lib.hid (show tkL ⟨4, ⟨#[]⟩, n, p⟩ = bl l by rw [hl, hU]; rfl)
  clear hl hU
  have qn : decide (0 ≤ n) = true := decide_eq_true h0
  go_enter Tryd.func16, Tryd.ntmps16
  go_wp2_with fail
  rw [← hW]
  clear hW
  first | rw [HWU.out] | skip
  refine (kDecimal u hu _).mono ?_
  rintro r w1 ⟨rfl, hb⟩
  rw [← HL.out]
  have Hb := Lib.hid (HBW.out.trans (hb.mono (by omega))); clear hb
  go_wp2_with fail
  go_ret2
  exact TP.ok (show ((bl ⟨#[]⟩).isEmpty && (decide (0 ≤ n) || n == leastI)) = true by rw [qn]; rfl) HTL.out Hb.out
set_option maxHeartbeats 4000000 in
set_option maxRecDepth 100000 in
theorem kT4b (n p : Int) (w : World) (h0 : ¬ 0 ≤ n) (h1 : (n == -9223372036854775808) = true) :
    Calls Tryd.prog 16 #[.agg #[.int .i8 4, .string ⟨#[]⟩, .int .i64 n, .int .i64 p]] w (TP ⟨4, ⟨#[]⟩, n, p⟩ w) := by
  obtain ⟨W, hW⟩ : ∃ W, W = w.alloc (.cells #[.int .i8 4, .string ⟨#[]⟩, .int .i64 n, .int .i64 p] 36) := ⟨_, rfl⟩
  have HBW := Lib.hid (show Below w.heap.size w W by rw [hW]; exact below_alloc _ _)
  have hsW : W.heap.size = w.heap.size + 1 := by rw [hW]; simp
  have hbk : w.heap.size < W.heap.size := by omega
  obtain ⟨x0, x1, x2, x3⟩ := four (show W.heap[w.heap.size]? = some (.cells #[.int .i8 4, .string ⟨#[]⟩, .int .i64 n, .int .i64 p] 36 (0, 0)) by rw [hW]; exact heap_alloc_new w _)
  obtain ⟨u, hU⟩ : ∃ u : Nat, u = (IntKind.u64.wrap n).toNat := ⟨_, rfl⟩
  have HWU := Lib.hid (show IntKind.u64.wrap n = (u : Int) by rw [hU, IntKind.wrap_u64]; omega)
  have hu : u < 18446744073709551616 := by rw [hU, IntKind.wrap_u64]; omega
  obtain ⟨l, hl⟩ : ∃ l : ByteArray, l = ⟨(Lib.decDigits u).toArray⟩ := ⟨_, rfl⟩
  have HL := Lib.hid hl
  have HTL := Lib.hid (show tkL ⟨4, ⟨#[]⟩, n, p⟩ = bl l by rw [hl, hU]; rfl)
  clear hl hU
  have qn : decide (0 ≤ n) = false := decide_eq_false h0
  go_enter Tryd.func16, Tryd.ntmps16
  go_wp2_with fail
  rw [← hW]
  clear hW
  first | rw [HWU.out] | skip
  refine (kDecimal u hu _).mono ?_
  rintro r w1 ⟨rfl, hb⟩
  rw [← HL.out]
  have Hb := Lib.hid (HBW.out.trans (hb.mono (by omega))); clear hb
  go_wp2_with fail
  go_ret2
  exact TP.ok (show ((bl ⟨#[]⟩).isEmpty && (decide (0 ≤ n) || n == leastI)) = true by rw [qn, show (n == leastI) = true from h1]; rfl) HTL.out Hb.out
/-- The reference's Text at every token. -/
theorem kText (x : Tk) (w : World) (ht : x.t.size ≤ maxLen) :
    Calls Tryd.prog 16 #[x.agg] w (TP x w) := by
  obtain ⟨k, t, n, p⟩ := x
  show Calls Tryd.prog 16 #[.agg #[.int .i8 k, .string t, .int .i64 n, .int .i64 p]] w (TP ⟨k, t, n, p⟩ w)
  simp only at ht
  have hn : n = 0 ∨ (n == 0) = false := by by_cases h : n = 0; exact .inl h; exact .inr (beq_eq_false_iff_ne.2 h)
  have hs : t = ⟨#[]⟩ ∨ t.size ≠ 0 := by by_cases h : t.size = 0; exact .inl (nil_of_size h); exact .inr h
  rcases h4 : (k == 4) with _ | _
  · rcases hn with rfl | hn
    · rcases h1 : (k == 1) with _ | _
      · rcases h2 : (k == 2) with _ | _
        · rcases h6 : (k == 6) with _ | _
          · rcases h7 : (k == 7) with _ | _
            · rcases h3 : (k == 3) with _ | _
              · rcases h5 : (k == 5) with _ | _
                · rcases h8 : (k == 8) with _ | _
                  · exact kT0 k t p w h1 h2 h3 h4 h5 h6 h7 h8
                  · obtain rfl := beq_iff_eq.1 h8
                    rcases hs with rfl | hs
                    · exact kT8e p w
                    · exact kT8f t p w hs
                · obtain rfl := beq_iff_eq.1 h5
                  by_cases h : t.size ≤ 200
                  · exact kT5 t p w h
                  · exact kT5f t p w (by omega)
              · obtain rfl := beq_iff_eq.1 h3
                rcases hs with rfl | hs
                · exact kT3e p w
                · exact kT3f t p w hs
            · obtain rfl := beq_iff_eq.1 h7
              exact kT7 t p w ht
          · obtain rfl := beq_iff_eq.1 h6
            exact kT6 t p w ht
        · obtain rfl := beq_iff_eq.1 h2
          exact kT2 t p w ht
      · obtain rfl := beq_iff_eq.1 h1
        exact kT1 t p w ht
    · exact kTn k t n p w h4 hn
  · obtain rfl := beq_iff_eq.1 h4
    rcases hs with rfl | hs
    · by_cases h0 : 0 ≤ n
      · exact kT4a n p w h0
      · rcases h : (n == -9223372036854775808) with _ | _
        · exact kT4c n p w h0 h
        · exact kT4b n p w h0 h
    · exact kT4d t n p w hs
end Go.Proofs.YtcigdlpljjkplaaDoor
