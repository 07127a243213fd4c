/- The contract of lex.Text at every token. Conditions: the tables lie as the program lays them. -/
import Derived.Test.YtcigdlpljjkplaaDoorG1
import Derived.Test.YtcigdlpljjkplaaDoorG3
namespace Go.Proofs.YtcigdlpljjkplaaDoor
open Go.RowKit

/-- What Text answers. -/
def txR (x : Tk) : Value := if tkOk x then .tuple #[.string ⟨(tkL x).toArray⟩, .int .i64 0] else .tuple #[.string ⟨#[]⟩, .int .i64 1]
theorem tx_t {x : Tk} {s : ByteArray} (h : tkOk x = true) (hl : tkL x = bl s) : Value.tuple #[.string s, .int .i64 0] = txR x := by
  rw [txR, if_pos h, hl, str_eta]
theorem tx_f {x : Tk} (h : tkOk x = false) : Value.tuple #[.string ⟨#[]⟩, .int .i64 1] = txR x := by
  rw [txR, if_neg (by rw [h]; decide)]
def TP (x : Tk) (w : World) (e : Ending) (w' : World) : Prop := e = .returned (txR x) ∧ Below w.heap.size w w'
theorem TP.ok {x : Tk} {w w' : World} {s : ByteArray} (h : tkOk x = true) (hl : tkL x = bl s) (hb : Below w.heap.size w w') : TP x w (.returned (.tuple #[.string s, .int .i64 0])) w' :=
  ⟨by rw [tx_t h hl], hb⟩
theorem TP.no {x : Tk} {w w' : World} (h : tkOk x = false) (hb : Below w.heap.size w w') : TP x w (.returned (.tuple #[.string ⟨#[]⟩, .int .i64 1])) w' :=
  ⟨by rw [tx_f h], hb⟩
theorem nil_of_size {t : ByteArray} (h : t.size = 0) : t = ⟨#[]⟩ := str_at t [] (List.eq_nil_of_length_eq_zero (by rw [size_bl]; exact h))
theorem bl_empty (t : ByteArray) : (bl t).isEmpty = decide (t.size = 0) := by
  rw [Bool.eq_iff_iff, List.isEmpty_iff, decide_eq_true_iff, ← size_bl t]
  exact ⟨fun h => by rw [h]; rfl, List.eq_nil_of_length_eq_zero⟩
set_option maxHeartbeats 4000000 in
set_option maxRecDepth 100000 in
theorem lT1 (t : ByteArray) (p : Int) (w : World) (ht : t.size ≤ maxLen) (hK : KwAt w) (hG : SgAt w) :
    Calls Tryd.prog 15 #[.agg #[.int .i8 1, .string t, .int .i64 0, .int .i64 p]] w (TP ⟨1, t, 0, p⟩ w) := by
  obtain ⟨W, hW⟩ : ∃ W, W = w.alloc (.cells #[.int .i8 1, .string t, .int .i64 0, .int .i64 p] 36) := ⟨_, rfl⟩
  have HBW := Lib.hid (show Below w.heap.size w W by rw [hW]; exact below_alloc _ _)
  have hsW : W.heap.size = w.heap.size + 1 := by rw [hW]; simp
  have hbk : w.heap.size < W.heap.size := by omega
  obtain ⟨x0, x1, x2, x3⟩ := four (show W.heap[w.heap.size]? = some (.cells #[.int .i8 1, .string t, .int .i64 0, .int .i64 p] 36 (0, 0)) by rw [hW]; exact heap_alloc_new w _)
  have HK := Lib.hid (hK.at HBW.out); clear hK
  have HG := Lib.hid (hG.at HBW.out); clear hG
  obtain ⟨b, hb⟩ : ∃ b, b = nameB (bl t) := ⟨_, rfl⟩
  have HO := Lib.hid hb; clear hb
  go_enter Tryd.func15, Tryd.ntmps15
  go_wp2_with fail
  rw [← hW]
  clear hW
  go_quiet (fail)
  go_wp2_with fail
  generalize hV : W.drewN _ = V
  have HBV := Lib.hid (show Below W.heap.size W V by rw [← hV]; exact below_drewN _ _)
  have v0 := (HBV.out.cell (p := ⟨w.heap.size, 0, none⟩) hbk).trans x0
  have v1 := (HBV.out.cell (p := ⟨w.heap.size, 1, none⟩) hbk).trans x1
  have v2 := (HBV.out.cell (p := ⟨w.heap.size, 2, none⟩) hbk).trans x2
  have v3 := (HBV.out.cell (p := ⟨w.heap.size, 3, none⟩) hbk).trans x3
  have hbv : w.heap.size < V.heap.size := by have := HBV.out.size; omega
  clear x0 x1 x2 x3 hV
  go_region_held3 (fun w' => w'.cell? ⟨w.heap.size, 0, none⟩ = V.cell? ⟨w.heap.size, 0, none⟩ ∧ w'.cell? ⟨w.heap.size, 1, none⟩ = V.cell? ⟨w.heap.size, 1, none⟩ ∧ w'.cell? ⟨w.heap.size, 2, none⟩ = V.cell? ⟨w.heap.size, 2, none⟩ ∧ w'.cell? ⟨w.heap.size, 3, none⟩ = V.cell? ⟨w.heap.size, 3, none⟩)
    (first | exact ⟨rfl, rfl, rfl, rfl⟩ | exact ⟨Hb.out.cell hbv, Hb.out.cell hbv, Hb.out.cell hbv, Hb.out.cell hbv⟩)
    (first
      | (go_at_call 24
         refine (lName t _ ht (HK.out.at HBV.out.drew)).mono ?_
         rintro r w1 ⟨rfl, hb⟩
         rw [← HO.out]
         have Hb := Lib.hid (show Below V.heap.size V w1 from ⟨hb.os, hb.tape, hb.output, hb.size, hb.block⟩)
         clear hb))
  all_goals
    clear v0 v1 v2 v3
    rcases b with _ | _
    · go_wp2_with fail
      go_ret2
      exact TP.no (show (0 == 0 && nameB (bl t)) = false by rw [← HO.out]; rfl) (HBW.out.trans ((HBV.out.trans (Hb.out.mono HBV.out.size)).mono (by omega)))
    · go_wp2_with fail
      go_ret2
      exact TP.ok (show (0 == 0 && nameB (bl t)) = true by rw [← HO.out]; rfl) rfl (HBW.out.trans ((HBV.out.trans (Hb.out.mono HBV.out.size)).mono (by omega)))
set_option maxHeartbeats 4000000 in
set_option maxRecDepth 100000 in
theorem lT1n (t : ByteArray) (n p : Int) (w : World) (qn : (n == 0) = false) :
    Calls Tryd.prog 15 #[.agg #[.int .i8 1, .string t, .int .i64 n, .int .i64 p]] w (TP ⟨1, t, n, p⟩ w) := by
  obtain ⟨W, hW⟩ : ∃ W, W = w.alloc (.cells #[.int .i8 1, .string t, .int .i64 n, .int .i64 p] 36) := ⟨_, rfl⟩
  have HBW := Lib.hid (show Below w.heap.size w W by rw [hW]; exact below_alloc _ _)
  have hsW : W.heap.size = w.heap.size + 1 := by rw [hW]; simp
  have hbk : w.heap.size < W.heap.size := by omega
  obtain ⟨x0, x1, x2, x3⟩ := four (show W.heap[w.heap.size]? = some (.cells #[.int .i8 1, .string t, .int .i64 n, .int .i64 p] 36 (0, 0)) by rw [hW]; exact heap_alloc_new w _)
  go_enter Tryd.func15, Tryd.ntmps15
  go_wp2_with fail
  rw [← hW]
  clear hW
  go_quiet (fail)
  go_wp2_with fail
  go_quiet (fail)
  go_wp2_with fail
  go_ret2
  exact TP.no (show (n == 0 && nameB (bl t)) = false by rw [qn]; rfl) (HBW.out.trans (Below.mono (below_drewN W _) (by omega)))
set_option maxHeartbeats 4000000 in
set_option maxRecDepth 100000 in
theorem lT2 (t : ByteArray) (p : Int) (w : World) (ht : t.size ≤ maxLen) (hK : KwAt w) (hG : SgAt w) :
    Calls Tryd.prog 15 #[.agg #[.int .i8 2, .string t, .int .i64 0, .int .i64 p]] w (TP ⟨2, t, 0, p⟩ w) := by
  obtain ⟨W, hW⟩ : ∃ W, W = w.alloc (.cells #[.int .i8 2, .string t, .int .i64 0, .int .i64 p] 36) := ⟨_, rfl⟩
  have HBW := Lib.hid (show Below w.heap.size w W by rw [hW]; exact below_alloc _ _)
  have hsW : W.heap.size = w.heap.size + 1 := by rw [hW]; simp
  have hbk : w.heap.size < W.heap.size := by omega
  obtain ⟨x0, x1, x2, x3⟩ := four (show W.heap[w.heap.size]? = some (.cells #[.int .i8 2, .string t, .int .i64 0, .int .i64 p] 36 (0, 0)) by rw [hW]; exact heap_alloc_new w _)
  have HK := Lib.hid (hK.at HBW.out); clear hK
  have HG := Lib.hid (hG.at HBW.out); clear hG
  obtain ⟨b, hb⟩ : ∃ b, b = varB (bl t) := ⟨_, rfl⟩
  have HO := Lib.hid hb; clear hb
  go_enter Tryd.func15, Tryd.ntmps15
  go_wp2_with fail
  rw [← hW]
  clear hW
  go_quiet (fail)
  go_wp2_with fail
  generalize hV : W.drewN _ = V
  have HBV := Lib.hid (show Below W.heap.size W V by rw [← hV]; exact below_drewN _ _)
  have v0 := (HBV.out.cell (p := ⟨w.heap.size, 0, none⟩) hbk).trans x0
  have v1 := (HBV.out.cell (p := ⟨w.heap.size, 1, none⟩) hbk).trans x1
  have v2 := (HBV.out.cell (p := ⟨w.heap.size, 2, none⟩) hbk).trans x2
  have v3 := (HBV.out.cell (p := ⟨w.heap.size, 3, none⟩) hbk).trans x3
  have hbv : w.heap.size < V.heap.size := by have := HBV.out.size; omega
  clear x0 x1 x2 x3 hV
  go_region_held3 (fun w' => w'.cell? ⟨w.heap.size, 0, none⟩ = V.cell? ⟨w.heap.size, 0, none⟩ ∧ w'.cell? ⟨w.heap.size, 1, none⟩ = V.cell? ⟨w.heap.size, 1, none⟩ ∧ w'.cell? ⟨w.heap.size, 2, none⟩ = V.cell? ⟨w.heap.size, 2, none⟩ ∧ w'.cell? ⟨w.heap.size, 3, none⟩ = V.cell? ⟨w.heap.size, 3, none⟩)
    (first | exact ⟨rfl, rfl, rfl, rfl⟩ | exact ⟨Hb.out.cell hbv, Hb.out.cell hbv, Hb.out.cell hbv, Hb.out.cell hbv⟩)
    (first
      | (go_at_call 26
         refine (lVariable t _ ht).mono ?_
         rintro r w1 ⟨rfl, hb⟩
         rw [← HO.out]
         have Hb := Lib.hid (show Below V.heap.size V w1 from ⟨hb.os, hb.tape, hb.output, hb.size, hb.block⟩)
         clear hb))
  all_goals
    clear v0 v1 v2 v3
    rcases b with _ | _
    · go_wp2_with fail
      go_ret2
      exact TP.no (show (0 == 0 && varB (bl t)) = false by rw [← HO.out]; rfl) (HBW.out.trans ((HBV.out.trans (Hb.out.mono HBV.out.size)).mono (by omega)))
    · go_wp2_with fail
      go_ret2
      exact TP.ok (show (0 == 0 && varB (bl t)) = true by rw [← HO.out]; rfl) rfl (HBW.out.trans ((HBV.out.trans (Hb.out.mono HBV.out.size)).mono (by omega)))
set_option maxHeartbeats 4000000 in
set_option maxRecDepth 100000 in
theorem lT2n (t : ByteArray) (n p : Int) (w : World) (qn : (n == 0) = false) :
    Calls Tryd.prog 15 #[.agg #[.int .i8 2, .string t, .int .i64 n, .int .i64 p]] w (TP ⟨2, t, n, p⟩ w) := by
  obtain ⟨W, hW⟩ : ∃ W, W = w.alloc (.cells #[.int .i8 2, .string t, .int .i64 n, .int .i64 p] 36) := ⟨_, rfl⟩
  have HBW := Lib.hid (show Below w.heap.size w W by rw [hW]; exact below_alloc _ _)
  have hsW : W.heap.size = w.heap.size + 1 := by rw [hW]; simp
  have hbk : w.heap.size < W.heap.size := by omega
  obtain ⟨x0, x1, x2, x3⟩ := four (show W.heap[w.heap.size]? = some (.cells #[.int .i8 2, .string t, .int .i64 n, .int .i64 p] 36 (0, 0)) by rw [hW]; exact heap_alloc_new w _)
  go_enter Tryd.func15, Tryd.ntmps15
  go_wp2_with fail
  rw [← hW]
  clear hW
  go_quiet (fail)
  go_wp2_with fail
  go_quiet (fail)
  go_wp2_with fail
  go_ret2
  exact TP.no (show (n == 0 && varB (bl t)) = false by rw [qn]; rfl) (HBW.out.trans (Below.mono (below_drewN W _) (by omega)))
set_option maxHeartbeats 4000000 in
set_option maxRecDepth 100000 in
theorem lT6 (t : ByteArray) (p : Int) (w : World) (_ht : t.size ≤ maxLen) (hK : KwAt w) (hG : SgAt w) :
    Calls Tryd.prog 15 #[.agg #[.int .i8 6, .string t, .int .i64 0, .int .i64 p]] w (TP ⟨6, t, 0, p⟩ w) := by
  obtain ⟨W, hW⟩ : ∃ W, W = w.alloc (.cells #[.int .i8 6, .string t, .int .i64 0, .int .i64 p] 36) := ⟨_, rfl⟩
  have HBW := Lib.hid (show Below w.heap.size w W by rw [hW]; exact below_alloc _ _)
  have hsW : W.heap.size = w.heap.size + 1 := by rw [hW]; simp
  have hbk : w.heap.size < W.heap.size := by omega
  obtain ⟨x0, x1, x2, x3⟩ := four (show W.heap[w.heap.size]? = some (.cells #[.int .i8 6, .string t, .int .i64 0, .int .i64 p] 36 (0, 0)) by rw [hW]; exact heap_alloc_new w _)
  have HK := Lib.hid (hK.at HBW.out); clear hK
  have HG := Lib.hid (hG.at HBW.out); clear hG
  obtain ⟨b, hb⟩ : ∃ b, b = kwB (bl t) := ⟨_, rfl⟩
  have HO := Lib.hid hb; clear hb
  go_enter Tryd.func15, Tryd.ntmps15
  go_wp2_with fail
  rw [← hW]
  clear hW
  go_quiet (fail)
  go_wp2_with fail
  generalize hV : W.drewN _ = V
  have HBV := Lib.hid (show Below W.heap.size W V by rw [← hV]; exact below_drewN _ _)
  have v0 := (HBV.out.cell (p := ⟨w.heap.size, 0, none⟩) hbk).trans x0
  have v1 := (HBV.out.cell (p := ⟨w.heap.size, 1, none⟩) hbk).trans x1
  have v2 := (HBV.out.cell (p := ⟨w.heap.size, 2, none⟩) hbk).trans x2
  have v3 := (HBV.out.cell (p := ⟨w.heap.size, 3, none⟩) hbk).trans x3
  have hbv : w.heap.size < V.heap.size := by have := HBV.out.size; omega
  clear x0 x1 x2 x3 hV
  go_region_held3 (fun w' => w'.cell? ⟨w.heap.size, 0, none⟩ = V.cell? ⟨w.heap.size, 0, none⟩ ∧ w'.cell? ⟨w.heap.size, 1, none⟩ = V.cell? ⟨w.heap.size, 1, none⟩ ∧ w'.cell? ⟨w.heap.size, 2, none⟩ = V.cell? ⟨w.heap.size, 2, none⟩ ∧ w'.cell? ⟨w.heap.size, 3, none⟩ = V.cell? ⟨w.heap.size, 3, none⟩)
    (first | exact ⟨rfl, rfl, rfl, rfl⟩ | exact ⟨Hb.out.cell hbv, Hb.out.cell hbv, Hb.out.cell hbv, Hb.out.cell hbv⟩)
    (first
      | (go_at_call 22
         refine (lKeyword t _ (HK.out.at HBV.out.drew)).mono ?_
         rintro r w1 ⟨rfl, hb⟩
         rw [← HO.out]
         have Hb := Lib.hid (show Below V.heap.size V w1 from by rw [← hb]; exact (Below.refl _ _).drew)
         clear hb))
  all_goals
    clear v0 v1 v2 v3
    rcases b with _ | _
    · go_wp2_with fail
      go_ret2
      exact TP.no (show (0 == 0 && kwB (bl t)) = false by rw [← HO.out]; rfl) (HBW.out.trans ((HBV.out.trans (Hb.out.mono HBV.out.size)).mono (by omega)))
    · go_wp2_with fail
      go_ret2
      exact TP.ok (show (0 == 0 && kwB (bl t)) = true by rw [← HO.out]; rfl) rfl (HBW.out.trans ((HBV.out.trans (Hb.out.mono HBV.out.size)).mono (by omega)))
set_option maxHeartbeats 4000000 in
set_option maxRecDepth 100000 in
theorem lT6n (t : ByteArray) (n p : Int) (w : World) (qn : (n == 0) = false) :
    Calls Tryd.prog 15 #[.agg #[.int .i8 6, .string t, .int .i64 n, .int .i64 p]] w (TP ⟨6, t, n, p⟩ w) := by
  obtain ⟨W, hW⟩ : ∃ W, W = w.alloc (.cells #[.int .i8 6, .string t, .int .i64 n, .int .i64 p] 36) := ⟨_, rfl⟩
  have HBW := Lib.hid (show Below w.heap.size w W by rw [hW]; exact below_alloc _ _)
  have hsW : W.heap.size = w.heap.size + 1 := by rw [hW]; simp
  have hbk : w.heap.size < W.heap.size := by omega
  obtain ⟨x0, x1, x2, x3⟩ := four (show W.heap[w.heap.size]? = some (.cells #[.int .i8 6, .string t, .int .i64 n, .int .i64 p] 36 (0, 0)) by rw [hW]; exact heap_alloc_new w _)
  go_enter Tryd.func15, Tryd.ntmps15
  go_wp2_with fail
  rw [← hW]
  clear hW
  go_quiet (fail)
  go_wp2_with fail
  go_quiet (fail)
  go_wp2_with fail
  go_ret2
  exact TP.no (show (n == 0 && kwB (bl t)) = false by rw [qn]; rfl) (HBW.out.trans (Below.mono (below_drewN W _) (by omega)))
set_option maxHeartbeats 4000000 in
set_option maxRecDepth 100000 in
theorem lT7 (t : ByteArray) (p : Int) (w : World) (_ht : t.size ≤ maxLen) (hK : KwAt w) (hG : SgAt w) :
    Calls Tryd.prog 15 #[.agg #[.int .i8 7, .string t, .int .i64 0, .int .i64 p]] w (TP ⟨7, t, 0, p⟩ w) := by
  obtain ⟨W, hW⟩ : ∃ W, W = w.alloc (.cells #[.int .i8 7, .string t, .int .i64 0, .int .i64 p] 36) := ⟨_, rfl⟩
  have HBW := Lib.hid (show Below w.heap.size w W by rw [hW]; exact below_alloc _ _)
  have hsW : W.heap.size = w.heap.size + 1 := by rw [hW]; simp
  have hbk : w.heap.size < W.heap.size := by omega
  obtain ⟨x0, x1, x2, x3⟩ := four (show W.heap[w.heap.size]? = some (.cells #[.int .i8 7, .string t, .int .i64 0, .int .i64 p] 36 (0, 0)) by rw [hW]; exact heap_alloc_new w _)
  have HK := Lib.hid (hK.at HBW.out); clear hK
  have HG := Lib.hid (hG.at HBW.out); clear hG
  obtain ⟨b, hb⟩ : ∃ b, b = signB (bl t) := ⟨_, rfl⟩
  have HO := Lib.hid hb; clear hb
  go_enter Tryd.func15, Tryd.ntmps15
  go_wp2_with fail
  rw [← hW]
  clear hW
  go_quiet (fail)
  go_wp2_with fail
  generalize hV : W.drewN _ = V
  have HBV := Lib.hid (show Below W.heap.size W V by rw [← hV]; exact below_drewN _ _)
  have v0 := (HBV.out.cell (p := ⟨w.heap.size, 0, none⟩) hbk).trans x0
  have v1 := (HBV.out.cell (p := ⟨w.heap.size, 1, none⟩) hbk).trans x1
  have v2 := (HBV.out.cell (p := ⟨w.heap.size, 2, none⟩) hbk).trans x2
  have v3 := (HBV.out.cell (p := ⟨w.heap.size, 3, none⟩) hbk).trans x3
  have hbv : w.heap.size < V.heap.size := by have := HBV.out.size; omega
  clear x0 x1 x2 x3 hV
  go_region_held3 (fun w' => w'.cell? ⟨w.heap.size, 0, none⟩ = V.cell? ⟨w.heap.size, 0, none⟩ ∧ w'.cell? ⟨w.heap.size, 1, none⟩ = V.cell? ⟨w.heap.size, 1, none⟩ ∧ w'.cell? ⟨w.heap.size, 2, none⟩ = V.cell? ⟨w.heap.size, 2, none⟩ ∧ w'.cell? ⟨w.heap.size, 3, none⟩ = V.cell? ⟨w.heap.size, 3, none⟩)
    (first | exact ⟨rfl, rfl, rfl, rfl⟩ | exact ⟨Hb.out.cell hbv, Hb.out.cell hbv, Hb.out.cell hbv, Hb.out.cell hbv⟩)
    (first
      | (go_at_call 34
         refine (lSign t _ (HG.out.at HBV.out.drew)).mono ?_
         rintro r w1 ⟨rfl, hb⟩
         rw [← HO.out]
         have Hb := Lib.hid (show Below V.heap.size V w1 from by rw [← hb]; exact (Below.refl _ _).drew)
         clear hb))
  all_goals
    clear v0 v1 v2 v3
    rcases b with _ | _
    · go_wp2_with fail
      go_ret2
      exact TP.no (show (0 == 0 && signB (bl t)) = false by rw [← HO.out]; rfl) (HBW.out.trans ((HBV.out.trans (Hb.out.mono HBV.out.size)).mono (by omega)))
    · go_wp2_with fail
      go_ret2
      exact TP.ok (show (0 == 0 && signB (bl t)) = true by rw [← HO.out]; rfl) rfl (HBW.out.trans ((HBV.out.trans (Hb.out.mono HBV.out.size)).mono (by omega)))
set_option maxHeartbeats 4000000 in
set_option maxRecDepth 100000 in
theorem lT7n (t : ByteArray) (n p : Int) (w : World) (qn : (n == 0) = false) :
    Calls Tryd.prog 15 #[.agg #[.int .i8 7, .string t, .int .i64 n, .int .i64 p]] w (TP ⟨7, t, n, p⟩ w) := by
  obtain ⟨W, hW⟩ : ∃ W, W = w.alloc (.cells #[.int .i8 7, .string t, .int .i64 n, .int .i64 p] 36) := ⟨_, rfl⟩
  have HBW := Lib.hid (show Below w.heap.size w W by rw [hW]; exact below_alloc _ _)
  have hsW : W.heap.size = w.heap.size + 1 := by rw [hW]; simp
  have hbk : w.heap.size < W.heap.size := by omega
  obtain ⟨x0, x1, x2, x3⟩ := four (show W.heap[w.heap.size]? = some (.cells #[.int .i8 7, .string t, .int .i64 n, .int .i64 p] 36 (0, 0)) by rw [hW]; exact heap_alloc_new w _)
  go_enter Tryd.func15, Tryd.ntmps15
  go_wp2_with fail
  rw [← hW]
  clear hW
  go_quiet (fail)
  go_wp2_with fail
  go_quiet (fail)
  go_wp2_with fail
  go_ret2
  exact TP.no (show (n == 0 && signB (bl t)) = false by rw [qn]; rfl) (HBW.out.trans (Below.mono (below_drewN W _) (by omega)))
end Go.Proofs.YtcigdlpljjkplaaDoor
