/- The contracts of lex.sign, of FormatUint at small numbers, of lex.Text at tokens that may be. Conditions: as told. -/
import Derived.Test.YtcigdlpljjkplaaDoorL4
import Derived.BigQuiet
import Derived.Deep.RegionHeld3
import Derived.Deep.RegionWith
import Derived.StillTailTactics
namespace Go.Proofs.YtcigdlpljjkplaaDoor
open Go.RowKit

/-- Is it one of the signs from one on? -/
def sgAny (k : Nat) (l : List UInt8) : Bool := (signsT.drop k).any fun s => l == bl s
theorem sgAny_step (k : Nat) (h : k < 18) (l : List UInt8) : sgAny k l = (l == bl (signsT.getD k ⟨#[]⟩) || sgAny (k + 1) l) := by
  rcases (show k = 0 ∨ k = 1 ∨ k = 2 ∨ k = 3 ∨ k = 4 ∨ k = 5 ∨ k = 6 ∨ k = 7 ∨ k = 8 ∨ k = 9 ∨ k = 10 ∨ k = 11 ∨ k = 12 ∨ k = 13 ∨ k = 14 ∨ k = 15 ∨ k = 16 ∨ k = 17 by omega) with rfl | rfl | rfl | rfl | rfl | rfl | rfl | rfl | rfl | rfl | rfl | rfl | rfl | rfl | rfl | rfl | rfl | rfl
  all_goals rfl
theorem sgAny_end (k : Nat) (h : 18 ≤ k) (l : List UInt8) : sgAny k l = false := by
  unfold sgAny
  rw [List.drop_eq_nil_of_le (by simpa [signsT] using h)]
  rfl
set_option maxHeartbeats 2000000 in
set_option maxRecDepth 100000 in
theorem lSign (s : ByteArray) (w : World) (hG : SgAt w) :
    Calls Tryd.prog 34 #[.string s] w fun e w' => e = .returned (.bool (signB (bl s))) ∧ w = w' := by
  have HE := Lib.hid (show signB (bl s) = sgAny 0 (bl s) from rfl)
  have k0 : w.cell? ⟨1, 0, none⟩ = some (.string ⟨#[58, 45]⟩) := hG.sgs 0 (by decide)
  have k1 : w.cell? ⟨1, 1, none⟩ = some (.string ⟨#[33, 61]⟩) := hG.sgs 1 (by decide)
  have k2 : w.cell? ⟨1, 2, none⟩ = some (.string ⟨#[60, 61]⟩) := hG.sgs 2 (by decide)
  have k3 : w.cell? ⟨1, 3, none⟩ = some (.string ⟨#[62, 61]⟩) := hG.sgs 3 (by decide)
  have k4 : w.cell? ⟨1, 4, none⟩ = some (.string ⟨#[40]⟩) := hG.sgs 4 (by decide)
  have k5 : w.cell? ⟨1, 5, none⟩ = some (.string ⟨#[41]⟩) := hG.sgs 5 (by decide)
  have k6 : w.cell? ⟨1, 6, none⟩ = some (.string ⟨#[44]⟩) := hG.sgs 6 (by decide)
  have k7 : w.cell? ⟨1, 7, none⟩ = some (.string ⟨#[46]⟩) := hG.sgs 7 (by decide)
  have k8 : w.cell? ⟨1, 8, none⟩ = some (.string ⟨#[63]⟩) := hG.sgs 8 (by decide)
  have k9 : w.cell? ⟨1, 9, none⟩ = some (.string ⟨#[61]⟩) := hG.sgs 9 (by decide)
  have k10 : w.cell? ⟨1, 10, none⟩ = some (.string ⟨#[60]⟩) := hG.sgs 10 (by decide)
  have k11 : w.cell? ⟨1, 11, none⟩ = some (.string ⟨#[62]⟩) := hG.sgs 11 (by decide)
  have k12 : w.cell? ⟨1, 12, none⟩ = some (.string ⟨#[43]⟩) := hG.sgs 12 (by decide)
  have k13 : w.cell? ⟨1, 13, none⟩ = some (.string ⟨#[45]⟩) := hG.sgs 13 (by decide)
  have k14 : w.cell? ⟨1, 14, none⟩ = some (.string ⟨#[42]⟩) := hG.sgs 14 (by decide)
  have k15 : w.cell? ⟨1, 15, none⟩ = some (.string ⟨#[47]⟩) := hG.sgs 15 (by decide)
  have k16 : w.cell? ⟨1, 16, none⟩ = some (.string ⟨#[37]⟩) := hG.sgs 16 (by decide)
  have k17 : w.cell? ⟨1, 17, none⟩ = some (.string ⟨#[38]⟩) := hG.sgs 17 (by decide)
  clear hG
  go_enter Tryd.func34, Tryd.ntmps34
  go_wp2_with fail
  clear k0 k1 k2 k3 k4 k5 k6 k7 k8 k9 k10 k11 k12 k13 k14 k15 k16 k17
  obtain ⟨KV, hKV⟩ : ∃ KV, KV = sgV := ⟨_, rfl⟩
  rw [show (Value.agg #[.string ⟨#[58, 45]⟩, .string ⟨#[33, 61]⟩, .string ⟨#[60, 61]⟩, .string ⟨#[62, 61]⟩, .string ⟨#[40]⟩, .string ⟨#[41]⟩, .string ⟨#[44]⟩, .string ⟨#[46]⟩, .string ⟨#[63]⟩, .string ⟨#[61]⟩, .string ⟨#[60]⟩, .string ⟨#[62]⟩, .string ⟨#[43]⟩, .string ⟨#[45]⟩, .string ⟨#[42]⟩, .string ⟨#[47]⟩, .string ⟨#[37]⟩, .string ⟨#[38]⟩]) = KV from hKV.symm]
  have hidx := fun k h => sgIdx w k h
  rw [← hKV] at hidx
  have HX := Lib.hid hidx
  clear hKV hidx
  go_loop [6] (fun i => ∃ k : Nat, k ≤ 18 ∧ i = .int .i64 k ∧ sgAny 0 (bl s) = sgAny k (bl s)) (fun i => 18 - (intOf i).toNat)
  case atStart => exact ⟨0, by omega, rfl, rfl⟩
  case round =>
    obtain ⟨k, hk, rfl, hw⟩ := hrel
    have HW := Lib.hid hw; clear hw
    by_cases hlt : k < 18
    · have HS := Lib.hid (sgAny_step k hlt (bl s))
      have hix := HX.out k hlt
      obtain ⟨x, hx⟩ : ∃ x, x = signsT.getD k ⟨#[]⟩ := ⟨_, rfl⟩
      rw [← hx] at hix
      have HXX := Lib.hid hx; clear hx
      rcases hq : s.toList == x.toList with _ | _
      · have HQ := Lib.hid (show (bl s == bl x) = false by rw [bl, bl, ← ByteArray.toList_eq, ← ByteArray.toList_eq]; exact hq)
        go_wp2_with fail
        exact ⟨⟨k + 1, by omega, by go_num, by rw [HW.out, HS.out, ← HXX.out, HQ.out]; rfl⟩, by simp [intOf]; omega⟩
      · have HQ := Lib.hid (show (bl s == bl x) = true by rw [bl, bl, ← ByteArray.toList_eq, ← ByteArray.toList_eq]; exact hq)
        go_wp2_with fail
        go_ret
        exact ⟨ret_bool (by rw [HE.out, HW.out, HS.out, ← HXX.out, HQ.out]; rfl), rfl⟩
    · go_wp2_with fail
      go_ret
      exact ⟨ret_bool (by rw [HE.out, HW.out, sgAny_end k (by omega)]), rfl⟩
theorem iFormatSmall (n : Nat) (h : n < 100) (w : World) :
    Calls Tryd.prog 60 #[.int .u64 n, .int .i64 10] w fun e w' => e = .returned (.string ⟨(Lib.decDigits n).toArray⟩) ∧ w' = w := by
  have q : decide ((n : Int) < 100) = true := decide_eq_true (by omega)
  go_enter Tryd.func60, Tryd.ntmps60
  go_wp2_with fail
  refine (Tryd.internal_strconv_small n h _).mono ?_
  rintro e w1 ⟨rfl, rfl⟩
  go_wp2_with fail
  go_ret
  exact ⟨rfl, rfl⟩
theorem sFormatSmall (n : Nat) (h : n < 100) (w : World) :
    Calls Tryd.prog 35 #[.int .u64 n, .int .i64 10] w fun e w' => e = .returned (.string ⟨(Lib.decDigits n).toArray⟩) ∧ w' = w := by
  go_enter Tryd.func35, Tryd.ntmps35
  go_wp2_with fail
  refine (iFormatSmall n h _).mono ?_
  rintro e w1 ⟨rfl, rfl⟩
  go_wp2_with fail
  go_ret
  exact ⟨rfl, rfl⟩
/-- What Text leaves where the token may be. -/
def TxPost (l : ByteArray) (w : World) (e : Ending) (w' : World) : Prop := e = .returned (.tuple #[.string l, .int .i64 0]) ∧ Below w.heap.size w w'
set_option maxHeartbeats 4000000 in
set_option maxRecDepth 100000 in
theorem lText1 (t : ByteArray) (p : Int) (w : World) (ht : t.size ≤ maxLen) (hK : KwAt w) (hG : SgAt w) (ho : nameB (bl t) = true) :
    Calls Tryd.prog 15 #[.agg #[.int .i8 1, .string t, .int .i64 0, .int .i64 p]] w (TxPost t w) := by
  obtain ⟨W, hW⟩ : ∃ W, W = w.alloc (.cells #[.int .i8 1, .string t, .int .i64 0, .int .i64 p] 36) := ⟨_, rfl⟩
  have HBW := Lib.hid (show Below w.heap.size w W by rw [hW]; exact below_alloc _ _)
  have hsW : W.heap.size = w.heap.size + 1 := by rw [hW]; simp
  have hbk : w.heap.size < W.heap.size := by omega
  obtain ⟨x0, x1, x2, x3⟩ := four (show W.heap[w.heap.size]? = some (.cells #[.int .i8 1, .string t, .int .i64 0, .int .i64 p] 36 (0, 0)) by rw [hW]; exact heap_alloc_new w _)
  have HK := Lib.hid (hK.at HBW.out); clear hK
  have HG := Lib.hid (hG.at HBW.out); clear hG
  have HO := Lib.hid ho; clear ho
  go_enter Tryd.func15, Tryd.ntmps15
  go_wp2_with fail
  rw [← hW]
  clear hW
  go_quiet (fail)
  go_wp2_with fail
  generalize hV : W.drewN _ = V
  have HBV := Lib.hid (show Below W.heap.size W V by rw [← hV]; exact below_drewN _ _)
  have v0 := (HBV.out.cell (p := ⟨w.heap.size, 0, none⟩) hbk).trans x0
  have v1 := (HBV.out.cell (p := ⟨w.heap.size, 1, none⟩) hbk).trans x1
  have v2 := (HBV.out.cell (p := ⟨w.heap.size, 2, none⟩) hbk).trans x2
  have v3 := (HBV.out.cell (p := ⟨w.heap.size, 3, none⟩) hbk).trans x3
  have hbv : w.heap.size < V.heap.size := by have := HBV.out.size; omega
  clear x0 x1 x2 x3 hV
  go_region_held3 (fun w' => w'.cell? ⟨w.heap.size, 0, none⟩ = V.cell? ⟨w.heap.size, 0, none⟩ ∧ w'.cell? ⟨w.heap.size, 1, none⟩ = V.cell? ⟨w.heap.size, 1, none⟩ ∧ w'.cell? ⟨w.heap.size, 2, none⟩ = V.cell? ⟨w.heap.size, 2, none⟩ ∧ w'.cell? ⟨w.heap.size, 3, none⟩ = V.cell? ⟨w.heap.size, 3, none⟩)
    (first | exact ⟨rfl, rfl, rfl, rfl⟩ | exact ⟨Hb.out.cell hbv, Hb.out.cell hbv, Hb.out.cell hbv, Hb.out.cell hbv⟩)
    (first
      | (go_at_call 24
         refine (lName t _ ht (HK.out.at HBV.out.drew)).mono ?_
         rintro r w1 ⟨rfl, hb⟩
         rw [HO.out]
         have Hb := Lib.hid (show Below V.heap.size V w1 from ⟨hb.os, hb.tape, hb.output, hb.size, hb.block⟩)
         clear hb))
  all_goals
    clear v0 v1 v2 v3
    go_wp2_with fail
    go_ret2
    exact ⟨rfl, HBW.out.trans ((HBV.out.trans (Hb.out.mono HBV.out.size)).mono (by omega))⟩
set_option maxHeartbeats 4000000 in
set_option maxRecDepth 100000 in
theorem lText7 (t : ByteArray) (p : Int) (w : World) (_ht : t.size ≤ maxLen) (hK : KwAt w) (hG : SgAt w) (ho : signB (bl t) = true) :
    Calls Tryd.prog 15 #[.agg #[.int .i8 7, .string t, .int .i64 0, .int .i64 p]] w (TxPost t w) := by
  obtain ⟨W, hW⟩ : ∃ W, W = w.alloc (.cells #[.int .i8 7, .string t, .int .i64 0, .int .i64 p] 36) := ⟨_, rfl⟩
  have HBW := Lib.hid (show Below w.heap.size w W by rw [hW]; exact below_alloc _ _)
  have hsW : W.heap.size = w.heap.size + 1 := by rw [hW]; simp
  have hbk : w.heap.size < W.heap.size := by omega
  obtain ⟨x0, x1, x2, x3⟩ := four (show W.heap[w.heap.size]? = some (.cells #[.int .i8 7, .string t, .int .i64 0, .int .i64 p] 36 (0, 0)) by rw [hW]; exact heap_alloc_new w _)
  have HK := Lib.hid (hK.at HBW.out); clear hK
  have HG := Lib.hid (hG.at HBW.out); clear hG
  have HO := Lib.hid ho; clear ho
  go_enter Tryd.func15, Tryd.ntmps15
  go_wp2_with fail
  rw [← hW]
  clear hW
  go_quiet (fail)
  go_wp2_with fail
  generalize hV : W.drewN _ = V
  have HBV := Lib.hid (show Below W.heap.size W V by rw [← hV]; exact below_drewN _ _)
  have v0 := (HBV.out.cell (p := ⟨w.heap.size, 0, none⟩) hbk).trans x0
  have v1 := (HBV.out.cell (p := ⟨w.heap.size, 1, none⟩) hbk).trans x1
  have v2 := (HBV.out.cell (p := ⟨w.heap.size, 2, none⟩) hbk).trans x2
  have v3 := (HBV.out.cell (p := ⟨w.heap.size, 3, none⟩) hbk).trans x3
  have hbv : w.heap.size < V.heap.size := by have := HBV.out.size; omega
  clear x0 x1 x2 x3 hV
  go_region_held3 (fun w' => w'.cell? ⟨w.heap.size, 0, none⟩ = V.cell? ⟨w.heap.size, 0, none⟩ ∧ w'.cell? ⟨w.heap.size, 1, none⟩ = V.cell? ⟨w.heap.size, 1, none⟩ ∧ w'.cell? ⟨w.heap.size, 2, none⟩ = V.cell? ⟨w.heap.size, 2, none⟩ ∧ w'.cell? ⟨w.heap.size, 3, none⟩ = V.cell? ⟨w.heap.size, 3, none⟩)
    (first | exact ⟨rfl, rfl, rfl, rfl⟩ | exact ⟨Hb.out.cell hbv, Hb.out.cell hbv, Hb.out.cell hbv, Hb.out.cell hbv⟩)
    (first
      | (go_at_call 34
         refine (lSign t _ (HG.out.at HBV.out.drew)).mono ?_
         rintro r w1 ⟨rfl, hb⟩
         rw [HO.out]
         have Hb := Lib.hid (show Below V.heap.size V w1 from by rw [← hb]; exact (Below.refl _ _).drew)
         clear hb))
  all_goals
    clear v0 v1 v2 v3
    go_wp2_with fail
    go_ret2
    exact ⟨rfl, HBW.out.trans ((HBV.out.trans (Hb.out.mono HBV.out.size)).mono (by omega))⟩
set_option maxHeartbeats 4000000 in
set_option maxRecDepth 100000 in
theorem lText8 (p : Int) (w : World) :
    Calls Tryd.prog 15 #[.agg #[.int .i8 8, .string ⟨#[]⟩, .int .i64 0, .int .i64 p]] w (TxPost ⟨#[]⟩ w) := by
  obtain ⟨W, hW⟩ : ∃ W, W = w.alloc (.cells #[.int .i8 8, .string ⟨#[]⟩, .int .i64 0, .int .i64 p] 36) := ⟨_, rfl⟩
  have HBW := Lib.hid (show Below w.heap.size w W by rw [hW]; exact below_alloc _ _)
  have hsW : W.heap.size = w.heap.size + 1 := by rw [hW]; simp
  have hbk : w.heap.size < W.heap.size := by omega
  obtain ⟨x0, x1, x2, x3⟩ := four (show W.heap[w.heap.size]? = some (.cells #[.int .i8 8, .string ⟨#[]⟩, .int .i64 0, .int .i64 p] 36 (0, 0)) by rw [hW]; exact heap_alloc_new w _)
  go_enter Tryd.func15, Tryd.ntmps15
  go_wp2_with fail
  rw [← hW]
  clear hW
  go_quiet (fail)
  go_wp2_with fail
  go_ret2
  exact ⟨rfl, HBW.out.trans ((below_drewN _ _).mono (by omega))⟩
set_option maxHeartbeats 4000000 in
set_option maxRecDepth 100000 in
theorem lText4 (p : Int) (w : World) :
    Calls Tryd.prog 15 #[.agg #[.int .i8 4, .string ⟨#[]⟩, .int .i64 7, .int .i64 p]] w (TxPost ⟨#[55]⟩ w) := by
  obtain ⟨W, hW⟩ : ∃ W, W = w.alloc (.cells #[.int .i8 4, .string ⟨#[]⟩, .int .i64 7, .int .i64 p] 36) := ⟨_, rfl⟩
  have HBW := Lib.hid (show Below w.heap.size w W by rw [hW]; exact below_alloc _ _)
  have hsW : W.heap.size = w.heap.size + 1 := by rw [hW]; simp
  have hbk : w.heap.size < W.heap.size := by omega
  obtain ⟨x0, x1, x2, x3⟩ := four (show W.heap[w.heap.size]? = some (.cells #[.int .i8 4, .string ⟨#[]⟩, .int .i64 7, .int .i64 p] 36 (0, 0)) by rw [hW]; exact heap_alloc_new w _)
  have HWU := Lib.hid (show IntKind.u64.wrap (7 : Int) = ((7 : Nat) : Int) by decide)
  have HDD := Lib.hid (show (Lib.decDigits 7) = [55] by rw [Lib.decDigits]; rfl)
  go_enter Tryd.func15, Tryd.ntmps15
  go_wp2_with fail
  rw [← hW]
  clear hW
  go_quiet (fail)
  go_wp2_with fail
  generalize hV : W.drewN _ = V
  have HBV := Lib.hid (show Below W.heap.size W V by rw [← hV]; exact below_drewN _ _)
  have v0 := (HBV.out.cell (p := ⟨w.heap.size, 0, none⟩) hbk).trans x0
  have v1 := (HBV.out.cell (p := ⟨w.heap.size, 1, none⟩) hbk).trans x1
  have v2 := (HBV.out.cell (p := ⟨w.heap.size, 2, none⟩) hbk).trans x2
  have v3 := (HBV.out.cell (p := ⟨w.heap.size, 3, none⟩) hbk).trans x3
  have hbv : w.heap.size < V.heap.size := by have := HBV.out.size; omega
  clear x0 x1 x2 x3 hV
  first | go_region_with (first
      | (go_at_call 35
         first | rw [HWU.out] | skip
         refine (sFormatSmall 7 (by omega) _).mono ?_
         rintro r w1 ⟨rfl, hb⟩
         rw [HDD.out, hb]
         clear hb)) | fail
  all_goals
    clear v0 v1 v2 v3
    go_wp2_with fail
    go_ret2
    exact ⟨rfl, HBW.out.trans ((HBV.out.trans ((Below.refl _ V).drew.mono HBV.out.size)).mono (by omega))⟩
end Go.Proofs.YtcigdlpljjkplaaDoor
