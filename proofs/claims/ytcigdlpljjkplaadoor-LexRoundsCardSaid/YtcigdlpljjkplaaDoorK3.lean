/- The contracts of lex.quoted and of lex.first at every text. Conditions: a text takes at most 2^16 bytes; the tables lie as the program lays them. -/
import Derived.Test.YtcigdlpljjkplaaDoorK2
namespace Go.Proofs.YtcigdlpljjkplaaDoor
open Go.RowKit

theorem quotedT_none {l : List UInt8} (h : qT (l.drop 1) [] 1 = none) : quotedT l = ((33, tk0), 0) := by rw [quotedT, h]
theorem quotedT_some {l b : List UInt8} {k : Nat} (h : qT (l.drop 1) [] 1 = some (b, k)) : quotedT l = ((0, ⟨5, ⟨b.toArray⟩, 0, 0⟩), k) := by rw [quotedT, h]
theorem piR_none {l : List UInt8} (h : pieceP l = none) : piR l = .tuple #[.int .u8 0, .int .i64 0] := by rw [piR, h]
theorem piR_some {l : List UInt8} {v : UInt8} {m : Nat} (h : pieceP l = some (v, m)) : piR l = .tuple #[.int .u8 v.toNat, .int .i64 m] := by rw [piR, h]
theorem step_bs {c : UInt8} {r : List UInt8} (h : c.toNat = 92) : stepQ (c :: r) = (pieceP r).map fun x => (x.1, x.2 + 1) := by rw [stepQ, if_pos h]
theorem step_pl {c : UInt8} {r : List UInt8} (h : c.toNat ≠ 92) (h34 : c.toNat ≠ 34) (h1 : 32 ≤ c.toNat) (h2 : c.toNat ≤ 126) : stepQ (c :: r) = some (c, 1) := by rw [stepQ, if_neg h, if_pos ⟨h1, h2, h34⟩]
theorem step_no {c : UInt8} {r : List UInt8} (h : c.toNat ≠ 92) (h1 : ¬ (32 ≤ c.toNat ∧ c.toNat ≤ 126)) : stepQ (c :: r) = none := by rw [stepQ, if_neg h, if_neg (fun h2 => h1 ⟨h2.1, h2.2.1⟩)]
structure QdRel (s : ByteArray) (w : World) (k : Nat) (acc : List UInt8) (i : Value) (wr : World) : Prop where
  k1 : 1 ≤ k
  k_ : k ≤ s.size
  i_ : i = .int .i64 k
  q_ : qT ((bl s).drop 1) [] 1 = qT ((bl s).drop k) acc k
  l_ : acc.length ≤ k
  w_ : Wr 56 (w.heap.size + 1) acc wr
  b_ : Below w.heap.size w wr
  t_ : wr.heap[w.heap.size]? = some (.cells #[.int .i8 0, .string ⟨#[]⟩, .int .i64 0, .int .i64 0] 36 (0, 0))
set_option maxHeartbeats 16000000 in
set_option maxRecDepth 100000 in
theorem lQuoted (s : ByteArray) (w : World) (h0 : 0 < s.size) (hs : s.size ≤ 65536) :
    Calls Tryd.prog 54 #[.string s] w (FtPost (quotedT (bl s)) w) := by
  obtain ⟨R, hR⟩ : ∃ R, R = quotedT (bl s) := ⟨_, rfl⟩
  have HRR := Lib.hid hR
  rw [← hR]
  clear hR
  go_enter Tryd.func54, Tryd.ntmps54
  go_wp2_with fail
  go_loopw [6] (fun i wr => ∃ k acc, QdRel s w k acc i wr) (fun i _ => s.size - (intOf i).toNat)
  case atStart => exact ⟨1, [], by omega, by omega, rfl, rfl, by simp, by have h9 := wr_fresh 56 (w.alloc (.cells #[.int .i8 0, .string ⟨#[]⟩, .int .i64 0, .int .i64 0] 36)); simpa using h9, (below_alloc _ _).trans ((below_alloc _ _).mono (by simp)), (Lib.alloc_old _ _ w.heap.size (by simp)).trans (heap_alloc_new w _)⟩
  case round =>
    obtain ⟨k, acc, h1, hk, rfl, hq, hl, hw, hb, ht⟩ := hrel
    have HQ := Lib.hid hq; clear hq
    have HW := Lib.hid hw
    have hltb := hw.lt; clear hw
    have Hb := Lib.hid hb; clear hb
    obtain ⟨x0, x1, x2, x3⟩ := four ht
    have f0 : wr.frozen? ⟨w.heap.size, 0, none⟩ = false := Lib.frozen_of_heap ht 0
    have f1 : wr.frozen? ⟨w.heap.size, 1, none⟩ = false := Lib.frozen_of_heap ht 1
    have f2 : wr.frozen? ⟨w.heap.size, 2, none⟩ = false := Lib.frozen_of_heap ht 2
    have f3 : wr.frozen? ⟨w.heap.size, 3, none⟩ = false := Lib.frozen_of_heap ht 3
    have HT := Lib.hid ht; clear ht
    by_cases hlt : k < s.size
    · have hki : (k : Int) < (s.size : Int) := by omega
      have hk0 : (0 : Int) ≤ (k : Int) := by omega
      have HD := Lib.hid (drop_get s k hlt)
      by_cases h34 : s[k].toNat = 34
      · have q34 : ((s[k].toNat : Int) == 34) = true := by simp [h34]
        have HE := Lib.hid (show qT ((bl s).drop k) acc k = if 200 < acc.length then none else some (acc, k + 1) by rw [HD.out]; exact qT_end _ _ _ h34)
        clear h34
        clear x0 x1 x2 x3 f0 f1 f2 f3
        go_wp2_with fail
        refine (bLen _ _ _ HW.out).mono ?_
        rintro e w1 ⟨rfl, hw1⟩
        rw [hw1]
        clear hw1
        obtain ⟨x0, x1, x2, x3⟩ := four HT.out
        have f0 : wr.frozen? ⟨w.heap.size, 0, none⟩ = false := Lib.frozen_of_heap HT.out 0
        have f1 : wr.frozen? ⟨w.heap.size, 1, none⟩ = false := Lib.frozen_of_heap HT.out 1
        have f2 : wr.frozen? ⟨w.heap.size, 2, none⟩ = false := Lib.frozen_of_heap HT.out 2
        have f3 : wr.frozen? ⟨w.heap.size, 3, none⟩ = false := Lib.frozen_of_heap HT.out 3
        by_cases hbig : 200 < acc.length
        · have q : decide (200 < (acc.length : Int)) = true := decide_eq_true (by omega)
          have HR := Lib.hid (show R = ((33, tk0), 0) by rw [HRR.out]; exact quotedT_none (by rw [HQ.out, HE.out, if_pos hbig]))
          go_wp2_with fail
          change bodyPost _ _ _ _ _ (putL wr w.heap.size 0 [.int .i8 0, .string ⟨#[]⟩, .int .i64 0, .int .i64 0])
          clear x0 x1 x2 x3 f0 f1 f2 f3
          have hb2 := putL_heap [.int .i8 0, .string ⟨#[]⟩, .int .i64 0, .int .i64 0] HT.out rfl
          have HBp := Lib.hid (putL_below (Nat.le_refl _) [.int .i8 0, .string ⟨#[]⟩, .int .i64 0, .int .i64 0] _ 0 Hb.out)
          obtain ⟨W2, hW2⟩ : ∃ W2, W2 = putL wr w.heap.size 0 [.int .i8 0, .string ⟨#[]⟩, .int .i64 0, .int .i64 0] := ⟨_, rfl⟩
          rw [← hW2] at hb2 HBp ⊢
          clear hW2
          obtain ⟨z0, z1, z2, z3⟩ := four (show W2.heap[w.heap.size]? = some (.cells #[.int .i8 0, .string ⟨#[]⟩, .int .i64 0, .int .i64 0] 36 (0, 0)) from hb2)
          refine bodyPost_ret (v := .tuple #[.agg #[.int .i8 0, .string ⟨#[]⟩, .int .i64 0, .int .i64 0], .int .i64 0, .int .i64 33]) (by simp [results, Tryd.results54, go_sem, z0, z1, z2, z3]) rfl ?_
          exact ⟨by rw [HR.out]; rfl, HBp.out⟩
        · have q : decide (200 < (acc.length : Int)) = false := decide_eq_false (by omega)
          have HR := Lib.hid (show R = ((0, ⟨5, ⟨acc.toArray⟩, 0, 0⟩), k + 1) by rw [HRR.out]; exact quotedT_some (by rw [HQ.out, HE.out, if_neg hbig]))
          clear x0 x1 x2 x3 f0 f1 f2 f3
          go_wp2_with fail
          refine (bText _ _ _ HW.out).mono ?_
          rintro e w2 ⟨rfl, hk2⟩
          have HT2 := Lib.hid (hk2.cell HT.out (by omega) (by decide))
          have Hb2 := Lib.hid (Hb.out.trans (hk2.below.mono (by omega))); clear hk2
          obtain ⟨S, hS⟩ : ∃ S : ByteArray, S = ⟨acc.toArray⟩ := ⟨_, rfl⟩
          rw [← hS] at HR ⊢
          clear hS
          obtain ⟨x0, x1, x2, x3⟩ := four HT2.out
          have f0 : w2.frozen? ⟨w.heap.size, 0, none⟩ = false := Lib.frozen_of_heap HT2.out 0
          have f1 : w2.frozen? ⟨w.heap.size, 1, none⟩ = false := Lib.frozen_of_heap HT2.out 1
          have f2 : w2.frozen? ⟨w.heap.size, 2, none⟩ = false := Lib.frozen_of_heap HT2.out 2
          have f3 : w2.frozen? ⟨w.heap.size, 3, none⟩ = false := Lib.frozen_of_heap HT2.out 3
          go_wp2_with fail
          change bodyPost _ _ _ _ _ (putL w2 w.heap.size 0 [.int .i8 5, .string S, .int .i64 0, .int .i64 0])
          clear x0 x1 x2 x3 f0 f1 f2 f3
          have hb2 := putL_heap [.int .i8 5, .string S, .int .i64 0, .int .i64 0] HT2.out rfl
          have HBp := Lib.hid (putL_below (Nat.le_refl _) [.int .i8 5, .string S, .int .i64 0, .int .i64 0] _ 0 Hb2.out)
          obtain ⟨W2, hW2⟩ : ∃ W2, W2 = putL w2 w.heap.size 0 [.int .i8 5, .string S, .int .i64 0, .int .i64 0] := ⟨_, rfl⟩
          rw [← hW2] at hb2 HBp ⊢
          clear hW2
          obtain ⟨z0, z1, z2, z3⟩ := four (show W2.heap[w.heap.size]? = some (.cells #[.int .i8 5, .string S, .int .i64 0, .int .i64 0] 36 (0, 0)) from hb2)
          refine bodyPost_ret (v := .tuple #[.agg #[.int .i8 5, .string S, .int .i64 0, .int .i64 0], .int .i64 ((k + 1 : Nat) : Int), .int .i64 0]) (by simp [results, Tryd.results54, go_sem, z0, z1, z2, z3]) rfl ?_
          exact ⟨by rw [HR.out]; rfl, HBp.out⟩
      · have q34 : ((s[k].toNat : Int) == 34) = false := by simp; omega
        by_cases h92 : s[k].toNat = 92
        · have q92 : ((s[k].toNat : Int) == 92) = true := by simp [h92]
          have HST := Lib.hid (step_bs (r := (bl s).drop (k + 1)) h92)
          have HN := Lib.hid (fun h => qT_none (r := (bl s).drop (k + 1)) acc k h34 h)
          have HSM := Lib.hid (fun v m h => qT_some (r := (bl s).drop (k + 1)) acc k (v := v) (m := m) h34 h)
          clear h34 h92
          have hsl : (k : Int) + 1 ≤ (s.size : Int) := by omega
          go_wp2_with fail
          obtain ⟨X, hX⟩ : ∃ X, X = s.extract (k + 1) s.size := ⟨_, rfl⟩
          have hbX : bl X = (bl s).drop (k + 1) := by
            rw [hX, bl_extract]
            exact List.take_of_length_le (by simp)
          have hXs : X.size ≤ 65536 := by rw [← size_bl, hbX]; simp; omega
          rw [← hX]
          clear hX
          refine (lPiece X _ (by unfold maxLen; omega)).mono ?_
          rintro e w1 ⟨rfl, hb1⟩
          rw [hbX]
          have HW1 := Lib.hid (HW.out.up hb1)
          have HT1 := Lib.hid ((hb1.block w.heap.size (by omega)).trans HT.out)
          have Hb1 := Lib.hid (Hb.out.trans (hb1.mono Hb.out.size))
          have hltb1 : w.heap.size + 1 < w1.heap.size := by have := hb1.size; omega
          clear hb1 hbX hXs x0 x1 x2 x3 f0 f1 f2 f3
          rcases hp : pieceP ((bl s).drop (k + 1)) with _ | ⟨v, m⟩
          · rw [piR_none hp]
            have HR := Lib.hid (show R = ((33, tk0), 0) by rw [HRR.out]; exact quotedT_none (by rw [HQ.out, HD.out, HN.out (by rw [HST.out, hp]; rfl)]))
            clear hp
            obtain ⟨x0, x1, x2, x3⟩ := four HT1.out
            have f0 : w1.frozen? ⟨w.heap.size, 0, none⟩ = false := Lib.frozen_of_heap HT1.out 0
            have f1 : w1.frozen? ⟨w.heap.size, 1, none⟩ = false := Lib.frozen_of_heap HT1.out 1
            have f2 : w1.frozen? ⟨w.heap.size, 2, none⟩ = false := Lib.frozen_of_heap HT1.out 2
            have f3 : w1.frozen? ⟨w.heap.size, 3, none⟩ = false := Lib.frozen_of_heap HT1.out 3
            go_wp2_with fail
            change bodyPost _ _ _ _ _ (putL w1 w.heap.size 0 [.int .i8 0, .string ⟨#[]⟩, .int .i64 0, .int .i64 0])
            clear x0 x1 x2 x3 f0 f1 f2 f3
            have hb2 := putL_heap [.int .i8 0, .string ⟨#[]⟩, .int .i64 0, .int .i64 0] HT1.out rfl
            have HBp := Lib.hid (putL_below (Nat.le_refl _) [.int .i8 0, .string ⟨#[]⟩, .int .i64 0, .int .i64 0] _ 0 Hb1.out)
            obtain ⟨W2, hW2⟩ : ∃ W2, W2 = putL w1 w.heap.size 0 [.int .i8 0, .string ⟨#[]⟩, .int .i64 0, .int .i64 0] := ⟨_, rfl⟩
            rw [← hW2] at hb2 HBp ⊢
            clear hW2
            obtain ⟨z0, z1, z2, z3⟩ := four (show W2.heap[w.heap.size]? = some (.cells #[.int .i8 0, .string ⟨#[]⟩, .int .i64 0, .int .i64 0] 36 (0, 0)) from hb2)
            refine bodyPost_ret (v := .tuple #[.agg #[.int .i8 0, .string ⟨#[]⟩, .int .i64 0, .int .i64 0], .int .i64 0, .int .i64 33]) (by simp [results, Tryd.results54, go_sem, z0, z1, z2, z3]) rfl ?_
            exact ⟨by rw [HR.out]; rfl, HBp.out⟩
          · rw [piR_some hp]
            have hm := pieceP_pos hp
            have hmn : k + 1 + m ≤ s.size := by have h9 := hm.2.2; rw [List.length_drop, size_bl] at h9; omega
            have hm1 := hm.1
            have HNX := Lib.hid (show qT ((bl s).drop k) acc k = qT ((bl s).drop (k + (m + 1))) (acc ++ [v]) (k + (m + 1)) by rw [HD.out, HSM.out v (m + 1) (by rw [HST.out, hp]; rfl), ← HD.out, List.drop_drop])
            clear hp hm
            have hq0 : ((m : Int) == 0) = false := by simp; omega
            go_wp2_with fail
            refine (bByteI wtB _ _ v.toNat v rfl _ HW1.out (by omega)).mono ?_
            rintro e w2 ⟨rfl, hw2, hk2⟩
            have HW2 := Lib.hid hw2; clear hw2
            have HT2 := Lib.hid (hk2.cell HT1.out (by omega) (by decide))
            have Hb2 := Lib.hid (Hb1.out.trans (hk2.below.mono (by omega))); clear hk2
            go_wp2_with fail
            refine ⟨⟨k + (m + 1), acc ++ [v], by omega, by omega, by go_num, by rw [HQ.out, HNX.out], by simp; omega, HW2.out, Hb2.out, HT2.out⟩, by simp [intOf]; omega⟩
        · have q92 : ((s[k].toNat : Int) == 92) = false := by simp; omega
          by_cases hlo : 32 ≤ s[k].toNat ∧ s[k].toNat ≤ 126
          · have qa : decide ((s[k].toNat : Int) < 32) = false := decide_eq_false (by omega)
            have qb : decide (126 < (s[k].toNat : Int)) = false := decide_eq_false (by omega)
            have HNX := Lib.hid (show qT ((bl s).drop k) acc k = qT ((bl s).drop (k + 1)) (acc ++ [s[k]]) (k + 1) by rw [HD.out, qT_some (r := (bl s).drop (k + 1)) acc k (v := s[k]) (m := 1) h34 (step_pl h92 h34 hlo.1 hlo.2)]; rfl)
            clear h34 h92 hlo x0 x1 x2 x3 f0 f1 f2 f3
            go_wp2_with fail
            refine (bByteI wtB _ _ _ s[k] rfl _ HW.out (by omega)).mono ?_
            rintro e w2 ⟨rfl, hw2, hk2⟩
            have HW2 := Lib.hid hw2; clear hw2
            have HT2 := Lib.hid (hk2.cell HT.out (by omega) (by decide))
            have Hb2 := Lib.hid (Hb.out.trans (hk2.below.mono (by omega))); clear hk2
            go_wp2_with fail
            refine ⟨⟨k + 1, acc ++ [s[k]], by omega, by omega, by go_num, by rw [HQ.out, HNX.out], by simp; omega, HW2.out, Hb2.out, HT2.out⟩, by simp [intOf]; omega⟩
          · have HR := Lib.hid (show R = ((33, tk0), 0) by rw [HRR.out]; exact quotedT_none (by rw [HQ.out, HD.out]; exact qT_none acc k h34 (step_no h92 hlo)))
            rcases Nat.lt_or_ge s[k].toNat 32 with hlo2 | hhi
            · have qa : decide ((s[k].toNat : Int) < 32) = true := decide_eq_true (by omega)
              clear h34 h92 hlo
              go_wp2_with fail
              change bodyPost _ _ _ _ _ (putL wr w.heap.size 0 [.int .i8 0, .string ⟨#[]⟩, .int .i64 0, .int .i64 0])
              clear x0 x1 x2 x3 f0 f1 f2 f3
              have hb2 := putL_heap [.int .i8 0, .string ⟨#[]⟩, .int .i64 0, .int .i64 0] HT.out rfl
              have HBp := Lib.hid (putL_below (Nat.le_refl _) [.int .i8 0, .string ⟨#[]⟩, .int .i64 0, .int .i64 0] _ 0 Hb.out)
              obtain ⟨W2, hW2⟩ : ∃ W2, W2 = putL wr w.heap.size 0 [.int .i8 0, .string ⟨#[]⟩, .int .i64 0, .int .i64 0] := ⟨_, rfl⟩
              rw [← hW2] at hb2 HBp ⊢
              clear hW2
              obtain ⟨z0, z1, z2, z3⟩ := four (show W2.heap[w.heap.size]? = some (.cells #[.int .i8 0, .string ⟨#[]⟩, .int .i64 0, .int .i64 0] 36 (0, 0)) from hb2)
              refine bodyPost_ret (v := .tuple #[.agg #[.int .i8 0, .string ⟨#[]⟩, .int .i64 0, .int .i64 0], .int .i64 0, .int .i64 33]) (by simp [results, Tryd.results54, go_sem, z0, z1, z2, z3]) rfl ?_
              exact ⟨by rw [HR.out]; rfl, HBp.out⟩
            · have qa : decide ((s[k].toNat : Int) < 32) = false := decide_eq_false (by omega)
              have qb : decide (126 < (s[k].toNat : Int)) = true := decide_eq_true (by omega)
              clear h34 h92 hlo
              go_wp2_with fail
              change bodyPost _ _ _ _ _ (putL wr w.heap.size 0 [.int .i8 0, .string ⟨#[]⟩, .int .i64 0, .int .i64 0])
              clear x0 x1 x2 x3 f0 f1 f2 f3
              have hb2 := putL_heap [.int .i8 0, .string ⟨#[]⟩, .int .i64 0, .int .i64 0] HT.out rfl
              have HBp := Lib.hid (putL_below (Nat.le_refl _) [.int .i8 0, .string ⟨#[]⟩, .int .i64 0, .int .i64 0] _ 0 Hb.out)
              obtain ⟨W2, hW2⟩ : ∃ W2, W2 = putL wr w.heap.size 0 [.int .i8 0, .string ⟨#[]⟩, .int .i64 0, .int .i64 0] := ⟨_, rfl⟩
              rw [← hW2] at hb2 HBp ⊢
              clear hW2
              obtain ⟨z0, z1, z2, z3⟩ := four (show W2.heap[w.heap.size]? = some (.cells #[.int .i8 0, .string ⟨#[]⟩, .int .i64 0, .int .i64 0] 36 (0, 0)) from hb2)
              refine bodyPost_ret (v := .tuple #[.agg #[.int .i8 0, .string ⟨#[]⟩, .int .i64 0, .int .i64 0], .int .i64 0, .int .i64 33]) (by simp [results, Tryd.results54, go_sem, z0, z1, z2, z3]) rfl ?_
              exact ⟨by rw [HR.out]; rfl, HBp.out⟩
    · obtain rfl : k = s.size := by omega
      have HR := Lib.hid (show R = ((33, tk0), 0) by rw [HRR.out]; exact quotedT_none (by rw [HQ.out, List.drop_of_length_le (by rw [size_bl]; exact Nat.le_refl _), qT_nil]))
      go_wp2_with fail
      change bodyPost _ _ _ _ _ (putL wr w.heap.size 0 [.int .i8 0, .string ⟨#[]⟩, .int .i64 0, .int .i64 0])
      clear x0 x1 x2 x3 f0 f1 f2 f3
      have hb2 := putL_heap [.int .i8 0, .string ⟨#[]⟩, .int .i64 0, .int .i64 0] HT.out rfl
      have HBp := Lib.hid (putL_below (Nat.le_refl _) [.int .i8 0, .string ⟨#[]⟩, .int .i64 0, .int .i64 0] _ 0 Hb.out)
      obtain ⟨W2, hW2⟩ : ∃ W2, W2 = putL wr w.heap.size 0 [.int .i8 0, .string ⟨#[]⟩, .int .i64 0, .int .i64 0] := ⟨_, rfl⟩
      rw [← hW2] at hb2 HBp ⊢
      clear hW2
      obtain ⟨z0, z1, z2, z3⟩ := four (show W2.heap[w.heap.size]? = some (.cells #[.int .i8 0, .string ⟨#[]⟩, .int .i64 0, .int .i64 0] 36 (0, 0)) from hb2)
      refine bodyPost_ret (v := .tuple #[.agg #[.int .i8 0, .string ⟨#[]⟩, .int .i64 0, .int .i64 0], .int .i64 0, .int .i64 33]) (by simp [results, Tryd.results54, go_sem, z0, z1, z2, z3]) rfl ?_
      exact ⟨by rw [HR.out]; rfl, HBp.out⟩
set_option maxHeartbeats 4000000 in
set_option maxRecDepth 100000 in
theorem lFirstQ (s : ByteArray) (w : World) (h0 : 0 < s.size) (hs : s.size ≤ 65536) (h34 : s[0].toNat = 34) :
    Calls Tryd.prog 33 #[.string s] w (FtPost (quotedT (bl s)) w) := by
  obtain ⟨W, hW⟩ : ∃ W, W = w.alloc (.cells #[.int .i8 0, .string ⟨#[]⟩, .int .i64 0, .int .i64 0] 36) := ⟨_, rfl⟩
  have HBW := Lib.hid (show Below w.heap.size w W by rw [hW]; exact below_alloc _ _)
  have hsW : W.heap.size = w.heap.size + 1 := by rw [hW]; simp
  have HBX := Lib.hid (show W.heap[w.heap.size]? = some (.cells #[.int .i8 0, .string ⟨#[]⟩, .int .i64 0, .int .i64 0] 36 (0, 0)) by rw [hW]; exact heap_alloc_new w _)
  have q34 : ((s[0].toNat : Int) == 34) = true := by simp; omega
  have hC := lQuoted s W h0 hs
  generalize quotedT (bl s) = Q at hC ⊢
  obtain ⟨⟨er, ⟨kk, tx, nn, pl⟩⟩, ln⟩ := Q
  have HC := Lib.hid hC; clear hC
  clear h34
  go_enter Tryd.func33, Tryd.ntmps33
  go_wp2_with fail
  rw [← hW]
  clear hW
  refine HC.out.mono ?_
  rintro e w1 ⟨rfl, hb⟩
  have HT := Lib.hid ((hb.block w.heap.size (by omega)).trans HBX.out)
  have Hb := Lib.hid (HBW.out.trans (hb.mono (by omega))); clear hb
  simp only [Tk.agg]
  obtain ⟨x0, x1, x2, x3⟩ := four HT.out
  have f0 : w1.frozen? ⟨w.heap.size, 0, none⟩ = false := Lib.frozen_of_heap HT.out 0
  have f1 : w1.frozen? ⟨w.heap.size, 1, none⟩ = false := Lib.frozen_of_heap HT.out 1
  have f2 : w1.frozen? ⟨w.heap.size, 2, none⟩ = false := Lib.frozen_of_heap HT.out 2
  have f3 : w1.frozen? ⟨w.heap.size, 3, none⟩ = false := Lib.frozen_of_heap HT.out 3
  go_wp2_with fail
  change bodyPost _ _ _ _ _ (putL w1 w.heap.size 0 [.int .i8 kk, .string tx, .int .i64 nn, .int .i64 pl])
  clear x0 x1 x2 x3 f0 f1 f2 f3
  have hb2 := putL_heap [.int .i8 kk, .string tx, .int .i64 nn, .int .i64 pl] HT.out rfl
  have HBp := Lib.hid (putL_below (Nat.le_refl _) [.int .i8 kk, .string tx, .int .i64 nn, .int .i64 pl] _ 0 Hb.out)
  obtain ⟨W2, hW2⟩ : ∃ W2, W2 = putL w1 w.heap.size 0 [.int .i8 kk, .string tx, .int .i64 nn, .int .i64 pl] := ⟨_, rfl⟩
  rw [← hW2] at hb2 HBp ⊢
  clear hW2
  obtain ⟨z0, z1, z2, z3⟩ := four (show W2.heap[w.heap.size]? = some (.cells #[.int .i8 kk, .string tx, .int .i64 nn, .int .i64 pl] 36 (0, 0)) from hb2)
  refine bodyPost_ret (v := .tuple #[.agg #[.int .i8 kk, .string tx, .int .i64 nn, .int .i64 pl], .int .i64 ln, .int .i64 er]) (by simp [results, Tryd.results33, go_sem, z0, z1, z2, z3]) rfl ?_
  exact ⟨rfl, HBp.out⟩
/-- lex.first at every text that is not empty. -/
theorem lHead (s : ByteArray) (w : World) (h0 : 0 < s.size) (hs : s.size ≤ 65536) (hE : ErrAt w) (hK : KwAt w) (hG : SgAt w) :
    Calls Tryd.prog 33 #[.string s] w (FtPost (headT (bl s)) w) := by
  have h1 := head_48 h0
  by_cases h34 : s[0].toNat = 34
  · rw [show headT (bl s) = quotedT (bl s) by rw [headT, h1, if_pos (by simp [h34])]]
    exact lFirstQ s w h0 hs h34
  · rw [show headT (bl s) = firstT (bl s) by rw [headT, h1, if_neg (by simpa using h34)]]
    exact lFirst s w h0 (by omega) hE hK hG h34
end Go.Proofs.YtcigdlpljjkplaaDoor
