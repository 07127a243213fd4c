/- The contracts of lex.number and word. Conditions: a run is not empty, takes at most 2^48 bytes; the errors' variables hold errors. -/
import Derived.Test.YtcigdlpljjkplaaDoorL2
import Derived.Test.YtcigdlpljjkplaaDoorLs
import Derived.Test.YtcigdlpljjkplaaDoorU0
import Derived.Test.YtcigdlpljjkplaaDoorShelf
import Derived.WalkSmall
import Derived.Lib.LaidTab
namespace Go.Proofs.YtcigdlpljjkplaaDoor
open Go.RowKit

/-- The two variables of errors hold errors. -/
structure ErrAt (w : World) : Prop where
  size : 9 ≤ w.heap.size
  syn : ∃ tp p, w.var? Tryd.prog "strconv.ErrSyntax" = some #[.iface tp p]
  rng : ∃ tp p, w.var? Tryd.prog "strconv.ErrRange" = some #[.iface tp p]
theorem gSyn : Tryd.prog.globalNamed "strconv.ErrSyntax" = some 6 := by kernel_rfl
theorem gRng : Tryd.prog.globalNamed "strconv.ErrRange" = some 7 := by kernel_rfl
theorem ErrAt.at {w w' : World} (h : ErrAt w) (hb : Below w.heap.size w w') : ErrAt w' := by
  have h9 := h.size
  obtain ⟨tp, p, hs⟩ := h.syn
  obtain ⟨tq, q, hr⟩ := h.rng
  exact ⟨Nat.le_trans h9 hb.size, ⟨tp, p, var?_below hb gSyn (by omega) hs⟩, ⟨tq, q, var?_below hb gRng (by omega) hr⟩⟩
/-- What a call leaves that returns a token and an error's number. -/
def TkPost (r : Int × Tk) (w : World) (e : Ending) (w' : World) : Prop := e = .returned (.tuple #[r.2.agg, .int .i64 r.1]) ∧ Below w.heap.size w w'
theorem head_48 {s : ByteArray} (h : 0 < s.size) : (bl s).head? = some s[0] := by
  have h1 := get_bl s 0 h
  have h2 : 0 < (bl s).length := by rw [size_bl]; exact h
  rw [List.head?_eq_getElem?, List.getElem?_eq_getElem h2, h1]
set_option maxHeartbeats 4000000 in
theorem lNumber (s : ByteArray) (w : World) (h0 : 0 < s.size) (hs : s.size ≤ 281474976710656) (hE : ErrAt w) :
    Calls Tryd.prog 67 #[.string s] w (TkPost (numT (bl s)) w) := by
  obtain ⟨W, hW⟩ : ∃ W, W = w.alloc (.cells #[.int .i8 0, .string ⟨#[]⟩, .int .i64 0, .int .i64 0] 36) := ⟨_, rfl⟩
  have HBW := Lib.hid (show Below w.heap.size w W by rw [hW]; exact below_alloc _ _)
  have hsW : W.heap.size = w.heap.size + 1 := by rw [hW]; simp
  have HBX := Lib.hid (show W.heap[w.heap.size]? = some (.cells #[.int .i8 0, .string ⟨#[]⟩, .int .i64 0, .int .i64 0] 36 (0, 0)) by rw [hW]; exact heap_alloc_new w _)
  have HE := Lib.hid (hE.at HBW.out); clear hE
  have HH := Lib.hid (head_48 h0)
  rcases hp : Lib.parseUintB 64 (bl s) with u | _ | _
  · have HC := Lib.hid (Tryd.strconv_ParseUint_10_at64_ok s (by omega) u hp W)
    have hU := Lib.parseUintB_le (B := 64) (l := bl s) (u := u) hp
    by_cases hbig : 9223372036854775808 < u
    · have HR := Lib.hid (show numT (bl s) = (32, tk0) by simp only [numT, hp]; rw [if_pos (.inl hbig)])
      have q : decide ((9223372036854775808 : Int) < (u : Int)) = true := decide_eq_true (by omega)
      clear hp
      go_enter Tryd.func67, Tryd.ntmps67
      go_wp2_with fail
      rw [← hW]
      clear hW
      refine HC.out.mono ?_
      rintro e w1 ⟨rfl, hw1⟩
      have hb : Below W.heap.size W w1 := by
        rcases hw1 with rfl | rfl
        · exact Below.refl _ _
        · exact Lib.bytesWorld_below _ _ _
      clear hw1
      have hx := (hb.block w.heap.size (by omega)).trans HBX.out
      obtain ⟨x0, x1, x2, x3⟩ := four hx
      have f0 : w1.frozen? ⟨w.heap.size, 0, none⟩ = false := Lib.frozen_of_heap hx 0
      have f1 : w1.frozen? ⟨w.heap.size, 1, none⟩ = false := Lib.frozen_of_heap hx 1
      have f2 : w1.frozen? ⟨w.heap.size, 2, none⟩ = false := Lib.frozen_of_heap hx 2
      have f3 : w1.frozen? ⟨w.heap.size, 3, none⟩ = false := Lib.frozen_of_heap hx 3
      have HX := Lib.hid hx; clear hx
      have Hb := Lib.hid (HBW.out.trans (hb.mono (by omega))); clear hb
      go_wp2_with fail
      change bodyPost _ _ _ _ _ (putL w1 w.heap.size 0 [.int .i8 0, .string ⟨#[]⟩, .int .i64 0, .int .i64 0])
      clear x0 x1 x2 x3 f0 f1 f2 f3
      have hb2 := putL_heap [.int .i8 0, .string ⟨#[]⟩, .int .i64 0, .int .i64 0] HX.out rfl
      have HBp := Lib.hid (putL_below (Nat.le_refl _) [.int .i8 0, .string ⟨#[]⟩, .int .i64 0, .int .i64 0] _ 0 Hb.out)
      obtain ⟨W2, hW2⟩ : ∃ W2, W2 = putL w1 w.heap.size 0 [.int .i8 0, .string ⟨#[]⟩, .int .i64 0, .int .i64 0] := ⟨_, rfl⟩
      rw [← hW2] at hb2 HBp ⊢
      clear hW2
      obtain ⟨z0, z1, z2, z3⟩ := four (show W2.heap[w.heap.size]? = some (.cells #[.int .i8 0, .string ⟨#[]⟩, .int .i64 0, .int .i64 0] 36 (0, 0)) from hb2)
      refine bodyPost_ret (v := .tuple #[.agg #[.int .i8 0, .string ⟨#[]⟩, .int .i64 0, .int .i64 0], .int .i64 32]) (by simp [results, Tryd.results67, go_sem, z0, z1, z2, z3]) rfl ?_
      exact ⟨by rw [HR.out]; rfl, HBp.out⟩
    · have q : decide ((9223372036854775808 : Int) < (u : Int)) = false := decide_eq_false (by omega)
      by_cases h48 : s[0].toNat = 48
      · have q48 : ((s[0].toNat : Int) == 48) = true := by simp [h48]
        have e48 : s[0] = 48 := UInt8.toNat_inj.1 h48
        rcases hq : s.toList == [48] with _ | _
        · have HR := Lib.hid (show numT (bl s) = (32, tk0) by
            simp only [numT, hp]
            rw [if_pos (.inr ⟨by rw [HH.out, e48], fun e => by rw [ByteArray.toList_eq] at hq; rw [show s.data.toList = [48] from e] at hq; simp at hq⟩)])
          clear hp h48 e48
          go_enter Tryd.func67, Tryd.ntmps67
          go_wp2_with fail
          rw [← hW]
          clear hW
          refine HC.out.mono ?_
          rintro e w1 ⟨rfl, hw1⟩
          have hb : Below W.heap.size W w1 := by
            rcases hw1 with rfl | rfl
            · exact Below.refl _ _
            · exact Lib.bytesWorld_below _ _ _
          clear hw1
          have hx := (hb.block w.heap.size (by omega)).trans HBX.out
          obtain ⟨x0, x1, x2, x3⟩ := four hx
          have f0 : w1.frozen? ⟨w.heap.size, 0, none⟩ = false := Lib.frozen_of_heap hx 0
          have f1 : w1.frozen? ⟨w.heap.size, 1, none⟩ = false := Lib.frozen_of_heap hx 1
          have f2 : w1.frozen? ⟨w.heap.size, 2, none⟩ = false := Lib.frozen_of_heap hx 2
          have f3 : w1.frozen? ⟨w.heap.size, 3, none⟩ = false := Lib.frozen_of_heap hx 3
          have HX := Lib.hid hx; clear hx
          have Hb := Lib.hid (HBW.out.trans (hb.mono (by omega))); clear hb
          go_wp2_with fail
          change bodyPost _ _ _ _ _ (putL w1 w.heap.size 0 [.int .i8 0, .string ⟨#[]⟩, .int .i64 0, .int .i64 0])
          clear x0 x1 x2 x3 f0 f1 f2 f3
          have hb2 := putL_heap [.int .i8 0, .string ⟨#[]⟩, .int .i64 0, .int .i64 0] HX.out rfl
          have HBp := Lib.hid (putL_below (Nat.le_refl _) [.int .i8 0, .string ⟨#[]⟩, .int .i64 0, .int .i64 0] _ 0 Hb.out)
          obtain ⟨W2, hW2⟩ : ∃ W2, W2 = putL w1 w.heap.size 0 [.int .i8 0, .string ⟨#[]⟩, .int .i64 0, .int .i64 0] := ⟨_, rfl⟩
          rw [← hW2] at hb2 HBp ⊢
          clear hW2
          obtain ⟨z0, z1, z2, z3⟩ := four (show W2.heap[w.heap.size]? = some (.cells #[.int .i8 0, .string ⟨#[]⟩, .int .i64 0, .int .i64 0] 36 (0, 0)) from hb2)
          refine bodyPost_ret (v := .tuple #[.agg #[.int .i8 0, .string ⟨#[]⟩, .int .i64 0, .int .i64 0], .int .i64 32]) (by simp [results, Tryd.results67, go_sem, z0, z1, z2, z3]) rfl ?_
          exact ⟨by rw [HR.out]; rfl, HBp.out⟩
        · have HR := Lib.hid (show numT (bl s) = (0, ⟨4, ⟨#[]⟩, wrap64 (u : Int), 0⟩) by
            simp only [numT, hp]
            rw [if_neg]
            rintro (h | ⟨_, h⟩)
            · exact hbig h
            · rw [ByteArray.toList_eq, beq_iff_eq] at hq; exact h hq)
          clear hp h48 e48
          go_enter Tryd.func67, Tryd.ntmps67
          go_wp2_with fail
          rw [← hW]
          clear hW
          refine HC.out.mono ?_
          rintro e w1 ⟨rfl, hw1⟩
          have hb : Below W.heap.size W w1 := by
            rcases hw1 with rfl | rfl
            · exact Below.refl _ _
            · exact Lib.bytesWorld_below _ _ _
          clear hw1
          have hx := (hb.block w.heap.size (by omega)).trans HBX.out
          obtain ⟨x0, x1, x2, x3⟩ := four hx
          have f0 : w1.frozen? ⟨w.heap.size, 0, none⟩ = false := Lib.frozen_of_heap hx 0
          have f1 : w1.frozen? ⟨w.heap.size, 1, none⟩ = false := Lib.frozen_of_heap hx 1
          have f2 : w1.frozen? ⟨w.heap.size, 2, none⟩ = false := Lib.frozen_of_heap hx 2
          have f3 : w1.frozen? ⟨w.heap.size, 3, none⟩ = false := Lib.frozen_of_heap hx 3
          have HX := Lib.hid hx; clear hx
          have Hb := Lib.hid (HBW.out.trans (hb.mono (by omega))); clear hb
          go_wp2_with fail
          change bodyPost _ _ _ _ _ (putL w1 w.heap.size 0 [.int .i8 4, .string ⟨#[]⟩, .int .i64 (wrap64 (u : Int)), .int .i64 0])
          clear x0 x1 x2 x3 f0 f1 f2 f3
          have hb2 := putL_heap [.int .i8 4, .string ⟨#[]⟩, .int .i64 (wrap64 (u : Int)), .int .i64 0] HX.out rfl
          have HBp := Lib.hid (putL_below (Nat.le_refl _) [.int .i8 4, .string ⟨#[]⟩, .int .i64 (wrap64 (u : Int)), .int .i64 0] _ 0 Hb.out)
          obtain ⟨W2, hW2⟩ : ∃ W2, W2 = putL w1 w.heap.size 0 [.int .i8 4, .string ⟨#[]⟩, .int .i64 (wrap64 (u : Int)), .int .i64 0] := ⟨_, rfl⟩
          rw [← hW2] at hb2 HBp ⊢
          clear hW2
          obtain ⟨z0, z1, z2, z3⟩ := four (show W2.heap[w.heap.size]? = some (.cells #[.int .i8 4, .string ⟨#[]⟩, .int .i64 (wrap64 (u : Int)), .int .i64 0] 36 (0, 0)) from hb2)
          refine bodyPost_ret (v := .tuple #[.agg #[.int .i8 4, .string ⟨#[]⟩, .int .i64 (wrap64 (u : Int)), .int .i64 0], .int .i64 0]) (by simp [results, Tryd.results67, go_sem, z0, z1, z2, z3]) rfl ?_
          exact ⟨by rw [HR.out]; rfl, HBp.out⟩
      · have q48 : ((s[0].toNat : Int) == 48) = false := by simp; omega
        have HR := Lib.hid (show numT (bl s) = (0, ⟨4, ⟨#[]⟩, wrap64 (u : Int), 0⟩) by
          simp only [numT, hp]
          rw [if_neg]
          rintro (h | ⟨h, _⟩)
          · exact hbig h
          · rw [HH.out] at h; injection h with h; rw [h] at h48; exact h48 rfl)
        clear hp h48
        go_enter Tryd.func67, Tryd.ntmps67
        go_wp2_with fail
        rw [← hW]
        clear hW
        refine HC.out.mono ?_
        rintro e w1 ⟨rfl, hw1⟩
        have hb : Below W.heap.size W w1 := by
          rcases hw1 with rfl | rfl
          · exact Below.refl _ _
          · exact Lib.bytesWorld_below _ _ _
        clear hw1
        have hx := (hb.block w.heap.size (by omega)).trans HBX.out
        obtain ⟨x0, x1, x2, x3⟩ := four hx
        have f0 : w1.frozen? ⟨w.heap.size, 0, none⟩ = false := Lib.frozen_of_heap hx 0
        have f1 : w1.frozen? ⟨w.heap.size, 1, none⟩ = false := Lib.frozen_of_heap hx 1
        have f2 : w1.frozen? ⟨w.heap.size, 2, none⟩ = false := Lib.frozen_of_heap hx 2
        have f3 : w1.frozen? ⟨w.heap.size, 3, none⟩ = false := Lib.frozen_of_heap hx 3
        have HX := Lib.hid hx; clear hx
        have Hb := Lib.hid (HBW.out.trans (hb.mono (by omega))); clear hb
        go_wp2_with fail
        change bodyPost _ _ _ _ _ (putL w1 w.heap.size 0 [.int .i8 4, .string ⟨#[]⟩, .int .i64 (wrap64 (u : Int)), .int .i64 0])
        clear x0 x1 x2 x3 f0 f1 f2 f3
        have hb2 := putL_heap [.int .i8 4, .string ⟨#[]⟩, .int .i64 (wrap64 (u : Int)), .int .i64 0] HX.out rfl
        have HBp := Lib.hid (putL_below (Nat.le_refl _) [.int .i8 4, .string ⟨#[]⟩, .int .i64 (wrap64 (u : Int)), .int .i64 0] _ 0 Hb.out)
        obtain ⟨W2, hW2⟩ : ∃ W2, W2 = putL w1 w.heap.size 0 [.int .i8 4, .string ⟨#[]⟩, .int .i64 (wrap64 (u : Int)), .int .i64 0] := ⟨_, rfl⟩
        rw [← hW2] at hb2 HBp ⊢
        clear hW2
        obtain ⟨z0, z1, z2, z3⟩ := four (show W2.heap[w.heap.size]? = some (.cells #[.int .i8 4, .string ⟨#[]⟩, .int .i64 (wrap64 (u : Int)), .int .i64 0] 36 (0, 0)) from hb2)
        refine bodyPost_ret (v := .tuple #[.agg #[.int .i8 4, .string ⟨#[]⟩, .int .i64 (wrap64 (u : Int)), .int .i64 0], .int .i64 0]) (by simp [results, Tryd.results67, go_sem, z0, z1, z2, z3]) rfl ?_
        exact ⟨by rw [HR.out]; rfl, HBp.out⟩
  · have HR := Lib.hid (show numT (bl s) = (32, tk0) by simp only [numT, hp])
    obtain ⟨tp, p, hv⟩ := HE.out.syn
    have HC := Lib.hid (Tryd.strconv_ParseUint_10_at64_syn s hs (by rw [hp]; intro u hu; cases hu) (by rw [hp]; intro hu; cases hu) tp p W hv)
    clear hp hv
    go_enter Tryd.func67, Tryd.ntmps67
    go_wp2_with fail
    rw [← hW]
    clear hW
    refine HC.out.mono ?_
    rintro e w1 ⟨N, rfl, _, _, hb⟩
    have hx := (hb.block w.heap.size (by omega)).trans HBX.out
    obtain ⟨x0, x1, x2, x3⟩ := four hx
    have f0 : w1.frozen? ⟨w.heap.size, 0, none⟩ = false := Lib.frozen_of_heap hx 0
    have f1 : w1.frozen? ⟨w.heap.size, 1, none⟩ = false := Lib.frozen_of_heap hx 1
    have f2 : w1.frozen? ⟨w.heap.size, 2, none⟩ = false := Lib.frozen_of_heap hx 2
    have f3 : w1.frozen? ⟨w.heap.size, 3, none⟩ = false := Lib.frozen_of_heap hx 3
    have HX := Lib.hid hx; clear hx
    have Hb := Lib.hid (HBW.out.trans (hb.mono (by omega))); clear hb
    go_wp2_with fail
    change bodyPost _ _ _ _ _ (putL w1 w.heap.size 0 [.int .i8 0, .string ⟨#[]⟩, .int .i64 0, .int .i64 0])
    clear x0 x1 x2 x3 f0 f1 f2 f3
    have hb2 := putL_heap [.int .i8 0, .string ⟨#[]⟩, .int .i64 0, .int .i64 0] HX.out rfl
    have HBp := Lib.hid (putL_below (Nat.le_refl _) [.int .i8 0, .string ⟨#[]⟩, .int .i64 0, .int .i64 0] _ 0 Hb.out)
    obtain ⟨W2, hW2⟩ : ∃ W2, W2 = putL w1 w.heap.size 0 [.int .i8 0, .string ⟨#[]⟩, .int .i64 0, .int .i64 0] := ⟨_, rfl⟩
    rw [← hW2] at hb2 HBp ⊢
    clear hW2
    obtain ⟨z0, z1, z2, z3⟩ := four (show W2.heap[w.heap.size]? = some (.cells #[.int .i8 0, .string ⟨#[]⟩, .int .i64 0, .int .i64 0] 36 (0, 0)) from hb2)
    refine bodyPost_ret (v := .tuple #[.agg #[.int .i8 0, .string ⟨#[]⟩, .int .i64 0, .int .i64 0], .int .i64 32]) (by simp [results, Tryd.results67, go_sem, z0, z1, z2, z3]) rfl ?_
    exact ⟨by rw [HR.out]; rfl, HBp.out⟩
  · have HR := Lib.hid (show numT (bl s) = (32, tk0) by simp only [numT, hp])
    obtain ⟨tp, p, hv⟩ := HE.out.rng
    have HC := Lib.hid (Tryd.strconv_ParseUint_10_at64_range_var s hs hp tp p W hv)
    clear hp hv
    go_enter Tryd.func67, Tryd.ntmps67
    go_wp2_with fail
    rw [← hW]
    clear hW
    refine HC.out.mono ?_
    rintro e w1 ⟨N, rfl, _, _, hb⟩
    have hx := (hb.block w.heap.size (by omega)).trans HBX.out
    obtain ⟨x0, x1, x2, x3⟩ := four hx
    have f0 : w1.frozen? ⟨w.heap.size, 0, none⟩ = false := Lib.frozen_of_heap hx 0
    have f1 : w1.frozen? ⟨w.heap.size, 1, none⟩ = false := Lib.frozen_of_heap hx 1
    have f2 : w1.frozen? ⟨w.heap.size, 2, none⟩ = false := Lib.frozen_of_heap hx 2
    have f3 : w1.frozen? ⟨w.heap.size, 3, none⟩ = false := Lib.frozen_of_heap hx 3
    have HX := Lib.hid hx; clear hx
    have Hb := Lib.hid (HBW.out.trans (hb.mono (by omega))); clear hb
    go_wp2_with fail
    change bodyPost _ _ _ _ _ (putL w1 w.heap.size 0 [.int .i8 0, .string ⟨#[]⟩, .int .i64 0, .int .i64 0])
    clear x0 x1 x2 x3 f0 f1 f2 f3
    have hb2 := putL_heap [.int .i8 0, .string ⟨#[]⟩, .int .i64 0, .int .i64 0] HX.out rfl
    have HBp := Lib.hid (putL_below (Nat.le_refl _) [.int .i8 0, .string ⟨#[]⟩, .int .i64 0, .int .i64 0] _ 0 Hb.out)
    obtain ⟨W2, hW2⟩ : ∃ W2, W2 = putL w1 w.heap.size 0 [.int .i8 0, .string ⟨#[]⟩, .int .i64 0, .int .i64 0] := ⟨_, rfl⟩
    rw [← hW2] at hb2 HBp ⊢
    clear hW2
    obtain ⟨z0, z1, z2, z3⟩ := four (show W2.heap[w.heap.size]? = some (.cells #[.int .i8 0, .string ⟨#[]⟩, .int .i64 0, .int .i64 0] 36 (0, 0)) from hb2)
    refine bodyPost_ret (v := .tuple #[.agg #[.int .i8 0, .string ⟨#[]⟩, .int .i64 0, .int .i64 0], .int .i64 32]) (by simp [results, Tryd.results67, go_sem, z0, z1, z2, z3]) rfl ?_
    exact ⟨by rw [HR.out]; rfl, HBp.out⟩
set_option maxHeartbeats 4000000 in
theorem lWord (s : ByteArray) (w : World) (h0 : 0 < s.size) (hs : s.size ≤ 281474976710656) (hE : ErrAt w) (hK : KwAt w) :
    Calls Tryd.prog 58 #[.string s] w (TkPost (wordT (bl s)) w) := by
  obtain ⟨W, hW⟩ : ∃ W, W = w.alloc (.cells #[.int .i8 0, .string ⟨#[]⟩, .int .i64 0, .int .i64 0] 36) := ⟨_, rfl⟩
  have HBW := Lib.hid (show Below w.heap.size w W by rw [hW]; exact below_alloc _ _)
  have hsW : W.heap.size = w.heap.size + 1 := by rw [hW]; simp
  have HBX := Lib.hid (show W.heap[w.heap.size]? = some (.cells #[.int .i8 0, .string ⟨#[]⟩, .int .i64 0, .int .i64 0] 36 (0, 0)) by rw [hW]; exact heap_alloc_new w _)
  have HE := Lib.hid (hE.at HBW.out); clear hE
  have HK := Lib.hid (hK.at HBW.out); clear hK
  have HEQ := Lib.hid (str_eta s)
  have HWT := Lib.hid (show wordT (bl s) = (if s[0].toNat = 95 then (if 1 < s.size then ((31 : Int), tk0) else (0, ⟨3, ⟨#[]⟩, 0, 0⟩)) else if digitB s[0] then numT (bl s) else if 120 < s.size then (30, tk0) else if upperB s[0] then (0, ⟨2, s, 0, 0⟩) else if kwB (bl s) then (0, ⟨6, s, 0, 0⟩) else (0, ⟨1, s, 0, 0⟩)) by
    have h1 := head_48 h0
    have h2 := size_bl s
    have h3 := str_eta s
    obtain ⟨c, r, hcr⟩ : ∃ c r, bl s = c :: r := by
      match hb : bl s with
      | [] => rw [hb] at h1; simp at h1
      | c :: r => exact ⟨c, r, rfl⟩
    rw [hcr] at h1 h2 h3
    simp only [List.head?_cons, Option.some.injEq] at h1
    rw [hcr, wordT, h2, h3, h1])
  by_cases h95 : s[0].toNat = 95
  · have q95 : ((s[0].toNat : Int) == 95) = true := by simp [h95]
    by_cases h1 : 1 < s.size
    · have HR := Lib.hid (show wordT (bl s) = (31, tk0) by rw [HWT.out, if_pos h95, if_pos h1])
      have q1 : decide ((1 : Int) < (s.size : Int)) = true := decide_eq_true (by omega)
      clear hW h95
      go_enter Tryd.func58, Tryd.ntmps58
      go_wp2_with fail
      obtain ⟨z0, z1, z2, z3⟩ := four (heap_alloc_new w (.cells #[.int .i8 0, .string ⟨#[]⟩, .int .i64 0, .int .i64 0] 36))
      refine bodyPost_ret (v := .tuple #[.agg #[.int .i8 0, .string ⟨#[]⟩, .int .i64 0, .int .i64 0], .int .i64 31]) (by simp [results, Tryd.results58, go_sem, z0, z1, z2, z3]) rfl ?_
      exact ⟨by rw [HR.out]; rfl, below_alloc _ _⟩
    · have HR := Lib.hid (show wordT (bl s) = (0, ⟨3, ⟨#[]⟩, 0, 0⟩) by rw [HWT.out, if_pos h95, if_neg h1])
      have q1 : decide ((1 : Int) < (s.size : Int)) = false := decide_eq_false (by omega)
      clear hW h95
      go_enter Tryd.func58, Tryd.ntmps58
      go_wp2_with fail
      obtain ⟨z0, z1, z2, z3⟩ := four (heap_alloc_new w (.cells #[.int .i8 3, .string ⟨#[]⟩, .int .i64 0, .int .i64 0] 36))
      refine bodyPost_ret (v := .tuple #[.agg #[.int .i8 3, .string ⟨#[]⟩, .int .i64 0, .int .i64 0], .int .i64 0]) (by simp [results, Tryd.results58, go_sem, z0, z1, z2, z3]) rfl ?_
      exact ⟨by rw [HR.out]; rfl, below_alloc _ _⟩
  · have q95 : ((s[0].toNat : Int) == 95) = false := by simp; omega
    rcases hd : digitB s[0] with _ | _
    · have hnd : ¬ (48 ≤ s[0].toNat ∧ s[0].toNat ≤ 57) := by rw [digitB] at hd; simp at hd; omega
      by_cases h120 : 120 < s.size
      · have HR := Lib.hid (show wordT (bl s) = (30, tk0) by rw [HWT.out, if_neg h95, hd, if_neg (by simp), if_pos h120])
        have q1 : decide ((120 : Int) < (s.size : Int)) = true := decide_eq_true (by omega)
        clear hW h95 hd
        by_cases h48 : 48 ≤ s[0].toNat
        · have d1 : decide ((48 : Int) ≤ (s[0].toNat : Int)) = true := decide_eq_true (by omega)
          have d2 : decide ((s[0].toNat : Int) ≤ 57) = false := decide_eq_false (by omega)
          clear h48 hnd
          go_enter Tryd.func58, Tryd.ntmps58
          go_wp2_with fail
          obtain ⟨z0, z1, z2, z3⟩ := four (heap_alloc_new w (.cells #[.int .i8 0, .string ⟨#[]⟩, .int .i64 0, .int .i64 0] 36))
          refine bodyPost_ret (v := .tuple #[.agg #[.int .i8 0, .string ⟨#[]⟩, .int .i64 0, .int .i64 0], .int .i64 30]) (by simp [results, Tryd.results58, go_sem, z0, z1, z2, z3]) rfl ?_
          exact ⟨by rw [HR.out]; rfl, below_alloc _ _⟩
        · have d1 : decide ((48 : Int) ≤ (s[0].toNat : Int)) = false := decide_eq_false (by omega)
          clear h48 hnd
          go_enter Tryd.func58, Tryd.ntmps58
          go_wp2_with fail
          obtain ⟨z0, z1, z2, z3⟩ := four (heap_alloc_new w (.cells #[.int .i8 0, .string ⟨#[]⟩, .int .i64 0, .int .i64 0] 36))
          refine bodyPost_ret (v := .tuple #[.agg #[.int .i8 0, .string ⟨#[]⟩, .int .i64 0, .int .i64 0], .int .i64 30]) (by simp [results, Tryd.results58, go_sem, z0, z1, z2, z3]) rfl ?_
          exact ⟨by rw [HR.out]; rfl, below_alloc _ _⟩
      · have q1 : decide ((120 : Int) < (s.size : Int)) = false := decide_eq_false (by omega)
        rcases hu : upperB s[0] with _ | _
        · have hnu : ¬ (65 ≤ s[0].toNat ∧ s[0].toNat ≤ 90) := by rw [upperB] at hu; simp at hu; omega
          obtain ⟨kd, hkd⟩ : ∃ kd : Int, kd = if kwB (bl s) then 6 else 1 := ⟨_, rfl⟩
          have HR := Lib.hid (show wordT (bl s) = (0, ⟨if kwB (bl s) then 6 else 1, s, 0, 0⟩) by rw [HWT.out, if_neg h95, hd, if_neg (by simp), if_neg h120, hu, if_neg (by simp)]; split <;> rfl)
          clear hkd hd hu h95
          have hc0 := s[0].toNat_lt
          go_enter Tryd.func58, Tryd.ntmps58
          go_wp2_with fail
          all_goals
            rw [← hW]
            clear hW
            refine (lKeyword s _ HK.out).mono ?_
            rintro e w1 ⟨rfl, rfl⟩
            rcases hk : kwB (bl s) with _ | _
            all_goals
              rw [hk] at HR
              have HKB := Lib.hid hk; clear hk
              have hb := Below.refl W.heap.size W
            · have hx := (hb.block w.heap.size (by omega)).trans HBX.out
              obtain ⟨x0, x1, x2, x3⟩ := four hx
              have f0 : W.frozen? ⟨w.heap.size, 0, none⟩ = false := Lib.frozen_of_heap hx 0
              have f1 : W.frozen? ⟨w.heap.size, 1, none⟩ = false := Lib.frozen_of_heap hx 1
              have f2 : W.frozen? ⟨w.heap.size, 2, none⟩ = false := Lib.frozen_of_heap hx 2
              have f3 : W.frozen? ⟨w.heap.size, 3, none⟩ = false := Lib.frozen_of_heap hx 3
              have HX := Lib.hid hx; clear hx
              have Hb := Lib.hid (HBW.out.trans (hb.mono (by omega))); clear hb
              go_wp2_with fail
              change bodyPost _ _ _ _ _ (putL W w.heap.size 0 [.int .i8 1, .string s, .int .i64 0, .int .i64 0])
              clear x0 x1 x2 x3 f0 f1 f2 f3
              have hb2 := putL_heap [.int .i8 1, .string s, .int .i64 0, .int .i64 0] HX.out rfl
              have HBp := Lib.hid (putL_below (Nat.le_refl _) [.int .i8 1, .string s, .int .i64 0, .int .i64 0] _ 0 Hb.out)
              obtain ⟨W2, hW2⟩ : ∃ W2, W2 = putL W w.heap.size 0 [.int .i8 1, .string s, .int .i64 0, .int .i64 0] := ⟨_, rfl⟩
              rw [← hW2] at hb2 HBp ⊢
              clear hW2
              obtain ⟨z0, z1, z2, z3⟩ := four (show W2.heap[w.heap.size]? = some (.cells #[.int .i8 1, .string s, .int .i64 0, .int .i64 0] 36 (0, 0)) from hb2)
              refine bodyPost_ret (v := .tuple #[.agg #[.int .i8 1, .string s, .int .i64 0, .int .i64 0], .int .i64 0]) (by simp [results, Tryd.results58, go_sem, z0, z1, z2, z3]) rfl ?_
              exact ⟨by rw [HR.out]; rfl, HBp.out⟩
            · have hx := (hb.block w.heap.size (by omega)).trans HBX.out
              obtain ⟨x0, x1, x2, x3⟩ := four hx
              have f0 : W.frozen? ⟨w.heap.size, 0, none⟩ = false := Lib.frozen_of_heap hx 0
              have f1 : W.frozen? ⟨w.heap.size, 1, none⟩ = false := Lib.frozen_of_heap hx 1
              have f2 : W.frozen? ⟨w.heap.size, 2, none⟩ = false := Lib.frozen_of_heap hx 2
              have f3 : W.frozen? ⟨w.heap.size, 3, none⟩ = false := Lib.frozen_of_heap hx 3
              have HX := Lib.hid hx; clear hx
              have Hb := Lib.hid (HBW.out.trans (hb.mono (by omega))); clear hb
              go_wp2_with fail
              change bodyPost _ _ _ _ _ (putL W w.heap.size 0 [.int .i8 6, .string s, .int .i64 0, .int .i64 0])
              clear x0 x1 x2 x3 f0 f1 f2 f3
              have hb2 := putL_heap [.int .i8 6, .string s, .int .i64 0, .int .i64 0] HX.out rfl
              have HBp := Lib.hid (putL_below (Nat.le_refl _) [.int .i8 6, .string s, .int .i64 0, .int .i64 0] _ 0 Hb.out)
              obtain ⟨W2, hW2⟩ : ∃ W2, W2 = putL W w.heap.size 0 [.int .i8 6, .string s, .int .i64 0, .int .i64 0] := ⟨_, rfl⟩
              rw [← hW2] at hb2 HBp ⊢
              clear hW2
              obtain ⟨z0, z1, z2, z3⟩ := four (show W2.heap[w.heap.size]? = some (.cells #[.int .i8 6, .string s, .int .i64 0, .int .i64 0] 36 (0, 0)) from hb2)
              refine bodyPost_ret (v := .tuple #[.agg #[.int .i8 6, .string s, .int .i64 0, .int .i64 0], .int .i64 0]) (by simp [results, Tryd.results58, go_sem, z0, z1, z2, z3]) rfl ?_
              exact ⟨by rw [HR.out]; rfl, HBp.out⟩
        · have hnu : 65 ≤ s[0].toNat ∧ s[0].toNat ≤ 90 := by rw [upperB] at hu; simp at hu; omega
          have HR := Lib.hid (show wordT (bl s) = (0, ⟨2, s, 0, 0⟩) by rw [HWT.out, if_neg h95, hd, if_neg (by simp), if_neg h120, hu, if_pos rfl])
          have u1 : decide ((65 : Int) ≤ (s[0].toNat : Int)) = true := decide_eq_true (by omega)
          have u2 : decide ((s[0].toNat : Int) ≤ 90) = true := decide_eq_true (by omega)
          have d1 : decide ((48 : Int) ≤ (s[0].toNat : Int)) = true := decide_eq_true (by omega)
          have d2 : decide ((s[0].toNat : Int) ≤ 57) = false := decide_eq_false (by omega)
          clear hW h95 hd hu hnd hnu
          go_enter Tryd.func58, Tryd.ntmps58
          go_wp2_with fail
          obtain ⟨z0, z1, z2, z3⟩ := four (heap_alloc_new w (.cells #[.int .i8 2, .string s, .int .i64 0, .int .i64 0] 36))
          refine bodyPost_ret (v := .tuple #[.agg #[.int .i8 2, .string s, .int .i64 0, .int .i64 0], .int .i64 0]) (by simp [results, Tryd.results58, go_sem, z0, z1, z2, z3]) rfl ?_
          exact ⟨by rw [HR.out]; rfl, below_alloc _ _⟩
    · have hnd : 48 ≤ s[0].toNat ∧ s[0].toNat ≤ 57 := by rw [digitB] at hd; simp at hd; omega
      have HR := Lib.hid (show wordT (bl s) = numT (bl s) by rw [HWT.out, if_neg h95, hd, if_pos rfl])
      have d1 : decide ((48 : Int) ≤ (s[0].toNat : Int)) = true := decide_eq_true (by omega)
      have d2 : decide ((s[0].toNat : Int) ≤ 57) = true := decide_eq_true (by omega)
      clear h95 hd hnd
      go_enter Tryd.func58, Tryd.ntmps58
      go_wp2_with fail
      rw [← hW]
      clear hW
      refine (lNumber s _ h0 hs HE.out).mono ?_
      rintro e w1 ⟨rfl, hb⟩
      obtain ⟨⟨er, ⟨k, tx, n, pl⟩⟩, hnt⟩ : ∃ x, x = numT (bl s) := ⟨_, rfl⟩
      rw [← hnt] at HR ⊢
      clear hnt
      simp only [Tk.agg]
      have hx := (hb.block w.heap.size (by omega)).trans HBX.out
      obtain ⟨x0, x1, x2, x3⟩ := four hx
      have f0 : w1.frozen? ⟨w.heap.size, 0, none⟩ = false := Lib.frozen_of_heap hx 0
      have f1 : w1.frozen? ⟨w.heap.size, 1, none⟩ = false := Lib.frozen_of_heap hx 1
      have f2 : w1.frozen? ⟨w.heap.size, 2, none⟩ = false := Lib.frozen_of_heap hx 2
      have f3 : w1.frozen? ⟨w.heap.size, 3, none⟩ = false := Lib.frozen_of_heap hx 3
      have HX := Lib.hid hx; clear hx
      have Hb := Lib.hid (HBW.out.trans (hb.mono (by omega))); clear hb
      go_wp2_with fail
      change bodyPost _ _ _ _ _ (putL w1 w.heap.size 0 [.int .i8 k, .string tx, .int .i64 n, .int .i64 pl])
      clear x0 x1 x2 x3 f0 f1 f2 f3
      have hb2 := putL_heap [.int .i8 k, .string tx, .int .i64 n, .int .i64 pl] HX.out rfl
      have HBp := Lib.hid (putL_below (Nat.le_refl _) [.int .i8 k, .string tx, .int .i64 n, .int .i64 pl] _ 0 Hb.out)
      obtain ⟨W2, hW2⟩ : ∃ W2, W2 = putL w1 w.heap.size 0 [.int .i8 k, .string tx, .int .i64 n, .int .i64 pl] := ⟨_, rfl⟩
      rw [← hW2] at hb2 HBp ⊢
      clear hW2
      obtain ⟨z0, z1, z2, z3⟩ := four (show W2.heap[w.heap.size]? = some (.cells #[.int .i8 k, .string tx, .int .i64 n, .int .i64 pl] 36 (0, 0)) from hb2)
      refine bodyPost_ret (v := .tuple #[.agg #[.int .i8 k, .string tx, .int .i64 n, .int .i64 pl], .int .i64 er]) (by simp [results, Tryd.results58, go_sem, z0, z1, z2, z3]) rfl ?_
      exact ⟨by rw [HR.out]; rfl, HBp.out⟩
end Go.Proofs.YtcigdlpljjkplaaDoor
