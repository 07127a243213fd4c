/- The walk of LexBlames. Conditions: the tables lie as the program lays them. -/
import Derived.Test.YtcigdlpljjkplaaDoorN2
import Derived.Test.YtcigdlpljjkplaaDoorL8
namespace Go.Proofs.YtcigdlpljjkplaaDoor
open Go.RowKit

theorem tokR_big {l : List UInt8} (h : 65536 < l.length) : tokR l = .error (30, 65536) := by rw [tokR, if_pos h]
theorem tokR_small {l : List UInt8} (h : ¬ 65536 < l.length) : tokR l = toksT l 0 := by rw [tokR, if_neg h]
theorem ts_err {x : Except (Int × Nat) (List Tk)} {c : Int} {p : Nat} (h : x = .error (c, p)) {w : World} {e : Ending} {w' : World} (hp : TsPost x w e w') : e = .returned (.tuple #[.slice none 0 0, .agg #[.int .i64 c, .int .i64 (p : Int)]]) ∧ Below w.heap.size w w' := by subst h; exact hp
theorem ts_ok {x : Except (Int × Nat) (List Tk)} {ts : List Tk} (h : x = .ok ts) {w : World} {e : Ending} {w' : World} (hp : TsPost x w e w') : ∃ p c, e = .returned (.tuple #[.slice p ts.length c, .agg #[.int .i64 0, .int .i64 0]]) ∧ w'.ownsRow w.heap.size 36 4 (.slice p ts.length c) ts.length (ts.flatMap Tk.cells) ∧ Below w.heap.size w w' := by
  subst h
  obtain ⟨v, h1, h2, h3⟩ := hp
  obtain ⟨p, c, rfl⟩ := own_sliceT h2
  exact ⟨p, c, h1, h2, h3⟩
set_option maxHeartbeats 16000000 in
set_option maxRecDepth 100000 in
theorem lexBlames (s : ByteArray) (w : World) (hs : s.size ≤ maxLen) (hE : ErrAt w) (hK : KwAt w) (hG : SgAt w) :
    Calls Tryd.prog 9 #[.string s] w fun r w' => r = .returned (.bool true) ∧ Below w.heap.size w w' := by
  have HE := Lib.hid hE; clear hE
  have HK := Lib.hid hK; clear hK
  have HG := Lib.hid hG; clear hG
  have HC := Lib.hid (fun X w' h1 h2 h3 h4 => lTokens X w' h1 h2 h3 h4)
  by_cases hbig : 65536 < s.size
  · have HT := Lib.hid (tokR_big (l := bl s) (by rw [size_bl]; exact hbig))
    have q1 : decide (65536 < (s.size : Int)) = true := decide_eq_true (by omega)
    go_enter Tryd.func9, Tryd.ntmps9
    go_wp2_with fail
    refine (HC.out s _ hs HE.out HK.out HG.out).mono ?_
    intro e w1 hp
    obtain ⟨rfl, hb⟩ := ts_err HT.out hp
    have Hb := Lib.hid hb; clear hb hp
    go_wp2_with fail
    go_ret
    exact ⟨rfl, Hb.out.trans ((below_alloc _ _).mono Hb.out.size)⟩
  · have hs16 : s.size ≤ 65536 := by omega
    have HT0 := Lib.hid (tokR_small (l := bl s) (by rw [size_bl]; exact hbig))
    unfold maxLen at hs
    cases hx : toksT (bl s) 0 with
    | ok ts =>
      have HT := Lib.hid (show tokR (bl s) = .ok ts by rw [HT0.out, hx])
      have HX := Lib.hid (toks_ext (bl s) 0 ts hx)
      clear hx hbig
      go_enter Tryd.func9, Tryd.ntmps9
      go_wp2_with fail
      refine (HC.out s _ (by unfold maxLen; omega) HE.out HK.out HG.out).mono ?_
      intro e w1 hp
      obtain ⟨p, c, rfl, _, hb⟩ := ts_ok HT.out hp
      have Hb := Lib.hid (hb.trans ((below_alloc w1 (.cells #[.int .i64 0, .int .i64 0] 25)).mono hb.size)); clear hb hp
      by_cases h3 : 65533 < s.size
      · have q1 : decide (65533 < (s.size : Int)) = true := decide_eq_true (by omega)
        go_wp2_with fail
        refine (lvLives _ (HE.out.at Hb.out) (HK.out.at Hb.out) (HG.out.at Hb.out)).mono ?_
        rintro e w5 ⟨rfl, hb⟩
        have Hb5 := Lib.hid (Hb.out.trans (hb.mono Hb.out.size)); clear hb
        go_wp2_with fail
        go_ret
        exact ⟨rfl, Hb5.out⟩
      · have q1 : decide (65533 < (s.size : Int)) = false := decide_eq_false (by omega)
        go_wp2_with fail
        obtain ⟨X, hX⟩ : ∃ X, X = s ++ (⟨#[10, 36]⟩ : ByteArray) := ⟨_, rfl⟩
        have hbX : bl X = bl s ++ [10, 36] := by rw [hX]; simp [bl]
        have hXs : X.size = s.size + 2 := by rw [← size_bl, hbX]; simp
        have HT2 := Lib.hid (show tokR (bl X) = .error (31, s.size + 1) by rw [tokR_small (by rw [size_bl]; omega), hbX, HX.out, size_bl]; simp)
        have hXm : X.size ≤ 65536 := by omega
        clear hbX hXs
        try rw [← hX]
        clear hX
        refine (HC.out X _ (by unfold maxLen; omega) (HE.out.at Hb.out) (HK.out.at Hb.out) (HG.out.at Hb.out)).mono ?_
        intro e w2 hp
        obtain ⟨rfl, hb⟩ := ts_err HT2.out hp
        have Hb2 := Lib.hid (Hb.out.trans (hb.mono Hb.out.size)); clear hb hp
        go_wp2_with fail
        refine (lvLives _ (HE.out.at (Hb2.out.trans ((below_alloc _ _).mono Hb2.out.size))) (HK.out.at (Hb2.out.trans ((below_alloc _ _).mono Hb2.out.size))) (HG.out.at (Hb2.out.trans ((below_alloc _ _).mono Hb2.out.size)))).mono ?_
        rintro e w5 ⟨rfl, hb⟩
        have Hb5 := Lib.hid (Hb2.out.trans (((below_alloc _ _).trans (hb.mono (by simp))).mono Hb2.out.size)); clear hb
        go_wp2_with fail
        go_ret
        exact ⟨rfl, Hb5.out⟩
    | error ep =>
      obtain ⟨er, p⟩ := ep
      have HT := Lib.hid (show tokR (bl s) = .error (er, p) by rw [HT0.out, hx])
      obtain ⟨_, h2, h3, ⟨ts, h4⟩, h5⟩ := toks_fault (bl s) 0 er p hx
      rw [Nat.sub_zero] at h4 h5
      rw [size_bl, Nat.zero_add] at h2
      have HD := Lib.hid (h5 0); clear h5
      have HTK := Lib.hid h4; clear h4
      have qe : (er == 0) = false := beq_eq_false_iff_ne.2 h3
      have q1 : decide (65536 < (s.size : Int)) = false := decide_eq_false (by omega)
      have hp0 : (0 : Int) ≤ (p : Int) := by omega
      have hpi : (p : Int) < (s.size : Int) := by omega
      have hpq : decide ((p : Int) < 0) = false := decide_eq_false (by omega)
      have hpr : decide ((s.size : Int) ≤ (p : Int)) = false := decide_eq_false (by omega)
      clear hx h3 hbig
      go_enter Tryd.func9, Tryd.ntmps9
      go_wp2_with fail
      refine (HC.out s _ (by unfold maxLen; omega) HE.out HK.out HG.out).mono ?_
      intro e w1 hp
      obtain ⟨rfl, hb⟩ := ts_err HT.out hp
      have Hb := Lib.hid (hb.trans ((below_alloc w1 (.cells #[.int .i64 er, .int .i64 (p : Int)] 25)).mono hb.size)); clear hb hp
      go_wp2_with fail
      obtain ⟨X, hX⟩ : ∃ X, X = s.extract 0 p := ⟨_, rfl⟩
      have hbX : bl X = (bl s).take p := by rw [hX, bl_extract, List.drop_zero, Nat.sub_zero]
      have hXs : X.size ≤ 65536 := by rw [← size_bl, hbX, List.length_take, size_bl]; omega
      have HT2 := Lib.hid (show tokR (bl X) = .ok ts by rw [tokR_small (by rw [size_bl]; omega), hbX, HTK.out])
      try rw [← hX]
      clear hX hbX
      refine (HC.out X _ (by unfold maxLen; omega) (HE.out.at Hb.out) (HK.out.at Hb.out) (HG.out.at Hb.out)).mono ?_
      intro e w2 hp
      obtain ⟨p2, c2, rfl, _, hb⟩ := ts_ok HT2.out hp
      obtain ⟨x0, x1⟩ := two ((hb.block w1.heap.size (by simp)).trans (heap_alloc_new w1 (.cells #[.int .i64 er, .int .i64 (p : Int)] 25)))
      have hsz2 : w1.heap.size < w2.heap.size := by have := hb.size; simp at this; omega
      have Hb2 := Lib.hid (Hb.out.trans (hb.mono Hb.out.size)); clear hb hp
      have y0 := ((below_alloc w2 (.cells #[.int .i64 0, .int .i64 0] 25)).cell (p := ⟨w1.heap.size, 0, none⟩) hsz2).trans x0
      have y1 := ((below_alloc w2 (.cells #[.int .i64 0, .int .i64 0] 25)).cell (p := ⟨w1.heap.size, 1, none⟩) hsz2).trans x1
      go_wp2_with fail
      obtain ⟨Y, hY⟩ : ∃ Y, Y = s.extract p s.size := ⟨_, rfl⟩
      have hbY : bl Y = (bl s).drop p := by rw [hY, bl_extract]; exact List.take_of_length_le (by simp)
      have hYs : Y.size ≤ 65536 := by rw [← size_bl, hbY, List.length_drop, size_bl]; omega
      have HT3 := Lib.hid (show tokR (bl Y) = .error (er, 0) by rw [tokR_small (by rw [size_bl]; omega), hbY, HD.out])
      try rw [← hY]
      clear hY hbY
      have Hb2a := Lib.hid (Hb2.out.trans ((below_alloc w2 (.cells #[.int .i64 0, .int .i64 0] 25)).mono Hb2.out.size))
      refine (HC.out Y _ (by unfold maxLen; omega) (HE.out.at Hb2a.out) (HK.out.at Hb2a.out) (HG.out.at Hb2a.out)).mono ?_
      intro e w3 hp
      obtain ⟨rfl, hb⟩ := ts_err HT3.out hp
      have z0 := (hb.cell (p := ⟨w1.heap.size, 0, none⟩) (by simp; omega)).trans y0
      obtain ⟨g0, g1⟩ := two ((hb.block w2.heap.size (by simp)).trans (heap_alloc_new w2 (.cells #[.int .i64 0, .int .i64 0] 25)))
      have hsz3 : w2.heap.size < w3.heap.size := by have := hb.size; simp at this; omega
      have Hb3 := Lib.hid (Hb2a.out.trans (hb.mono Hb2a.out.size)); clear hb hp x0 x1 y0 y1
      have Z0 := ((below_alloc w3 (.cells #[.int .i64 er, .int .i64 0] 25)).cell (p := ⟨w1.heap.size, 0, none⟩) (by show w1.heap.size < w3.heap.size; omega)).trans z0
      have G0 := ((below_alloc w3 (.cells #[.int .i64 er, .int .i64 0] 25)).cell (p := ⟨w2.heap.size, 0, none⟩) hsz3).trans g0
      have G1 := ((below_alloc w3 (.cells #[.int .i64 er, .int .i64 0] 25)).cell (p := ⟨w2.heap.size, 1, none⟩) hsz3).trans g1
      clear z0 g0 g1
      have Hb3a := Lib.hid (Hb3.out.trans ((below_alloc w3 (.cells #[.int .i64 er, .int .i64 0] 25)).mono Hb3.out.size))
      go_wp2_with fail
      refine (lvLives _ (HE.out.at Hb3a.out) (HK.out.at Hb3a.out) (HG.out.at Hb3a.out)).mono ?_
      rintro e w5 ⟨rfl, hb⟩
      have Hb5 := Lib.hid (Hb3a.out.trans (hb.mono Hb3a.out.size)); clear hb
      go_wp2_with fail
      go_ret
      exact ⟨rfl, Hb5.out⟩
end Go.Proofs.YtcigdlpljjkplaaDoor
