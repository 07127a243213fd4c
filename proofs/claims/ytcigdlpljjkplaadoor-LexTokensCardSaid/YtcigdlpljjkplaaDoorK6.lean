/- The contracts of the reference's quoted and next. Conditions: a text takes at most 2^16 bytes. -/
import Derived.Test.YtcigdlpljjkplaaDoorK5
import Derived.Test.YtcigdlpljjkplaaDoorK4
namespace Go.Proofs.YtcigdlpljjkplaaDoor
open Go.RowKit

/-- What the reference's quoted answers. -/
def qdR (l : List UInt8) : Value := match qT (l.drop 1) [] 1 with | none => .tuple #[.string ⟨#[]⟩, .int .i64 0] | some (b, k) => .tuple #[.string ⟨b.toArray⟩, .int .i64 (k : Int)]
theorem qdR_none {l : List UInt8} (h : qT (l.drop 1) [] 1 = none) : qdR l = .tuple #[.string ⟨#[]⟩, .int .i64 0] := by rw [qdR, h]
theorem qdR_some {l b : List UInt8} {k : Nat} (h : qT (l.drop 1) [] 1 = some (b, k)) : qdR l = .tuple #[.string ⟨b.toArray⟩, .int .i64 (k : Int)] := by rw [qdR, h]
structure KqRel (s : ByteArray) (w : World) (k : Nat) (acc : List UInt8) (v i : Value) (wr : World) : Prop where
  k1 : 1 ≤ k
  k_ : k ≤ s.size
  i_ : i = .int .i64 k
  q_ : qT ((bl s).drop 1) [] 1 = qT ((bl s).drop k) acc k
  l_ : acc.length ≤ k
  o_ : wr.ownsRowF w.heap.size 5 1 v acc.length (Lib.byteCells acc)
  b_ : Below w.heap.size w wr
set_option maxHeartbeats 8000000 in
set_option maxRecDepth 100000 in
theorem kQd (s : ByteArray) (w : World) (h0 : 0 < s.size) (hs : s.size ≤ 65536) (h34 : s[0].toNat = 34) :
    Calls Tryd.prog 51 #[.string s] w fun e w' => e = .returned (qdR (bl s)) ∧ Below w.heap.size w w' := by
  obtain ⟨i0, hi, hz0, hz1, hz2⟩ := info_parts infoByte
  have HI := Lib.hid hi; clear hi
  have HZ0 := Lib.hid hz0; clear hz0
  have HZ1 := Lib.hid hz1; clear hz1
  have HZ2 := Lib.hid hz2; clear hz2
  have g : s.toList.isEmpty = false := by rw [ByteArray.toList_eq, Bool.eq_false_iff]; intro h; rw [List.isEmpty_iff_length_eq_zero] at h; have := size_bl s; unfold bl at this; omega
  have hi0 : (0 : Int) < (s.size : Int) := by omega
  have q34 : ((s[0].toNat : Int) != 34) = false := by simp; omega
  have q34' : ((s[0].toNat : Int) == 34) = true := by simp; omega
  clear h34
  obtain ⟨R, hR⟩ : ∃ R, R = qdR (bl s) := ⟨_, rfl⟩
  have HRR := Lib.hid hR
  rw [← hR]
  clear hR
  go_enter Tryd.func51, Tryd.ntmps51
  go_wp2_with fail
  clear q34 q34' g
  go_loopw [4, 5] (fun v i wr => ∃ k acc, KqRel s w k acc v i wr) (fun _ i _ => s.size - (intOf i).toNat)
  case atStart => exact ⟨1, [], by omega, by omega, rfl, rfl, by simp, World.ownsRowF_nil _ _ _ _, Below.refl _ _⟩
  case round =>
    obtain ⟨k, acc, h1, hk, rfl, hq, hl, hown, hb⟩ := hrel
    have HQ := Lib.hid hq; clear hq
    have Hb := Lib.hid hb; clear hb
    have hszr := Hb.out.size
    obtain ⟨pn, cn, rfl⟩ := own_slice4 hown
    have HO := Lib.hid hown; clear hown
    by_cases hlt : k < s.size
    · have hki : (k : Int) < (s.size : Int) := by omega
      have hk0 : (0 : Int) ≤ (k : Int) := by omega
      have hkd : decide ((k : Int) < (s.size : Int)) = true := decide_eq_true hki
      have HD := Lib.hid (drop_get s k hlt)
      by_cases hc : s[k].toNat = 34
      · have qc : ((s[k].toNat : Int) != 34) = false := by simp; omega
        have qc' : ((s[k].toNat : Int) == 34) = true := by simp; omega
        have HE := Lib.hid (show qT ((bl s).drop k) acc k = if 200 < acc.length then none else some (acc, k + 1) by rw [HD.out]; exact qT_end _ _ _ hc)
        have hkg : decide ((s.size : Int) ≤ (k : Int)) = false := decide_eq_false (by omega)
        clear hc
        by_cases hbig : 200 < acc.length
        · have q : decide (200 < (acc.length : Int)) = true := decide_eq_true (by omega)
          have HR := Lib.hid (show R = .tuple #[.string ⟨#[]⟩, .int .i64 0] by rw [HRR.out, qdR_none (by rw [HQ.out, HE.out, if_pos hbig])])
          go_wp2_with fail
          go_ret2
          exact ⟨by rw [HR.out] <;> rfl, Hb.out⟩
        · have q : decide (200 < (acc.length : Int)) = false := decide_eq_false (by omega)
          have HR := Lib.hid (show R = .tuple #[.string ⟨acc.toArray⟩, .int .i64 ((k + 1 : Nat) : Int)] by rw [HRR.out, qdR_some (by rw [HQ.out, HE.out, if_neg hbig])])
          have hcv := own_string HO.out
          go_wp2_with fail
          go_ret2
          exact ⟨by rw [HR.out] <;> rfl, Hb.out⟩
      · have qc : ((s[k].toNat : Int) != 34) = true := by simp; omega
        have qc' : ((s[k].toNat : Int) == 34) = false := by simp; omega
        have HP := Lib.hid (fun w' => kPiece s k w' hlt hs hc)
        have HN := Lib.hid (fun h => qT_none (r := (bl s).drop (k + 1)) acc k hc h)
        have HSM := Lib.hid (fun v m h => qT_some (r := (bl s).drop (k + 1)) acc k (v := v) (m := m) hc h)
        clear hc
        go_wp2_with fail
        refine (HP.out _).mono ?_
        rintro e w1 ⟨rfl, hb1⟩
        have HO1 := Lib.hid (own_below HO.out hb1)
        have Hb1 := Lib.hid (Hb.out.trans (hb1.mono hszr)); clear hb1
        have hsz1 := Hb1.out.size
        rcases hp : stepQ ((bl s).drop k) with _ | ⟨v, m⟩
        · rw [stR_none hp]
          have HR := Lib.hid (show R = .tuple #[.string ⟨#[]⟩, .int .i64 0] by rw [HRR.out, qdR_none (by rw [HQ.out, HD.out, HN.out (by rw [← HD.out]; exact hp)])])
          clear hp
          go_wp2_with fail
          go_ret2
          exact ⟨by rw [HR.out] <;> rfl, Hb1.out⟩
        · rw [stR_some hp]
          have hm := stepQ_pos hp
          have hmn : k + m ≤ s.size := by have h9 := hm.2; rw [List.length_drop, size_bl] at h9; omega
          have hm1 := hm.1
          have HNX := Lib.hid (show qT ((bl s).drop k) acc k = qT ((bl s).drop (k + m)) (acc ++ [v]) (k + m) by rw [HD.out, HSM.out v m (by rw [← HD.out]; exact hp), ← HD.out, List.drop_drop])
          clear hp hm
          have hq0 : ((m : Int) == 0) = false := by simp; omega
          go_wp2_with (at_builtin; refine wpApp_row rfl _ _ 54 rfl w.heap.size 5 i0 (.int .u8 0) 1 1 Tryd.underlying54 HI.out HZ0.out HZ1.out HZ2.out rfl (by decide) _ _ _ rfl (HO1.out.alloc _) ⟨w1.heap.size, 0, none⟩ 1 1 (Lib.byteCells [v]) rfl rfl (new_cells w1 (Lib.byteCells [v]) 5) ?d1 ?d2 ?d3 ?d4 ?_)
          case d1 => exact byteCells_one _
          case d2 => unfold maxLen; omega
          case d3 => omega
          case d4 => simp; omega
          intro v1 w2 hown1 hgrow1 _ _
          have HO2 := Lib.hid (own_snoc (L' := acc ++ [v]) hown1 rfl rfl); clear hown1
          have HB2 := Lib.hid ((Hb1.out.alloc hsz1 _).grown hgrow1 (by simp; omega) (fun g hg => (HO1.out.lt g hg).1)); clear hgrow1
          go_wp2_with fail
          exact ⟨⟨k + m, acc ++ [v], by omega, by omega, by go_num, by rw [HQ.out, HNX.out], by simp; omega, HO2.out, HB2.out⟩, by simp [intOf]; omega⟩
    · obtain rfl : k = s.size := by omega
      have HR := Lib.hid (show R = .tuple #[.string ⟨#[]⟩, .int .i64 0] by rw [HRR.out, qdR_none (by rw [HQ.out, List.drop_of_length_le (by rw [size_bl]; exact Nat.le_refl _), qT_nil])])
      go_wp2_with fail
      go_ret2
      exact ⟨by rw [HR.out] <;> rfl, Hb.out⟩
theorem dw_drop {p : UInt8 → Bool} : ∀ l : List UInt8, l.dropWhile p = l.drop (l.takeWhile p).length
  | [] => rfl
  | y :: r => by
    rw [List.dropWhile_cons, List.takeWhile_cons]
    split
    · rw [List.length_cons, List.drop_succ_cons, dw_drop r]
    · rfl
/-- From a place on, past blanks and remarks: nothing of the tokens is lost. -/
def NxtPost (s : ByteArray) (a : Nat) (w : World) (e : Ending) (w' : World) : Prop :=
  ∃ k : Nat, a ≤ k ∧ k ≤ s.size ∧ e = .returned (.int .i64 k) ∧ toksT ((bl s).drop a) a = toksT ((bl s).drop k) k ∧ (∀ h : k < s.size, blankB s[k] = false ∧ s[k].toNat ≠ 35) ∧ w = w'
set_option maxHeartbeats 8000000 in
set_option maxRecDepth 100000 in
theorem kNext (s : ByteArray) (a : Nat) (w : World) (ha : a ≤ s.size) (hs : s.size ≤ 65536) :
    Calls Tryd.prog 30 #[.string s, .int .i64 a] w (NxtPost s a w) := by
  go_enter Tryd.func30, Tryd.ntmps30
  go_wp2_with fail
  go_loop [1] (fun i => ∃ k : Nat, a ≤ k ∧ k ≤ s.size ∧ i = .int .i64 k ∧ toksT ((bl s).drop a) a = toksT ((bl s).drop k) k) (fun i => s.size - (intOf i).toNat)
  case atStart => exact ⟨a, by omega, by omega, rfl, rfl⟩
  case round =>
    obtain ⟨k, hak, hk, rfl, ht⟩ := hrel
    have HT := Lib.hid ht; clear ht
    by_cases hlt : k < s.size
    · have hki : (k : Int) < (s.size : Int) := by omega
      have hk0 : (0 : Int) ≤ (k : Int) := by omega
      have HD := Lib.hid (drop_get s k hlt)
      rcases hbk : blankB s[k] with _ | _
      · have hbn : ¬ s[k].toNat = 9 ∧ ¬ s[k].toNat = 10 ∧ ¬ s[k].toNat = 13 ∧ ¬ s[k].toNat = 32 := by
          unfold blankB at hbk
          simp at hbk
          omega
        have q9 : ((s[k].toNat : Int) == 9) = false := by simp; omega
        have q10 : ((s[k].toNat : Int) == 10) = false := by simp; omega
        have q13 : ((s[k].toNat : Int) == 13) = false := by simp; omega
        have q32 : ((s[k].toNat : Int) == 32) = false := by simp; omega
        by_cases h35 : s[k].toNat = 35
        · have q35 : ((s[k].toNat : Int) == 35) = true := by simp [h35]
          have HH := Lib.hid (toks_hash (r := (bl s).drop (k + 1)) (k := k) hbk h35)
          have HNE := Lib.hid (show s[k] ≠ 10 by intro e; rw [e] at h35; exact absurd h35 (by decide))
          have HTA := Lib.hid (show toksT ((bl s).drop a) a = toksT (s[k] :: (bl s).drop (k + 1)) k by rw [HT.out, HD.out])
          clear hbn hbk h35
          go_wp2_with fail
          go_loop [1] (fun i => ∃ j : Nat, k ≤ j ∧ j ≤ s.size ∧ i = .int .i64 j ∧ ∀ m, (h : m < s.size) → k ≤ m → m < j → s[m] ≠ 10) (fun i => s.size - (intOf i).toNat)
          case atStart => exact ⟨k, by omega, by omega, rfl, fun m h h1 h2 => by omega⟩
          case round =>
            obtain ⟨j, hkj, hj, rfl, hall⟩ := hrel
            have HA := Lib.hid hall; clear hall
            have HX := Lib.hid (fun (hend : j = s.size ∨ ∃ h : j < s.size, s[j] = 10) => show k < j ∧ toksT ((bl s).drop a) a = toksT ((bl s).drop j) j from by
              have hkj2 : k < j := by
                rcases hend with h | ⟨h, h2⟩
                · omega
                · by_cases e : k = j
                  · subst e; exact absurd h2 HNE.out
                  · omega
              refine ⟨hkj2, ?_⟩
              have htw : ((bl s).drop (k + 1)).takeWhile (fun b => b != 10) = ((bl s).drop (k + 1)).take (j - (k + 1)) := by
                refine take_while _ _ (by rw [List.length_drop, size_bl]; omega) (fun m hm hmn => ?_) ?_
                · rw [List.getElem_drop, get_bl s (k + 1 + m) (by rw [List.length_drop, size_bl] at hm; omega)]
                  simpa using HA.out (k + 1 + m) _ (by omega) (by omega)
                · rcases hend with h | ⟨h, h2⟩
                  · left; rw [List.length_drop, size_bl]; omega
                  · right
                    refine ⟨by rw [List.length_drop, size_bl]; omega, ?_⟩
                    rw [List.getElem_drop]
                    have e : k + 1 + (j - (k + 1)) = j := by omega
                    simp only [e]
                    rw [get_bl s j h, h2]
                    rfl
              rw [HTA.out, HH.out, dw_drop, htw, List.length_take, List.length_drop, size_bl, Nat.min_eq_left (by omega), List.drop_drop, show k + 1 + (j - (k + 1)) = j by omega])
            by_cases hjl : j < s.size
            · have hji : (j : Int) < (s.size : Int) := by omega
              have hj0 : (0 : Int) ≤ (j : Int) := by omega
              have hjd : decide ((j : Int) < (s.size : Int)) = true := decide_eq_true hji
              by_cases h10 : s[j] = 10
              · have HY := Lib.hid (HX.out (.inr ⟨hjl, h10⟩))
                have hn : s[j].toNat = 10 := by rw [h10]; rfl
                have qa : ((s[j].toNat : Int) == 10) = true := by simp [hn]
                have qb : ((s[j].toNat : Int) != 10) = false := by simp [hn]
                clear h10 hn
                go_wp2_with fail
                exact ⟨⟨j, by omega, by omega, rfl, HY.out.2⟩, by have := HY.out.1; simp [intOf]; omega⟩
              · have HNJ := Lib.hid h10
                have hn : s[j].toNat ≠ 10 := fun e => h10 (UInt8.toNat_inj.1 (by rw [e]; rfl))
                have qa : ((s[j].toNat : Int) == 10) = false := by simp; omega
                have qb : ((s[j].toNat : Int) != 10) = true := by simp; omega
                clear h10 hn
                go_wp2_with fail
                exact ⟨⟨j + 1, by omega, by omega, by go_num, fun m h h1 h2 => by
                  by_cases e : m = j
                  · subst e; exact HNJ.out
                  · exact HA.out m h h1 (by omega)⟩, by simp [intOf]; omega⟩
            · have HY := Lib.hid (HX.out (.inl (by omega)))
              have hjd : decide ((j : Int) < (s.size : Int)) = false := decide_eq_false (by omega)
              go_wp2_with fail
              exact ⟨⟨j, by omega, by omega, rfl, HY.out.2⟩, by have := HY.out.1; simp [intOf]; omega⟩
        · have q35 : ((s[k].toNat : Int) == 35) = false := by simp; omega
          have HEND := Lib.hid (And.intro hbk h35)
          clear hbn hbk h35
          go_wp2_with fail
          go_ret
          exact ⟨k, hak, hk, rfl, HT.out, fun _ => HEND.out, rfl⟩
      · have HNX := Lib.hid (show toksT ((bl s).drop a) a = toksT ((bl s).drop (k + 1)) (k + 1) by rw [HT.out, HD.out, toks_blank hbk])
        have hbn : s[k].toNat = 9 ∨ s[k].toNat = 10 ∨ s[k].toNat = 13 ∨ s[k].toNat = 32 := by
          unfold blankB at hbk
          simpa [or_assoc] using hbk
        have q35 : ((s[k].toNat : Int) == 35) = false := by simp; omega
        clear hbk
        rcases q9 : ((s[k].toNat : Int) == 9) with _ | _
        · rcases q10 : ((s[k].toNat : Int) == 10) with _ | _
          · rcases q13 : ((s[k].toNat : Int) == 13) with _ | _
            · have q32 : ((s[k].toNat : Int) == 32) = true := by simp at q9 q10 q13 ⊢; omega
              clear hbn
              go_wp2_with fail
              exact ⟨⟨k + 1, by omega, by omega, by go_num, HNX.out⟩, by simp [intOf]; omega⟩
            · clear hbn
              go_wp2_with fail
              exact ⟨⟨k + 1, by omega, by omega, by go_num, HNX.out⟩, by simp [intOf]; omega⟩
          · clear hbn
            go_wp2_with fail
            exact ⟨⟨k + 1, by omega, by omega, by go_num, HNX.out⟩, by simp [intOf]; omega⟩
        · clear hbn
          go_wp2_with fail
          exact ⟨⟨k + 1, by omega, by omega, by go_num, HNX.out⟩, by simp [intOf]; omega⟩
    · obtain rfl : k = s.size := by omega
      go_wp2_with fail
      go_ret
      exact ⟨s.size, hak, hk, rfl, HT.out, fun h => absurd h (by omega), rfl⟩
end Go.Proofs.YtcigdlpljjkplaaDoor
