/- The contract of lex.Tokens at every source. Conditions: the tables lie as the program lays them. -/
import Derived.Test.YtcigdlpljjkplaaDoorK3
import Derived.Test.YtcigdlpljjkplaaDoorJ2
import Derived.WalkMore
namespace Go.Proofs.YtcigdlpljjkplaaDoor
open Go.RowKit

theorem qT_bound (l acc : List UInt8) (k : Nat) : ∀ b k', qT l acc k = some (b, k') → k < k' ∧ k' ≤ k + l.length := by
  induction l, acc, k using qT.induct with
  | case1 acc k => intro b k' h; rw [qT_nil] at h; cases h
  | case2 acc k c r h34 hb => intro b k' h; rw [qT_end _ _ _ h34, if_pos hb] at h; cases h
  | case3 acc k c r h34 hb => intro b k' h; rw [qT_end _ _ _ h34, if_neg hb] at h; simp at h; simp; omega
  | case4 acc k c r h34 hq => intro b k' h; rw [qT_none _ _ h34 hq] at h; cases h
  | case5 acc k c r h34 v m hq ih =>
    intro b k' h
    rw [qT_some _ _ h34 hq] at h
    have h1 := ih b k' h
    have h2 := stepQ_pos hq
    simp at h1 h2 ⊢
    omega
/-- What stands at the head, if all is well, takes a byte at least and is no longer than the source. -/
theorem head_len {c : UInt8} {r : List UInt8} {t : Tk} {n : Nat} (h : headT (c :: r) = ((0, t), n)) : 1 ≤ n ∧ n ≤ (c :: r).length := by
  unfold headT at h
  split at h
  · unfold quotedT at h
    split at h
    · simp at h
    · rename_i b k hq
      have h1 := qT_bound _ _ _ _ _ hq
      simp at h h1 ⊢
      omega
  · unfold firstT at h
    simp only at h
    split at h
    · rename_i hw
      have h1 : 1 ≤ (runL (c :: r)).length := by rw [runL, List.takeWhile_cons, hw]; simp
      have h2 : (runL (c :: r)).length ≤ (c :: r).length := (List.takeWhile_prefix _).length_le
      simp only [Prod.mk.injEq] at h
      omega
    · split at h
      · rename_i g hg
        have h2 : ∀ g ∈ signsT, 1 ≤ g.size := by decide
        have h3 := h2 g (by
          unfold sgFrom at hg
          exact List.mem_of_find?_eq_some hg)
        have h4 : (bl g).isPrefixOf (c :: r) = true := by
          unfold sgFrom at hg
          exact List.find?_some (p := fun s => (bl s).isPrefixOf (c :: r)) hg
        have h5 := (List.isPrefixOf_iff_prefix.1 h4).length_le
        rw [size_bl] at h5
        simp only [Prod.mk.injEq] at h
        omega
      · simp at h
theorem map_app {a b : List Tk} {x : Except (Int × Nat) (List Tk)} : (x.map (a ++ ·)).map (b ++ ·) = x.map ((b ++ a) ++ ·) := by
  cases x <;> simp [Except.map]
theorem map_nilT {x : Except (Int × Nat) (List Tk)} : x = x.map (([] : List Tk) ++ ·) := by
  cases x <;> simp [Except.map]
/-- A source's tokens, or the error and its place. -/
def tokR (l : List UInt8) : Except (Int × Nat) (List Tk) := if 65536 < l.length then .error (30, 65536) else toksT l 0
def TsPost (x : Except (Int × Nat) (List Tk)) (w : World) (e : Ending) (w' : World) : Prop :=
  match x with
  | .error (c, p) => e = .returned (.tuple #[.slice none 0 0, .agg #[.int .i64 c, .int .i64 (p : Int)]]) ∧ Below w.heap.size w w'
  | .ok ts => ∃ v, e = .returned (.tuple #[v, .agg #[.int .i64 0, .int .i64 0]]) ∧ w'.ownsRow w.heap.size 36 4 v ts.length (ts.flatMap Tk.cells) ∧ Below w.heap.size w w'
structure TsRel (s : ByteArray) (W : World) (k : Nat) (ts : List Tk) (v i : Value) (wr : World) : Prop where
  k_ : k ≤ s.size
  i_ : i = .int .i64 k
  t_ : toksT (bl s) 0 = (toksT ((bl s).drop k) k).map (ts ++ ·)
  l_ : ts.length ≤ k
  b_ : Below W.heap.size W wr
  o_ : wr.ownsRow W.heap.size 36 4 v ts.length (ts.flatMap Tk.cells)
theorem ownT_mono {w : World} {B B' n m : Nat} {e : TypeId} {v : Value} {xs : List Value} (h : w.ownsRow B e m v n xs) (hB : B' ≤ B) : w.ownsRow B' e m v n xs := by
  refine ⟨h.1, ?_⟩
  rcases h.2 with h2 | ⟨g, cap, cur, hv, hb, h3⟩
  · exact .inl h2
  · exact .inr ⟨g, cap, cur, hv, Nat.le_trans hB hb, h3⟩
theorem ownT_block {w w' : World} {B n m : Nat} {e : TypeId} {v : Value} {xs : List Value} (h : w.ownsRow B e m v n xs) (hb : ∀ k, B ≤ k → k < w.heap.size → w'.heap[k]? = w.heap[k]?) : w'.ownsRow B e m v n xs := by
  refine ⟨h.1, ?_⟩
  rcases h.2 with h2 | ⟨g, cap, cur, hv, hB, hg, h3⟩
  · exact .inl h2
  · exact .inr ⟨g, cap, cur, hv, hB, (hb g hB (Array.getElem?_eq_some_iff.1 hg).1).trans hg, h3⟩
theorem ownT_snoc {w : World} {B n : Nat} {v : Value} {ts : List Tk} {x : Tk} (h : w.ownsRow B 36 4 v (ts.length + 1) (ts.flatMap Tk.cells ++ x.cells)) (hn : n = ts.length + 1) : w.ownsRow B 36 4 v n ((ts ++ [x]).flatMap Tk.cells) := by
  subst hn
  rw [List.flatMap_append]
  simpa using h
set_option maxHeartbeats 16000000 in
set_option maxRecDepth 100000 in
theorem lTokens (S : ByteArray) (w : World) (hs : S.size ≤ maxLen) (hE : ErrAt w) (hK : KwAt w) (hG : SgAt w) :
    Calls Tryd.prog 11 #[.string S] w (TsPost (tokR (bl S)) w) := by
  unfold maxLen at hs
  obtain ⟨i0, hi, hzz⟩ := Option.map_eq_some_iff.1 infoTk
  simp only [Prod.mk.injEq] at hzz
  obtain ⟨hz0, hz1, hz2⟩ := hzz
  have HI := Lib.hid hi; clear hi
  have HZ0 := Lib.hid hz0; clear hz0
  have HZ1 := Lib.hid hz1; clear hz1
  have HZ2 := Lib.hid hz2; clear hz2
  obtain ⟨R, hR⟩ : ∃ R, R = tokR (bl S) := ⟨_, rfl⟩
  have HRR := Lib.hid hR
  rw [← hR]
  clear hR
  obtain ⟨W, hW⟩ : ∃ W, W = w.alloc (.cells #[.int .i64 0, .int .i64 0] 25) := ⟨_, rfl⟩
  have HBW := Lib.hid (show Below w.heap.size w W by rw [hW]; exact below_alloc _ _)
  have hsW : W.heap.size = w.heap.size + 1 := by rw [hW]; simp
  have HBX := Lib.hid (show W.heap[w.heap.size]? = some (.cells #[.int .i64 0, .int .i64 0] 25 (0, 0)) by rw [hW]; exact heap_alloc_new w _)
  have HE := Lib.hid (hE.at HBW.out); clear hE
  have HK := Lib.hid (hK.at HBW.out); clear hK
  have HG := Lib.hid (hG.at HBW.out); clear hG
  by_cases hbig : 65536 < S.size
  · have q0 : decide ((65536 : Int) < (S.size : Int)) = true := decide_eq_true (by omega)
    have HR := Lib.hid (show R = .error (30, 65536) by rw [HRR.out, tokR, if_pos (by rw [size_bl]; exact hbig)])
    go_enter Tryd.func11, Tryd.ntmps11
    go_wp2_with fail
    rw [← hW]
    clear hW
    have hx := HBX.out
    obtain ⟨x0, x1⟩ := two hx
    have f0 : W.frozen? ⟨w.heap.size, 0, none⟩ = false := Lib.frozen_of_heap hx 0
    have f1 : W.frozen? ⟨w.heap.size, 1, none⟩ = false := Lib.frozen_of_heap hx 1
    have HX := Lib.hid hx; clear hx
    go_step3
    go_wp2_with fail
    first | rw [Exit.noGoto_ret] | skip
    change bodyPost _ _ _ _ _ (putL W w.heap.size 0 [.int .i64 30, .int .i64 65536])
    clear x0 x1 f0 f1
    have hb2 := putL_heap [.int .i64 30, .int .i64 65536] HX.out rfl
    have HBp := Lib.hid (putL_below (Nat.le_refl _) [.int .i64 30, .int .i64 65536] _ 0 HBW.out)
    obtain ⟨W2, hW2⟩ : ∃ W2, W2 = putL W w.heap.size 0 [.int .i64 30, .int .i64 65536] := ⟨_, rfl⟩
    rw [← hW2] at hb2 HBp ⊢
    clear hW2
    obtain ⟨z0, z1⟩ := two (show W2.heap[w.heap.size]? = some (.cells #[.int .i64 30, .int .i64 65536] 25 (0, 0)) from hb2)
    refine bodyPost_ret (v := .tuple #[.slice none 0 0, .agg #[.int .i64 30, .int .i64 65536]]) (by simp [results, Tryd.results11, go_sem, z0, z1]) rfl ?_
    rw [HR.out]
    exact ⟨rfl, HBp.out⟩
  · have q0 : decide ((65536 : Int) < (S.size : Int)) = false := decide_eq_false (by omega)
    have HTR := Lib.hid (show R = toksT (bl S) 0 by rw [HRR.out, tokR, if_neg (by rw [size_bl]; exact hbig)])
    have hs16 : S.size ≤ 65536 := by omega
    clear hbig
    go_enter Tryd.func11, Tryd.ntmps11
    go_wp2_with fail
    rw [← hW]
    clear hW
    go_step3
    go_wp2_with fail
    go_step3
    go_wp2_with fail
    clear q0
    go_loopw [4, 5] (fun v i wr => ∃ k ts, TsRel S W k ts v i wr) (fun _ i _ => S.size - (intOf i).toNat)
    case atStart => exact ⟨0, [], by omega, rfl, map_nilT, by simp, Below.refl _ _, ⟨rfl, .inl ⟨rfl, rfl⟩⟩⟩
    case round =>
      obtain ⟨k, ts, hk, rfl, ht, hl, hb, hown⟩ := hrel
      have HT := Lib.hid ht; clear ht
      have Hb := Lib.hid hb; clear hb
      have hszr := Hb.out.size
      obtain ⟨pn, cn, rfl⟩ := own_sliceT hown
      have HO := Lib.hid hown; clear hown
      by_cases hlt : k < S.size
      · have HD := Lib.hid (drop_get S k hlt)
        have hki : (k : Int) < (S.size : Int) := by omega
        have hk0 : (0 : Int) ≤ (k : Int) := by omega
        rcases hbk : blankB S[k] with _ | _
        · have hbn : ¬ S[k].toNat = 9 ∧ ¬ S[k].toNat = 10 ∧ ¬ S[k].toNat = 13 ∧ ¬ S[k].toNat = 32 := by
            unfold blankB at hbk
            simp at hbk
            omega
          have q9 : ((S[k].toNat : Int) == 9) = false := by simp; omega
          have q10 : ((S[k].toNat : Int) == 10) = false := by simp; omega
          have q13 : ((S[k].toNat : Int) == 13) = false := by simp; omega
          have q32 : ((S[k].toNat : Int) == 32) = false := by simp; omega
          by_cases h35 : S[k].toNat = 35
          · have q35 : ((S[k].toNat : Int) == 35) = true := by simp [h35]
            obtain ⟨X, hX⟩ : ∃ X, X = S.extract k S.size := ⟨_, rfl⟩
            have hbX : bl X = S[k] :: (bl S).drop (k + 1) := by
              rw [hX, bl_extract, ← HD.out]
              exact List.take_of_length_le (by simp)
            obtain ⟨m, hm, hm1, hm2⟩ := skip_span ((bl S).drop (k + 1))
            have h35b : S[k] ≠ 10 := by intro e; rw [e] at h35; exact absurd h35 (by decide)
            have HIX := Lib.hid (show Lib.indexByte X.data.toList (10 : Int).toNat.toUInt8 = if m = -1 then -1 else m + 1 by
              rw [show X.data.toList = S[k] :: (bl S).drop (k + 1) from hbX, show (10 : Int).toNat.toUInt8 = 10 from rfl, Lib.indexByte, hm, if_neg (by simpa using h35b)]
              simp)
            have HH := Lib.hid (toks_hash (r := (bl S).drop (k + 1)) (k := k) hbk h35)
            clear hbn hbk h35 h35b hbX
            by_cases hm0 : m = -1
            · obtain ⟨hd, htl⟩ := hm1 hm0
              rw [if_pos hm0] at HIX
              have HFIN := Lib.hid (show R = .ok (ts ++ [⟨8, ⟨#[]⟩, 0, S.size⟩]) by
                rw [HTR.out, HT.out, HD.out, HH.out, hd, htl, toks_nil, show k + 1 + ((bl S).drop (k + 1)).length = S.size by rw [List.length_drop, size_bl]; omega]; rfl)
              clear hm hm1 hm2 hd htl hm0
              have hx := ((Hb.out.block w.heap.size (by omega)).trans HBX.out)
              obtain ⟨x0, x1⟩ := two hx
              have f0 : wr.frozen? ⟨w.heap.size, 0, none⟩ = false := Lib.frozen_of_heap hx 0
              have f1 : wr.frozen? ⟨w.heap.size, 1, none⟩ = false := Lib.frozen_of_heap hx 1
              have HX := Lib.hid hx; clear hx
              go_wp2_with fail
              rw [← hX]
              clear hX
              refine (Tryd.strings_IndexByte _ _ _).mono ?_
              rintro e w1 ⟨rfl, hw1⟩
              rw [HIX.out, hw1]
              clear hw1
              go_wp2_with (at_builtin; refine wpList_append_own _ rfl _ _ 22 rfl W.heap.size 36 i0 _ 4 40 Tryd.underlying22 HI.out HZ0.out HZ1.out HZ2.out rfl (by decide) _ _ _ rfl (ownT_below HO.out (below_alloc _ _)) ⟨wr.heap.size, 0, none⟩ 1 1 (Tk.cells ⟨8, ⟨#[]⟩, 0, (S.size : Int)⟩) rfl rfl (new_cells wr (Tk.cells ⟨8, ⟨#[]⟩, 0, (S.size : Int)⟩) 36) ?c1 ?c2 ?c3 ?c4 ?_)
              case c1 => exact tk_one _
              case c2 => unfold maxLen; omega
              case c3 => omega
              case c4 => simp; omega
              intro v' w2 hown' hgrow _
              have HO' := Lib.hid (ownT_snoc hown' rfl); clear hown'
              have HB2 := Lib.hid ((Hb.out.alloc (by omega) _).grown hgrow (by simp; omega) (fun g hg => ownT_lt HO.out hg)); clear hgrow
              clear x0 x1 f0 f1 HX
              obtain ⟨pf, cf, rfl⟩ := own_sliceT HO'.out
              have hx2 := (HB2.out.block w.heap.size (by omega)).trans HBX.out
              obtain ⟨x0, x1⟩ := two hx2
              have f0 : w2.frozen? ⟨w.heap.size, 0, none⟩ = false := Lib.frozen_of_heap hx2 0
              have f1 : w2.frozen? ⟨w.heap.size, 1, none⟩ = false := Lib.frozen_of_heap hx2 1
              have HX2 := Lib.hid hx2; clear hx2
              go_wp2_with fail
              rw [Exit.noGoto_ret]
              change bodyPost _ _ _ _ _ (putL w2 w.heap.size 0 [.int .i64 0, .int .i64 0])
              clear x0 x1 f0 f1
              have hb2 := putL_heap [.int .i64 0, .int .i64 0] HX2.out rfl
              have HOF := Lib.hid (ownT_mono (B' := w.heap.size) (ownT_block (w' := putL w2 w.heap.size 0 [.int .i64 0, .int .i64 0]) HO'.out (fun g hg _ => putL_block (by omega) _ _ _)) (by omega))
              have HBp := Lib.hid (putL_below (Nat.le_refl _) [.int .i64 0, .int .i64 0] _ 0 (HBW.out.trans (HB2.out.mono (by omega))))
              obtain ⟨W2, hW2⟩ : ∃ W2, W2 = putL w2 w.heap.size 0 [.int .i64 0, .int .i64 0] := ⟨_, rfl⟩
              rw [← hW2] at hb2 HOF HBp ⊢
              clear hW2
              obtain ⟨z0, z1⟩ := two (show W2.heap[w.heap.size]? = some (.cells #[.int .i64 0, .int .i64 0] 25 (0, 0)) from hb2)
              refine bodyPost_ret (v := .tuple #[.slice pf (ts.length + 1) cf, .agg #[.int .i64 0, .int .i64 0]]) (by simp [results, Tryd.results11, go_sem, z0, z1]) rfl ?_
              rw [HFIN.out]
              exact ⟨_, rfl, by have h9 := HOF.out; simpa using h9, HBp.out⟩
            · obtain ⟨hm3, hm4, hd, htl⟩ := hm2 hm0
              rw [if_neg hm0] at HIX
              obtain ⟨j, hj⟩ : ∃ j : Nat, m = (j : Int) := ⟨m.toNat, by omega⟩
              have hjt : m.toNat = j := by omega
              rw [hjt] at hd htl hm4
              rw [hj] at HIX
              have hjl : k + 1 + j < S.size := by rw [List.length_drop, size_bl] at hm4; omega
              have HNX := Lib.hid (show toksT (bl S) 0 = (toksT ((bl S).drop (k + (j + 1))) (k + (j + 1))).map (ts ++ ·) by
                rw [HT.out, HD.out, HH.out, hd, htl, List.drop_drop, show k + 1 + j = k + (j + 1) by omega])
              clear hm hm1 hm2 hd htl hm0 hm3 hm4 hj hjt
              have hjq : decide (((j : Int) + 1) < 0) = false := decide_eq_false (by omega)
              go_wp2_with fail
              rw [← hX]
              clear hX
              refine (Tryd.strings_IndexByte _ _ _).mono ?_
              rintro e w1 ⟨rfl, hw1⟩
              rw [HIX.out, hw1]
              clear hw1
              go_wp2_with fail
              exact ⟨⟨k + (j + 1), ts, by omega, by go_num, HNX.out, by omega, Hb.out, HO.out⟩, by simp [intOf]; omega⟩
          · have q35 : ((S[k].toNat : Int) == 35) = false := by simp; omega
            obtain ⟨X, hX⟩ : ∃ X, X = S.extract k S.size := ⟨_, rfl⟩
            have hbX : bl X = S[k] :: (bl S).drop (k + 1) := by
              rw [hX, bl_extract, ← HD.out]
              exact List.take_of_length_le (by simp)
            have hXs : X.size = S.size - k := by rw [← size_bl, hbX, ← HD.out, List.length_drop, size_bl]
            have HCALL := Lib.hid (fun w' h1 h2 h3 => lHead X w' (by omega) (by omega) h1 h2 h3)
            have HLEN := Lib.hid (fun (t : Tk) (n : Nat) (h : headT (S[k] :: (bl S).drop (k + 1)) = ((0, t), n)) => head_len h)
            have HERR := Lib.hid (fun (he : (headT (S[k] :: (bl S).drop (k + 1))).1.1 ≠ 0) => toks_err (k := k) hbk h35 he)
            have HOK := Lib.hid (fun (n : Nat) (t : Tk) (he : headT (S[k] :: (bl S).drop (k + 1)) = ((0, t), n)) (hn : 1 ≤ n) => toks_ok (k := k) hbk h35 he hn)
            rw [hbX] at HCALL
            have HQ := Lib.hid (rfl : headT (S[k] :: (bl S).drop (k + 1)) = headT (S[k] :: (bl S).drop (k + 1)))
            clear hbn hbk h35 hbX hXs
            go_wp2_with fail
            rw [← hX]
            clear hX
            refine (HCALL.out _ (HE.out.at Hb.out) (HK.out.at Hb.out) (HG.out.at Hb.out)).mono ?_
            rintro e w1 ⟨rfl, hb1⟩
            have HO1 := Lib.hid (ownT_below HO.out hb1)
            have HB1 := Lib.hid (Hb.out.trans (hb1.mono hszr)); clear hb1
            have hsz1 := HB1.out.size
            clear q9 q10 q13 q32 q35
            generalize hq : headT (S[k] :: (bl S).drop (k + 1)) = Q at HLEN HERR HOK ⊢
            clear HQ
            obtain ⟨⟨er, ⟨kk, tx, nn, pl⟩⟩, ln⟩ := Q
            simp only [Tk.agg]
            rcases her : er == 0 with _ | _
            · have HR := Lib.hid (show R = .error (er, k) by rw [HTR.out, HT.out, HD.out, HERR.out (by simpa using her)]; rfl)
              clear hq
              have HB1A := Lib.hid (HB1.out.trans ((below_alloc w1 (.cells #[.int .i8 kk, .string tx, .int .i64 nn, .int .i64 pl] 36)).mono hsz1))
              have hx := ((HB1A.out.block w.heap.size (by omega)).trans HBX.out)
              obtain ⟨x0, x1⟩ := two hx
              have f0 : (w1.alloc (.cells #[.int .i8 kk, .string tx, .int .i64 nn, .int .i64 pl] 36)).frozen? ⟨w.heap.size, 0, none⟩ = false := Lib.frozen_of_heap hx 0
              have f1 : (w1.alloc (.cells #[.int .i8 kk, .string tx, .int .i64 nn, .int .i64 pl] 36)).frozen? ⟨w.heap.size, 1, none⟩ = false := Lib.frozen_of_heap hx 1
              have HX := Lib.hid hx; clear hx
              go_wp2_with fail
              first | rw [Exit.noGoto_ret] | skip
              change bodyPost _ _ _ _ _ (putL (w1.alloc (.cells #[.int .i8 kk, .string tx, .int .i64 nn, .int .i64 pl] 36)) w.heap.size 0 [.int .i64 er, .int .i64 (k : Int)])
              clear x0 x1 f0 f1
              have hb2 := putL_heap [.int .i64 er, .int .i64 (k : Int)] HX.out rfl
              have HBp := Lib.hid (putL_below (Nat.le_refl _) [.int .i64 er, .int .i64 (k : Int)] _ 0 (HBW.out.trans (HB1A.out.mono (by omega))))
              obtain ⟨W2, hW2⟩ : ∃ W2, W2 = putL (w1.alloc (.cells #[.int .i8 kk, .string tx, .int .i64 nn, .int .i64 pl] 36)) w.heap.size 0 [.int .i64 er, .int .i64 (k : Int)] := ⟨_, rfl⟩
              rw [← hW2] at hb2 HBp ⊢
              clear hW2
              obtain ⟨z0, z1⟩ := two (show W2.heap[w.heap.size]? = some (.cells #[.int .i64 er, .int .i64 (k : Int)] 25 (0, 0)) from hb2)
              refine bodyPost_ret (v := .tuple #[.slice none 0 0, .agg #[.int .i64 er, .int .i64 (k : Int)]]) (by simp [results, Tryd.results11, go_sem, z0, z1]) rfl ?_
              rw [HR.out]
              exact ⟨rfl, HBp.out⟩
            · obtain rfl : er = 0 := beq_iff_eq.1 her
              obtain ⟨hn1, hn2⟩ := HLEN.out ⟨kk, tx, nn, pl⟩ ln rfl
              have hn3 : k + ln ≤ S.size := by rw [← HD.out, List.length_drop, size_bl] at hn2; omega
              have HNX := Lib.hid (show toksT (bl S) 0 = (toksT ((bl S).drop (k + ln)) (k + ln)).map ((ts ++ [⟨kk, tx, nn, k⟩]) ++ ·) by
                rw [HT.out, HD.out, HOK.out ln ⟨kk, tx, nn, pl⟩ rfl hn1, ← HD.out, List.drop_drop, ← map_app]; rfl)
              clear hq her hn2
              go_wp2_with (at_builtin; refine wpList_append_own _ rfl _ _ 22 rfl W.heap.size 36 i0 _ 4 40 Tryd.underlying22 HI.out HZ0.out HZ1.out HZ2.out rfl (by decide) _ _ _ rfl (ownT_below HO1.out ((below_alloc _ _).trans ((below_alloc _ _).mono (by simp)))) ⟨w1.heap.size + 1, 0, none⟩ 1 1 (Tk.cells ⟨kk, tx, nn, k⟩) rfl rfl (by simpa [Tk.cells] using new_cells (w1.alloc _) (Tk.cells ⟨kk, tx, nn, k⟩) 36) ?c1 ?c2 ?c3 ?c4 ?_)
              case c1 => exact tk_one _
              case c2 => unfold maxLen; omega
              case c3 => omega
              case c4 => first | omega | (simp; omega)
              intro v' w2 hown' hgrow _
              have HO' := Lib.hid hown'; clear hown'
              have HGr := Lib.hid hgrow; clear hgrow
              go_wp2_with fail
              exact ⟨⟨k + ln, ts ++ [⟨kk, tx, nn, k⟩], by omega, by go_num, HNX.out, by simp; omega, ((HB1.out.alloc hsz1 _).alloc (by simp; omega) _).grown HGr.out (by simp; omega) (fun g hg => ownT_lt HO1.out hg), (by have h9 := HO'.out; rw [← hsW] at h9; exact ownT_snoc h9 (by simp))⟩, by simp [intOf]; omega⟩
        · have HNX := Lib.hid (show toksT (bl S) 0 = (toksT ((bl S).drop (k + 1)) (k + 1)).map (ts ++ ·) by rw [HT.out, HD.out, toks_blank hbk])
          have hbn : S[k].toNat = 9 ∨ S[k].toNat = 10 ∨ S[k].toNat = 13 ∨ S[k].toNat = 32 := by
            unfold blankB at hbk
            simpa [or_assoc] using hbk
          clear hbk
          rcases q9 : ((S[k].toNat : Int) == 9) with _ | _
          · rcases q10 : ((S[k].toNat : Int) == 10) with _ | _
            · rcases q13 : ((S[k].toNat : Int) == 13) with _ | _
              · have q32 : ((S[k].toNat : Int) == 32) = true := by simp at q9 q10 q13 ⊢; omega
                clear hbn
                go_wp2_with fail
                exact ⟨⟨k + 1, ts, by omega, by go_num, HNX.out, by omega, Hb.out, HO.out⟩, by simp [intOf]; omega⟩
              · clear hbn
                go_wp2_with fail
                exact ⟨⟨k + 1, ts, by omega, by go_num, HNX.out, by omega, Hb.out, HO.out⟩, by simp [intOf]; omega⟩
            · clear hbn
              go_wp2_with fail
              exact ⟨⟨k + 1, ts, by omega, by go_num, HNX.out, by omega, Hb.out, HO.out⟩, by simp [intOf]; omega⟩
          · clear hbn
            go_wp2_with fail
            exact ⟨⟨k + 1, ts, by omega, by go_num, HNX.out, by omega, Hb.out, HO.out⟩, by simp [intOf]; omega⟩
      · obtain rfl : k = S.size := by omega
        have HFIN := Lib.hid (show R = .ok (ts ++ [⟨8, ⟨#[]⟩, 0, S.size⟩]) by
          rw [HTR.out, HT.out, List.drop_of_length_le (by rw [size_bl]; exact Nat.le_refl _), toks_nil]; rfl)
        have hx := ((Hb.out.block w.heap.size (by omega)).trans HBX.out)
        obtain ⟨x0, x1⟩ := two hx
        have f0 : wr.frozen? ⟨w.heap.size, 0, none⟩ = false := Lib.frozen_of_heap hx 0
        have f1 : wr.frozen? ⟨w.heap.size, 1, none⟩ = false := Lib.frozen_of_heap hx 1
        have HX := Lib.hid hx; clear hx
        go_wp2_with (at_builtin; refine wpList_append_own _ rfl _ _ 22 rfl W.heap.size 36 i0 _ 4 40 Tryd.underlying22 HI.out HZ0.out HZ1.out HZ2.out rfl (by decide) _ _ _ rfl (ownT_below HO.out (below_alloc _ _)) ⟨wr.heap.size, 0, none⟩ 1 1 (Tk.cells ⟨8, ⟨#[]⟩, 0, (S.size : Int)⟩) rfl rfl (new_cells wr (Tk.cells ⟨8, ⟨#[]⟩, 0, (S.size : Int)⟩) 36) ?c1 ?c2 ?c3 ?c4 ?_)
        case c1 => exact tk_one _
        case c2 => unfold maxLen; omega
        case c3 => omega
        case c4 => simp; omega
        intro v' w2 hown' hgrow _
        have HO' := Lib.hid (ownT_snoc hown' rfl); clear hown'
        have HB2 := Lib.hid ((Hb.out.alloc (by omega) _).grown hgrow (by simp; omega) (fun g hg => ownT_lt HO.out hg)); clear hgrow
        clear x0 x1 f0 f1 HX
        obtain ⟨pf, cf, rfl⟩ := own_sliceT HO'.out
        have hx2 := (HB2.out.block w.heap.size (by omega)).trans HBX.out
        obtain ⟨x0, x1⟩ := two hx2
        have f0 : w2.frozen? ⟨w.heap.size, 0, none⟩ = false := Lib.frozen_of_heap hx2 0
        have f1 : w2.frozen? ⟨w.heap.size, 1, none⟩ = false := Lib.frozen_of_heap hx2 1
        have HX2 := Lib.hid hx2; clear hx2
        go_wp2_with fail
        rw [Exit.noGoto_ret]
        change bodyPost _ _ _ _ _ (putL w2 w.heap.size 0 [.int .i64 0, .int .i64 0])
        clear x0 x1 f0 f1
        have hb2 := putL_heap [.int .i64 0, .int .i64 0] HX2.out rfl
        have HOF := Lib.hid (ownT_mono (B' := w.heap.size) (ownT_block (w' := putL w2 w.heap.size 0 [.int .i64 0, .int .i64 0]) HO'.out (fun g hg _ => putL_block (by omega) _ _ _)) (by omega))
        have HBp := Lib.hid (putL_below (Nat.le_refl _) [.int .i64 0, .int .i64 0] _ 0 (HBW.out.trans (HB2.out.mono (by omega))))
        obtain ⟨W2, hW2⟩ : ∃ W2, W2 = putL w2 w.heap.size 0 [.int .i64 0, .int .i64 0] := ⟨_, rfl⟩
        rw [← hW2] at hb2 HOF HBp ⊢
        clear hW2
        obtain ⟨z0, z1⟩ := two (show W2.heap[w.heap.size]? = some (.cells #[.int .i64 0, .int .i64 0] 25 (0, 0)) from hb2)
        refine bodyPost_ret (v := .tuple #[.slice pf (ts.length + 1) cf, .agg #[.int .i64 0, .int .i64 0]]) (by simp [results, Tryd.results11, go_sem, z0, z1]) rfl ?_
        rw [HFIN.out]
        exact ⟨_, rfl, by have h9 := HOF.out; simpa using h9, HBp.out⟩
end Go.Proofs.YtcigdlpljjkplaaDoor
