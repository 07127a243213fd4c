/- The contract of the reference's Join at every list of tokens. Conditions: the tokens lie as they are told. -/
import Derived.Test.YtcigdlpljjkplaaDoorJ3
import Derived.Test.YtcigdlpljjkplaaDoorG8
namespace Go.Proofs.YtcigdlpljjkplaaDoor
open Go.RowKit

structure JrRel (l : List Tk) (w : World) (k : Nat) (pre : List UInt8) (lb : Bool) (v lg i : Value) (wr : World) : Prop where
  k_ : k ≤ l.length
  i_ : i = .int .i64 k
  l_ : lg = .bool lb
  ok : okK l k = true
  b_ : Below w.heap.size w wr
  own : wr.ownsRowF w.heap.size 5 1 v pre.length (Lib.byteCells pre)
  len : pre.length ≤ 66339
  no : lb = false → pre = bodyK l k ∧ pre.length ≤ 65536
  yes : lb = true → 65536 < (bodyK l k).length
theorem own_strF {B : Nat} {w : World} {v : Value} {L L' : List UInt8} {s : ByteArray} (h : w.ownsRowF B 5 1 v (L.length + s.size) (Lib.byteCells L ++ Lib.strCells s)) (e : L' = L ++ bl s) :
    w.ownsRowF B 5 1 v L'.length (Lib.byteCells L') := by
  subst e
  rw [List.length_append, size_bl, Lib.byteCells_append, ← Lib.strCells_eq]
  exact h
theorem tkL_end {x : Tk} (h : (x.k == 8) = true) : tkL x = [] := by
  have h8 : x.k = 8 := beq_iff_eq.1 h
  unfold tkL
  rw [if_neg (by omega), if_neg (by omega), if_neg (by omega), if_pos h8]
set_option maxHeartbeats 16000000 in
set_option maxRecDepth 100000 in
theorem kJoin (l : List Tk) (p : Option Addr) (c : Nat) (w : World) (hp : TksAt w p l) (hn : l.length ≤ maxLen) (hr : ∀ x ∈ l, TkR x) :
    Calls Tryd.prog 20 #[.slice p l.length c] w fun e w' => e = .returned (joinR l) ∧ Below w.heap.size w w' := by
  obtain ⟨i0, hi, hz0, hz1, hz2⟩ := info_parts infoByte
  unfold maxLen at hn
  have HI := Lib.hid hi; clear hi
  have HZ0 := Lib.hid hz0; clear hz0
  have HZ1 := Lib.hid hz1; clear hz1
  have HZ2 := Lib.hid hz2; clear hz2
  have HP := Lib.hid hp; clear hp
  have HR := Lib.hid (fun k (h : k < l.length) => hr l[k] (List.getElem_mem h)); clear hr
  obtain ⟨J, hJ⟩ : ∃ J, J = joinR l := ⟨_, rfl⟩
  have HJ := Lib.hid hJ
  rw [← hJ]
  clear hJ
  go_enter Tryd.func20, Tryd.ntmps20
  go_wp2_with fail
  go_loopw [4, 5, 6] (fun v lg i wr => ∃ k pre lb, JrRel l w k pre lb v lg i wr) (fun _ _ i _ => l.length - (intOf i).toNat)
  case atStart => exact ⟨0, [], false, by omega, rfl, rfl, rfl, Below.refl _ _, World.ownsRowF_nil _ _ _ _, by simp, fun _ => ⟨rfl, by simp⟩, (fun h => nomatch h)⟩
  case round =>
    obtain ⟨k, pre, lb, hrel⟩ := hrel
    obtain ⟨hk, rfl, rfl, hok, hb, hown, hlen, hno, hyes⟩ := hrel
    have Hok := Lib.hid hok; clear hok
    have Hb := Lib.hid hb; clear hb
    have hszr := Hb.out.size
    have HNO := Lib.hid hno; clear hno
    have HYES := Lib.hid hyes; clear hyes
    obtain ⟨pn, cn, rfl⟩ := own_slice4 hown
    have HO := Lib.hid hown; clear hown
    by_cases hlt : k < l.length
    · obtain ⟨a, o, ha, c0, c1, c2, c3, rfl⟩ := HP.out.get Hb.out hlt
      have HS := Lib.hid (okK_step hlt)
      have HX := Lib.hid (HR.out k hlt)
      have HS1 := Lib.hid (fun h => bodyK_step hlt h)
      have HS2 := Lib.hid (fun h => bodyK_end hlt h)
      have HMO := Lib.hid (bodyK_mono l k (k + 1) (by omega))
      obtain ⟨x, hx⟩ : ∃ x, x = l[k] := ⟨_, rfl⟩
      rw [← hx] at c0 c1 c2 c3 HS HX HS1 HS2
      clear hx
      obtain ⟨xk, xt, xn, xp⟩ := x
      simp only at c0 c1 c2 c3
      have hk0 : (0 : Int) ≤ (k : Int) := by omega
      have hki : (k : Int) < (l.length : Int) := by omega
      go_wp2_with fail
      refine (kText ⟨xk, xt, xn, xp⟩ _ HX.out.t_).mono ?_
      rintro e w1 ⟨rfl, hb1⟩
      have y0 := (hb1.cell (p := ⟨a, o + k * 4, none⟩) (by show a < _; omega)).trans c0
      have Hb1 := Lib.hid (Hb.out.trans (hb1.mono hszr))
      have HO1 := Lib.hid (own_below HO.out hb1); clear hb1 c0 c1 c2 c3
      rcases ho : tkOk ⟨xk, xt, xn, xp⟩ with _ | _
      · rw [txR_no ho]
        have HF := Lib.hid (show okK l (k + 1) = false by rw [HS.out, ho]; simp)
        clear ho
        go_wp2_with fail
        go_ret2
        exact ⟨by rw [HJ.out, joinR_no (okK_mono HF.out l.length (by omega))] <;> rfl, Hb1.out⟩
      · rw [txR_ok ho]
        have HOK := Lib.hid ho
        have HTL := Lib.hid (tkL_le ho); clear ho
        obtain ⟨S, hS⟩ : ∃ S : ByteArray, S = ⟨(tkL ⟨xk, xt, xn, xp⟩).toArray⟩ := ⟨_, rfl⟩
        have HSS := Lib.hid (show bl S = tkL ⟨xk, xt, xn, xp⟩ by rw [hS])
        have hSs : S.size ≤ 802 := by rw [← size_bl, HSS.out]; exact HTL.out
        rw [← hS]
        clear hS
        have hsz1 := Hb1.out.size
        rcases h8 : (xk == 8) with _ | _
        · have HF := Lib.hid (show okK l (k + 1) = true by rw [HS.out, Hok.out, HOK.out, h8]; rfl)
          have HST := Lib.hid (HS1.out h8)
          cases lb with
          | true =>
            rcases hzq : decide (0 < k) with _ | _
            all_goals
              go_wp2_with fail
              go_roundw
              case rel => exact ⟨k + 1, pre, true, by omega, by go_num, rfl, HF.out, Hb1.out, HO1.out, hlen, (fun h => nomatch h), fun _ => Nat.lt_of_lt_of_le (HYES.out (by trivial)) HMO.out⟩
              case measure => simp [intOf]; omega
          | false =>
            obtain ⟨hpre, hle⟩ := HNO.out rfl
            have HPRE := Lib.hid hpre; clear hpre
            by_cases hz : k = 0
            · have HZ := Lib.hid hz
              have hzq : decide (0 < k) = false := decide_eq_false (by omega)
              clear hz
              go_wp2_with (at_builtin; refine wpApp_str rfl _ _ 54 9 rfl w.heap.size 5 i0 Tryd.underlying54 Tryd.underlying9 HI.out HZ0.out HZ1.out HZ2.out _ _ _ rfl HO1.out S rfl ?c3 ?c4 ?c5 ?_)
              case c3 => unfold maxLen; first | omega | (simp; omega)
              case c4 => first | omega | (simp; omega)
              case c5 => omega
              intro v' w3 hown' hgrow _ _
              obtain ⟨nx, hnx⟩ : ∃ nx, nx = pre ++ bl S := ⟨_, rfl⟩
              have HO' := Lib.hid (own_strF (L := pre) (L' := nx) hown' hnx); clear hown'
              have HB3 := Lib.hid (Hb1.out.grown hgrow (by omega) (fun g hg => (HO1.out.lt g hg).1)); clear hgrow
              obtain ⟨pn3, cn3, rfl⟩ := own_slice4 HO'.out
              have HNX := Lib.hid (show nx = bodyK l (k + 1) by rw [hnx, HST.out, HSS.out, ← HPRE.out]; rw [if_pos HZ.out]; rfl)
              have hnl : nx.length ≤ 66339 := by rw [hnx]; simp; omega
              have HNXL := Lib.hid (show nx.length = (pre).length + S.size by rw [hnx, List.length_append, size_bl])
              clear hnx
              by_cases hbig : 65536 < nx.length
              · have q2 : decide (65536 < (nx.length : Int)) = true := decide_eq_true (by omega)
                go_wp2_with fail
                go_roundw
                case rel => exact ⟨k + 1, nx, true, by omega, by go_num, rfl, HF.out, HB3.out, HO'.out, hnl, (fun h => nomatch h), fun _ => by rw [← HNX.out]; exact hbig⟩
                case measure => simp [intOf]; omega
              · have q2 : decide (65536 < (nx.length : Int)) = false := decide_eq_false (by omega)
                go_wp2_with fail
                go_roundw
                case rel => exact ⟨k + 1, nx, false, by omega, by go_num, rfl, HF.out, HB3.out, HO'.out, hnl, fun _ => ⟨HNX.out, by omega⟩, (fun h => nomatch h)⟩
                case measure => simp [intOf]; omega
            · have hkp : (0 : Int) < (k : Int) := by omega
              have hzq : decide (0 < k) = true := decide_eq_true (by omega)
              have HZ := Lib.hid hz; clear hz
              go_wp2_with (at_builtin; refine wpApp_row rfl _ _ 54 rfl w.heap.size 5 i0 (.int .u8 0) 1 1 Tryd.underlying54 HI.out HZ0.out HZ1.out HZ2.out rfl (by decide) _ _ _ rfl (HO1.out.alloc _) ⟨w1.heap.size, 0, none⟩ 1 1 (Lib.byteCells [32]) rfl rfl (new_cells w1 (Lib.byteCells [32]) 5) ?d1 ?d2 ?d3 ?d4 ?_)
              case d1 => exact byteCells_one _
              case d2 => unfold maxLen; omega
              case d3 => omega
              case d4 => simp; omega
              intro v1 w2 hown1 hgrow1 _ _
              obtain ⟨pre2, hp2⟩ : ∃ q, q = pre ++ [32] := ⟨_, rfl⟩
              have HO2 := Lib.hid (own_snoc (L' := pre2) hown1 rfl hp2); clear hown1
              have hpl1 : pre2.length ≤ pre.length + 1 := by rw [hp2]; simp
              have hpl2 : pre.length + 1 ≤ pre2.length := by rw [hp2]; simp
              have HP2 := Lib.hid hp2; clear hp2
              have HB2 := Lib.hid ((Hb1.out.alloc hsz1 _).grown hgrow1 (by simp; omega) (fun g hg => (HO1.out.lt g hg).1)); clear hgrow1
              obtain ⟨pn1, cn1, rfl⟩ := own_slice4 HO2.out
              have hsz2 := HB2.out.size
              go_wp2_with (at_builtin; refine wpApp_str rfl _ _ 54 9 rfl w.heap.size 5 i0 Tryd.underlying54 Tryd.underlying9 HI.out HZ0.out HZ1.out HZ2.out _ _ _ rfl HO2.out S rfl ?c3 ?c4 ?c5 ?_)
              case c3 => unfold maxLen; first | omega | (simp; omega)
              case c4 => first | omega | (simp; omega)
              case c5 => omega
              intro v' w3 hown' hgrow _ _
              obtain ⟨nx, hnx⟩ : ∃ nx, nx = pre2 ++ bl S := ⟨_, rfl⟩
              have HO' := Lib.hid (own_strF (L := pre2) (L' := nx) hown' hnx); clear hown'
              have HB3 := Lib.hid (HB2.out.grown hgrow (by omega) (fun g hg => (HO2.out.lt g hg).1)); clear hgrow
              obtain ⟨pn3, cn3, rfl⟩ := own_slice4 HO'.out
              have HNX := Lib.hid (show nx = bodyK l (k + 1) by rw [hnx, HST.out, HSS.out, ← HPRE.out]; rw [if_neg HZ.out, HP2.out]; simp)
              have hnl : nx.length ≤ 66339 := by rw [hnx]; simp; omega
              have HNXL := Lib.hid (show nx.length = (pre2).length + S.size by rw [hnx, List.length_append, size_bl])
              clear hnx
              by_cases hbig : 65536 < nx.length
              · have q2 : decide (65536 < (nx.length : Int)) = true := decide_eq_true (by omega)
                go_wp2_with fail
                go_roundw
                case rel => exact ⟨k + 1, nx, true, by omega, by go_num, rfl, HF.out, HB3.out, HO'.out, hnl, (fun h => nomatch h), fun _ => by rw [← HNX.out]; exact hbig⟩
                case measure => simp [intOf]; omega
              · have q2 : decide (65536 < (nx.length : Int)) = false := decide_eq_false (by omega)
                go_wp2_with fail
                go_roundw
                case rel => exact ⟨k + 1, nx, false, by omega, by go_num, rfl, HF.out, HB3.out, HO'.out, hnl, fun _ => ⟨HNX.out, by omega⟩, (fun h => nomatch h)⟩
                case measure => simp [intOf]; omega
        · have hst : tkL ⟨xk, xt, xn, xp⟩ = [] := tkL_end h8
          have HST := Lib.hid (HS2.out h8)
          by_cases hl : k + 1 < l.length
          · have q : decide ((k : Int) < (l.length : Int) - 1) = true := decide_eq_true (by omega)
            have HF := Lib.hid (show okK l (k + 1) = false by rw [HS.out, Hok.out, HOK.out, h8, decide_eq_false (show ¬ k + 1 = l.length by omega)]; rfl)
            have HNIL := Lib.hid hst; clear hst
            go_wp2_with fail
            go_ret2
            exact ⟨by rw [HJ.out, joinR_no (okK_mono HF.out l.length (by omega))] <;> rfl, Hb1.out⟩
          · have q : decide ((k : Int) < (l.length : Int) - 1) = false := decide_eq_false (by omega)
            have HF := Lib.hid (show okK l (k + 1) = true by rw [HS.out, Hok.out, HOK.out, h8, decide_eq_true (show k + 1 = l.length by omega)]; rfl)
            have HNIL := Lib.hid hst; clear hst
            cases lb with
            | true =>
              rcases hzq : decide (0 < k) with _ | _
              all_goals
                go_wp2_with fail
                go_roundw
                case rel => exact ⟨k + 1, pre, true, by omega, by go_num, rfl, HF.out, Hb1.out, HO1.out, hlen, (fun h => nomatch h), fun _ => Nat.lt_of_lt_of_le (HYES.out (by trivial)) HMO.out⟩
                case measure => simp [intOf]; omega
            | false =>
              obtain ⟨hpre, hle⟩ := HNO.out rfl
              have HPRE := Lib.hid hpre; clear hpre
              have hS0 : S.size = 0 := by rw [← size_bl, HSS.out, HNIL.out]; rfl
              have HS0 := Lib.hid hS0; clear hS0
              rcases hzq : decide (0 < k) with _ | _
              all_goals
                go_wp2_with (at_builtin; refine wpApp_str rfl _ _ 54 9 rfl w.heap.size 5 i0 Tryd.underlying54 Tryd.underlying9 HI.out HZ0.out HZ1.out HZ2.out _ _ _ rfl HO1.out S rfl ?c3 ?c4 ?c5 ?_)
                case c3 => unfold maxLen; omega
                case c4 => omega
                case c5 => omega
                intro v' w3 hown' hgrow _ _
                have HO' := Lib.hid (own_strF (L' := pre) hown' (by rw [HSS.out, HNIL.out, List.append_nil])); clear hown'
                have HB3 := Lib.hid (Hb1.out.grown hgrow (by omega) (fun g hg => (HO1.out.lt g hg).1)); clear hgrow
                obtain ⟨pn3, cn3, rfl⟩ := own_slice4 HO'.out
                have q2 : decide (65536 < (pre.length : Int) + (S.size : Int)) = false := decide_eq_false (by have := HS0.out; omega)
                have q3 : decide (65536 < (pre.length : Int)) = false := decide_eq_false (by omega)
                go_wp2_with fail
                go_roundw
                case rel => exact ⟨k + 1, pre, false, by omega, by go_num, rfl, HF.out, HB3.out, HO'.out, hlen, fun _ => ⟨by rw [HPRE.out, HST.out], hle⟩, (fun h => nomatch h)⟩
                case measure => simp [intOf]; omega
    · obtain rfl : k = l.length := by omega
      cases lb with
      | true =>
        go_wp2_with fail
        go_ret2
        exact ⟨by rw [HJ.out, joinR_long Hok.out (HYES.out (by trivial))] <;> rfl, Hb.out⟩
      | false =>
        obtain ⟨hpre, hle⟩ := HNO.out rfl
        have HPRE := Lib.hid hpre; clear hpre
        have hcv := own_string HO.out
        go_wp2_with fail
        go_ret2
        exact ⟨by rw [HJ.out, joinR_yes Hok.out (by rw [← HPRE.out]; omega), ← HPRE.out] <;> rfl, Hb.out⟩
end Go.Proofs.YtcigdlpljjkplaaDoor
