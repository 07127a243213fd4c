/- The contract of apart. Conditions: the four rows lie each in a block of its own. -/
import Derived.Test.YtcigdlpljjkplaaDoorO6
import Derived.BigQuiet
namespace Go.Proofs.YtcigdlpljjkplaaDoor
open Go.RowKit

theorem infoTks : (Tryd.prog.info? 22).map (fun i => (i.zero, i.size, i.bytes)) = some (some (.slice none 0 0), 1, 24) := by kernel_rfl
set_option maxHeartbeats 16000000 in
set_option maxRecDepth 100000 in
theorem kApart (w : World) (B LB : Nat) (v : Nat → Value) (l : Nat → List Tk) (hr : Rows4 w B LB v l) (hn : ∀ k, k < 4 → (l k).length ≤ 65538) (hB : B ≤ LB) :
    Calls Tryd.prog 13 #[.slice (some ⟨LB, 0, none⟩) 4 4] w fun e w' => e = .returned (.bool true) ∧ Below B w w' := by
  obtain ⟨i0, hi, hzz⟩ := Option.map_eq_some_iff.1 infoTk
  simp only [Prod.mk.injEq] at hzz
  obtain ⟨hz0, hz1, hz2⟩ := hzz
  have HI := Lib.hid hi; clear hi
  have HZ0 := Lib.hid hz0; clear hz0
  have HZ1 := Lib.hid hz1; clear hz1
  have HZ2 := Lib.hid hz2; clear hz2
  obtain ⟨i1, hj, hyy⟩ := Option.map_eq_some_iff.1 infoTks
  simp only [Prod.mk.injEq] at hyy
  obtain ⟨hy0, hy1, hy2⟩ := hyy
  have HJ := Lib.hid hj; clear hj
  have HY0 := Lib.hid hy0; clear hy0
  have HY1 := Lib.hid hy1; clear hy1
  have HY2 := Lib.hid hy2; clear hy2
  have hBL : B < w.heap.size := Nat.lt_of_le_of_lt hB hr.lb
  have HN := Lib.hid hn; clear hn
  have HR := Lib.hid (hr.same (fun k _ => (mkd_start l k).symm)); clear hr
  go_enter Tryd.func13, Tryd.ntmps13
  go_wp2_with fail
  go_loopw [3, 4] (fun i _ wr => ∃ i' : Nat, i' ≤ 4 ∧ i = .int .i64 i' ∧ Rows4 wr B LB v (mkd l i' 0) ∧ Below B w wr) (fun i _ _ => 4 - (intOf i).toNat)
  case atStart => exact ⟨0, by omega, rfl, HR.out, Below.refl _ _⟩
  case round =>
    obtain ⟨i, hi4, rfl, hr, hb⟩ := hrel
    have Hb := Lib.hid hb; clear hb
    have HR1 := Lib.hid hr; clear hr
    by_cases hlt : i < 4
    · go_wp2_with fail
      go_loopw [4] (fun j wq => ∃ j' : Nat, j' ≤ (l i).length ∧ j = .int .i64 j' ∧ Rows4 wq B LB v (mkd l i j') ∧ Below B w wq) (fun j _ => (l i).length - (intOf j).toNat)
      case atStart => exact ⟨0, by omega, rfl, HR1.out, Hb.out⟩
      case round =>
        obtain ⟨j, hj, rfl, hr, hb⟩ := hrel
        have Hb2 := Lib.hid hb; clear hb
        have HR2 := Lib.hid hr; clear hr
        have hlen := mkd_len l i j i hj
        have hni := HN.out i hlt
        have hown := HR2.out.own i hlt
        obtain ⟨pn, cn, hv⟩ := own_sliceT hown
        rw [hlen] at hv
        have hli := HR2.out.lists i hlt
        rw [hv] at hli
        have hi0 : (0 : Int) ≤ (i : Int) := by omega
        have hii : (i : Int) < 4 := by omega
        by_cases hjl : j < (l i).length
        · rw [hv, hlen] at hown
          obtain ⟨g, cap, cur, hve, hbg, hg, hnc, hcm, hcs, htk⟩ := ownT_at hown (by omega)
          obtain ⟨rfl, rfl⟩ : pn = some ⟨g, 0, none⟩ ∧ cn = cap := by simpa using hve
          obtain ⟨c0, c1, c2, c3⟩ := cells_take hg htk hlen j (by omega)
          have f0 : wr.frozen? ⟨g, j * 4, none⟩ = false := Lib.frozen_of_heap hg _
          have f1 : wr.frozen? ⟨g, j * 4 + 1, none⟩ = false := Lib.frozen_of_heap hg _
          have f2 : wr.frozen? ⟨g, j * 4 + 2, none⟩ = false := Lib.frozen_of_heap hg _
          have f3 : wr.frozen? ⟨g, j * 4 + 3, none⟩ = false := Lib.frozen_of_heap hg _
          obtain ⟨x, hx⟩ : ∃ x, x = (mkd l i j i)[j]'(by omega) := ⟨_, rfl⟩
          rw [← hx] at c0 c1 c2 c3
          clear hx hve htk
          have HV := Lib.hid hv
          have HG := Lib.hid hg
          clear hv hg hown
          have hj0 : (0 : Int) ≤ (j : Int) := by omega
          have hji : (j : Int) < ((l i).length : Int) := by omega
          unfold maxLen at hcm
          go_wp2_with fail
          exact ⟨⟨j + 1, by omega, by go_num, HR2.out.put hlt hjl HV.out, putT_below Hb2.out hbg (j * 4) (m99 i)⟩, by simp [intOf]; omega⟩
        · obtain rfl : j = (l i).length := by omega
          clear hown
          go_wp2_with fail
          exact ⟨⟨i + 1, by omega, by go_num, HR2.out.same (fun k _ => mkd_next l i k), Hb2.out⟩, by simp [intOf]; omega⟩
    · obtain rfl : i = 4 := by omega
      rename World => wr0
      rw [show ((4 : Nat) : Int) = 4 from rfl]
      have hszr := Hb.out.size
      have hLB := HR1.out.lb
      obtain ⟨n, hn⟩ : ∃ n : Nat → Nat, ∀ k, (l k).length = n k := ⟨fun k => (l k).length, fun _ => rfl⟩
      have HP := Lib.hid (Ph2.start HR1.out (by omega) (fun _ => undef) n hn)
      have HN2 := Lib.hid (fun k (hk : k < 4) => (show n k ≤ 65538 by rw [← hn k]; exact HN.out k hk))
      clear hn HN HR HR1
      go_wp2_with fail
      go_loopw [5, 6, 7, 8] (fun vl i _ _ wq => ∃ (i' : Nat) (u : Nat → Value), i' ≤ 4 ∧ i = .int .i64 i' ∧ Ph2 B LB wr0.heap.size v n u i' vl wq ∧ Below B w wq) (fun _ i _ _ _ => 4 - (intOf i).toNat)
      case atStart => exact ⟨0, _, by omega, rfl, HP.out, Hb.out⟩
      case round =>
        clear HP
        rename World => wq
        obtain ⟨i, u, hi4, rfl, hp, hb⟩ := hrel
        have Hbq := Lib.hid hb; clear hb
        have hszq := Hbq.out.size
        obtain ⟨pl, cl, rfl⟩ := own_sliceT hp.long
        have HP := Lib.hid hp; clear hp
        by_cases hlt : i < 4
        · have hli := HP.out.lists i hlt
          have hni := HN2.out i hlt
          have hi0 : (0 : Int) ≤ (i : Int) := by omega
          have hii : (i : Int) < 4 := by omega
          go_wp2_with fail
          go_loopw [7, 8] (fun t j wx => ∃ j' : Nat, j' ≤ 70 ∧ j = .int .i64 j' ∧ Ph2i B wq v n i j' t wx ∧ Below B w wx) (fun _ j _ => 70 - (intOf j).toNat)
          case atStart => exact ⟨0, by omega, rfl, Ph2i.start HP.out hlt, Hbq.out⟩
          case round =>
            clear hli
            rename World => wx
            obtain ⟨j, hj, rfl, hpi, hb⟩ := hrel
            have Hbx := Lib.hid hb; clear hb
            have hszx := Hbx.out.size
            obtain ⟨pt, ct, rfl⟩ := own_sliceT hpi.row
            have HPI := Lib.hid hpi; clear hpi
            by_cases hjl : j < 70
            · go_wp2_with (at_builtin; refine wpOwn2 rfl _ _ 22 rfl B 36 i0 _ 4 40 Tryd.underlying22 HI.out HZ0.out HZ1.out HZ2.out rfl (by decide) _ _ _ rfl (HPI.out.alloc _).row ⟨wx.heap.size, 0, none⟩ 1 1 (m98 i).cells rfl rfl (new_cells wx (m98 i).cells 36) ?c1 ?c2 ?c3 ?c4 ?_)
              case c1 => exact tk_one _
              case c2 => unfold maxLen; omega
              case c3 => omega
              case c4 => simp; omega
              intro v' w2 hown' hgrow hpl
              have HPI2 := Lib.hid ((HPI.out.alloc _).step hown' hgrow (by simpa using hpl))
              have HB2 := Lib.hid ((Hbx.out.alloc (by omega) _).grown hgrow (by simp; omega) (fun g hg => ownT_lt HPI.out.row hg))
              clear hown' hgrow hpl
              go_wp2_with fail
              go_roundw
              case rel => exact ⟨j + 1, by omega, by go_num, HPI2.out, HB2.out⟩
              case measure => simp [intOf]; omega
            · obtain rfl : j = 70 := by omega
              have HLA := Lib.hid (HP.out.long_at hlt HPI.out.grown)
              go_wp2_with (at_builtin; refine wpList_append_own _ rfl _ _ 30 rfl wr0.heap.size 22 i1 _ 1 24 Tryd.underlying30 HJ.out HY0.out HY1.out HY2.out rfl (by decide) _ _ _ rfl (HLA.out.alloc _) ⟨wx.heap.size, 0, none⟩ 1 1 [.slice pt (n i + 70) ct] rfl rfl (new_cells wx [.slice pt (n i + 70) ct] 22) ?c1 ?c2 ?c3 ?c4 ?_)
              case c1 => intro x hx; obtain rfl : x = _ := by simpa using hx
                         rfl
              case c2 => unfold maxLen; omega
              case c3 => omega
              case c4 => have := HP.out.sz; have := HPI.out.grown.size; simp; omega
              intro v' w2 hown' hgrow _
              have HP2 := Lib.hid (HP.out.next hlt (HPI.out.alloc _) hown' hgrow)
              have HB2 := Lib.hid ((Hbx.out.alloc (by omega) _).grown hgrow (by simp; omega) (fun g hg => Nat.le_trans HP.out.bn (ownT_lt HLA.out hg)))
              clear hown' hgrow
              go_wp2_with fail
              go_roundw
              case rel => exact ⟨i + 1, _, by omega, by go_num, HP2.out, HB2.out⟩
              case measure => simp [intOf]; omega
        · obtain rfl : i = 4 := by omega
          rw [show ((4 : Nat) : Int) = 4 from rfl]
          obtain ⟨gl, cl2, hvl, hgl, hfin⟩ := HP.out.fin
          obtain ⟨rfl, rfl⟩ : pl = some ⟨gl, 0, none⟩ ∧ cl = cl2 := by simpa using hvl
          have HF := Lib.hid hfin
          clear hvl hfin
          have hLq : LB < wq.heap.size := Nat.lt_of_lt_of_le HP.out.lbo HP.out.sz
          go_wp2_with fail
          go_loopw [9, 10, 11] (fun i _ _ wx => ∃ i' : Nat, i' ≤ 4 ∧ i = .int .i64 i' ∧ Below wq.heap.size wq wx) (fun i _ _ _ => 4 - (intOf i).toNat)
          case atStart => exact ⟨0, by omega, rfl, Below.refl _ _⟩
          case round =>
            rename World => wx
            obtain ⟨i, hi4, rfl, hb⟩ := hrel
            have Hbx := Lib.hid hb; clear hb
            by_cases hlt : i < 4
            · obtain ⟨g, c, hcl, hgq, hnc, hcm, htk⟩ := HF.out i hlt
              have HTK := Lib.hid htk; clear htk
              have HCL := Lib.hid hcl; clear hcl
              have hni := HN2.out i hlt
              unfold maxLen at hcm
              have hi0 : (0 : Int) ≤ (i : Int) := by omega
              have hii : (i : Int) < 4 := by omega
              go_wp2_with fail
              go_loopw [10, 11] (fun j _ wy => ∃ j' : Nat, j' ≤ n i + 70 ∧ j = .int .i64 j' ∧ Below wq.heap.size wq wy) (fun j _ _ => n i + 70 - (intOf j).toNat)
              case atStart => exact ⟨0, by omega, rfl, Hbx.out⟩
              case round =>
                rename World => wy
                obtain ⟨x, hx, rfl, hb⟩ := hrel
                have Hby := Lib.hid hb; clear hb
                have hcl := (Hby.out.cell (p := ⟨gl, i, none⟩) hgl).trans HCL.out
                have hx0 : (0 : Int) ≤ (x : Int) := by omega
                by_cases hxl : x < n i + 70
                · have hli := (Hby.out.cell (p := ⟨LB, i, none⟩) hLq).trans (HP.out.lists i hlt)
                  have hxi : (x : Int) < (n i : Int) + 70 := by omega
                  obtain ⟨d0, d1, d2, d3⟩ := (HTK.out x hxl).up Hby.out hgq
                  by_cases hxn : x < n i
                  · rw [if_pos hxn] at d0 d1 d2 d3
                    rcases HP.out.form i hlt with ⟨_, h0⟩ | ⟨g2, c2, hv⟩
                    · omega
                    · have hg2 := HP.out.old i hlt g2 (by rw [hv]; rfl)
                      have hsz0 := HP.out.sz
                      rcases HP.out.heads i hlt g2 c2 hv with h0 | ⟨a, o, hao, ha, htc⟩
                      · rw [l99_len] at h0; omega
                      · obtain ⟨rfl, rfl⟩ : g2 = a ∧ 0 = o := by simpa using hao
                        obtain ⟨e0, e1, e2, e3⟩ := (htc x (by rw [l99_len]; exact hxn)).up Hby.out ha
                        simp only [l99, List.getElem_replicate, Nat.zero_add] at e0 e1 e2 e3
                        simp only [m99] at d0 d1 d2 d3 e0 e1 e2 e3
                        rw [hv] at hli
                        have q : decide ((x : Int) < (n i : Int)) = true := decide_eq_true (by omega)
                        clear hao htc hv
                        go_wp2_with fail
                        go_quiet (fail)
                        go_wp2_with fail
                        go_roundw
                        case rel => exact ⟨x + 1, by omega, by go_num, Hby.out.trans ((tk_drewN _ _).mono Hby.out.size)⟩
                        case measure => simp [intOf]; omega
                  · rw [if_neg hxn] at d0 d1 d2 d3
                    simp only [m98] at d0 d1 d2 d3
                    have hvf : ∃ p2 c2, v i = .slice p2 (n i) c2 := by
                      rcases HP.out.form i hlt with ⟨hv, h0⟩ | ⟨g2, c2, hv⟩
                      · exact ⟨none, 0, by rw [hv, h0]⟩
                      · exact ⟨_, _, hv⟩
                    obtain ⟨p2, c2, hv⟩ := hvf
                    rw [hv] at hli
                    have q : decide ((x : Int) < (n i : Int)) = false := decide_eq_false (by omega)
                    clear hv
                    go_wp2_with fail
                    go_quiet (fail)
                    go_wp2_with fail
                    go_roundw
                    case rel => exact ⟨x + 1, by omega, by go_num, Hby.out.trans ((tk_drewN _ _).mono Hby.out.size)⟩
                    case measure => simp [intOf]; omega
                · obtain rfl : x = n i + 70 := by omega
                  go_wp2_with fail
                  go_roundw
                  case rel => exact ⟨i + 1, by omega, by go_num, Hby.out⟩
                  case measure => simp [intOf]; omega
            · obtain rfl : i = 4 := by omega
              go_wp2_with fail
              go_ret
              exact ⟨rfl, Hbq.out.trans (Hbx.out.mono (by omega))⟩
end Go.Proofs.YtcigdlpljjkplaaDoor
