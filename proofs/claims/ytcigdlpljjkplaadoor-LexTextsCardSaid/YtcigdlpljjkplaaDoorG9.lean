/- The walk of LexTexts. Conditions: the tables lie as the program lays them; the token is one that its type holds. -/
import Derived.Test.YtcigdlpljjkplaaDoorG8
import Derived.Test.YtcigdlpljjkplaaDoorL8
namespace Go.Proofs.YtcigdlpljjkplaaDoor
open Go.RowKit

theorem txR_eq (x : Tk) : ∃ s c, txR x = .tuple #[.string s, .int .i64 c] := by
  unfold txR
  split
  · exact ⟨_, _, rfl⟩
  · exact ⟨_, _, rfl⟩
set_option maxHeartbeats 4000000 in
set_option maxRecDepth 100000 in
theorem lexTexts (x : Tk) (w : World) (hx : x.t.size ≤ maxLen) (hE : ErrAt w) (hK : KwAt w) (hG : SgAt w) (hP : PwAt w) :
    Calls Tryd.prog 4 #[x.agg] w fun r w' => r = .returned (.bool true) ∧ Below w.heap.size w w' := by
  obtain ⟨s, c, hR⟩ := txR_eq x
  have h1 := fun W h2 h3 h4 => (lText x W hx h2 h3 h4)
  have h2 := fun W => (kText x W hx)
  unfold TP at h1 h2
  rw [hR] at h1 h2
  have H1 := Lib.hid h1; clear h1
  have H2 := Lib.hid h2; clear h2 hR
  obtain ⟨k, t, n, p⟩ := x
  show Calls Tryd.prog 4 #[.agg #[.int .i8 k, .string t, .int .i64 n, .int .i64 p]] w _
  clear hx
  obtain ⟨W, hW⟩ : ∃ W, W = w.alloc (.cells #[.int .i8 k, .string t, .int .i64 n, .int .i64 p] 36) := ⟨_, rfl⟩
  have HBW := Lib.hid (show Below w.heap.size w W by rw [hW]; exact below_alloc _ _)
  have hsW : W.heap.size = w.heap.size + 1 := by rw [hW]; simp
  have hbk : w.heap.size < W.heap.size := by omega
  obtain ⟨x0, x1, x2, x3⟩ := four (show W.heap[w.heap.size]? = some (.cells #[.int .i8 k, .string t, .int .i64 n, .int .i64 p] 36 (0, 0)) by rw [hW]; exact heap_alloc_new w _)
  have HE := Lib.hid (hE.at HBW.out); clear hE
  have HK := Lib.hid (hK.at HBW.out); clear hK
  have HG := Lib.hid (hG.at HBW.out); clear hG
  have HP := Lib.hid (hP.at HBW.out); clear hP
  go_enter Tryd.func4, Tryd.ntmps4
  go_wp2_with fail
  rw [← hW]
  clear hW
  refine (H1.out W HK.out HG.out HP.out).mono ?_
  rintro e w1 ⟨rfl, hb⟩
  have y0 := (hb.cell (p := ⟨w.heap.size, 0, none⟩) hbk).trans x0
  have y1 := (hb.cell (p := ⟨w.heap.size, 1, none⟩) hbk).trans x1
  have y2 := (hb.cell (p := ⟨w.heap.size, 2, none⟩) hbk).trans x2
  have y3 := (hb.cell (p := ⟨w.heap.size, 3, none⟩) hbk).trans x3
  have Hb := Lib.hid hb; clear hb x0 x1 x2 x3
  go_wp2_with fail
  refine (H2.out w1).mono ?_
  rintro e w2 ⟨rfl, hb⟩
  have Hb2 := Lib.hid (Hb.out.trans (hb.mono Hb.out.size)); clear hb y0 y1 y2 y3
  go_wp2_with fail
  refine (lvLives _ (HE.out.at Hb2.out) (HK.out.at Hb2.out) (HG.out.at Hb2.out)).mono ?_
  rintro e w5 ⟨rfl, hb⟩
  have Hb5 := Lib.hid (Hb2.out.trans (hb.mono Hb2.out.size)); clear hb
  go_wp2_with fail
  go_ret
  exact ⟨rfl, HBW.out.trans (Hb5.out.mono (by omega))⟩
end Go.Proofs.YtcigdlpljjkplaaDoor
