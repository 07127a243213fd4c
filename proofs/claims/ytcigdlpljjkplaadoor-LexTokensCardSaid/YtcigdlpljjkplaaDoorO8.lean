/- The walk of LexTokens. Conditions: the tables lie as the program lays them. -/
import Derived.Test.YtcigdlpljjkplaaDoorO7
namespace Go.Proofs.YtcigdlpljjkplaaDoor
open Go.RowKit

set_option maxHeartbeats 16000000 in
set_option maxRecDepth 100000 in
theorem lexTokens (s : ByteArray) (w : World) (hs : s.size ≤ maxLen) (hE : ErrAt w) (hK : KwAt w) (hG : SgAt w) :
    Calls Tryd.prog 3 #[.string s] w fun r w' => r = .returned (.bool true) ∧ Below w.heap.size w w' := by
  have HE := Lib.hid hE; clear hE
  have HK := Lib.hid hK; clear hK
  have HG := Lib.hid hG; clear hG
  have HC := Lib.hid (fun X w' h1 h2 h3 h4 => lTokens X w' h1 h2 h3 h4)
  have HD := Lib.hid (fun X w' h1 => kTokens X w' h1)
  obtain ⟨l, fc, fp, hl, hu⟩ := ts_u (bl s)
  obtain ⟨m, gc, gp, hm, hx⟩ := ts_u (bl ⟨#[112, 40, 88, 44, 32, 55, 41, 46]⟩)
  have HU := Lib.hid hu; clear hu
  have HX := Lib.hid hx; clear hx
  have hl2 : l.length ≤ maxLen := by unfold maxLen; omega
  have hm2 : m.length ≤ maxLen := by unfold maxLen; omega
  have HL2 := Lib.hid hl2; clear hl2
  have HM2 := Lib.hid hm2; clear hm2
  have HS := Lib.hid hs; clear hs
  have HSX := Lib.hid (show (⟨#[112, 40, 88, 44, 32, 55, 41, 46]⟩ : ByteArray).size ≤ maxLen from (by decide : 8 ≤ maxLen))
  have HB0 := Lib.hid (Below.refl w.heap.size w)
  go_enter Tryd.func3, Tryd.ntmps3
  go_wp2_with fail
  refine (HD.out s _ HS.out).mono ?_
  intro e w1 hp
  obtain ⟨v, rfl, ho, hb⟩ := HU.out _ _ _ hp
  obtain ⟨p1, c1, rfl⟩ := own_sliceT ho
  clear hp
  obtain ⟨V1, hV⟩ : ∃ V, V = w1.alloc (.cells #[.int .i64 fc, .int .i64 fp] 25) := ⟨_, rfl⟩
  have hst : Below w1.heap.size w1 V1 := by rw [hV]; exact below_alloc _ _
  have T1 := Lib.hid (hb.trans (hst.mono hb.size))
  have HB1 := Lib.hid (HB0.out.trans (T1.out.mono HB0.out.size))
  have K1 := Lib.hid (show V1.heap[w1.heap.size]? = some (.cells #[.int .i64 fc, .int .i64 fp] 25 (0, 0)) by rw [hV]; exact heap_alloc_new _ _)
  have R1 := Lib.hid (show V1.ownsRow w.heap.size 36 4 (.slice p1 l.length c1) l.length (l.flatMap Tk.cells) by rw [hV]; exact ho.alloc _)
  clear ho hb hst
  go_wp2_with fail
  rw [← hV]
  clear hV
  refine (HC.out s _ HS.out (HE.out.at HB1.out) (HK.out.at HB1.out) (HG.out.at HB1.out)).mono ?_
  intro e w2 hp
  obtain ⟨v, rfl, ho, hb⟩ := HU.out _ _ _ hp
  obtain ⟨p2, c2, rfl⟩ := own_sliceT ho
  clear hp
  obtain ⟨V2, hV⟩ : ∃ V, V = w2.alloc (.cells #[.int .i64 fc, .int .i64 fp] 25) := ⟨_, rfl⟩
  have hst : Below w2.heap.size w2 V2 := by rw [hV]; exact below_alloc _ _
  have T2 := Lib.hid (hb.trans (hst.mono hb.size))
  have HB2 := Lib.hid (HB1.out.trans (T2.out.mono HB1.out.size))
  have K2 := Lib.hid (show V2.heap[w2.heap.size]? = some (.cells #[.int .i64 fc, .int .i64 fp] 25 (0, 0)) by rw [hV]; exact heap_alloc_new _ _)
  have R2 := Lib.hid (show V2.ownsRow V1.heap.size 36 4 (.slice p2 l.length c2) l.length (l.flatMap Tk.cells) by rw [hV]; exact ho.alloc _)
  replace R1 := Lib.hid (ownT_below R1.out T2.out)
  replace K1 := Lib.hid ((T2.out.block w1.heap.size (Array.getElem?_eq_some_iff.1 K1.out).1).trans K1.out)
  clear ho hb hst
  go_wp2_with fail
  rw [← hV]
  clear hV
  refine (HC.out s _ HS.out (HE.out.at HB2.out) (HK.out.at HB2.out) (HG.out.at HB2.out)).mono ?_
  intro e w3 hp
  obtain ⟨v, rfl, ho, hb⟩ := HU.out _ _ _ hp
  obtain ⟨p3, c3, rfl⟩ := own_sliceT ho
  clear hp
  obtain ⟨V3, hV⟩ : ∃ V, V = w3.alloc (.cells #[.int .i64 fc, .int .i64 fp] 25) := ⟨_, rfl⟩
  have hst : Below w3.heap.size w3 V3 := by rw [hV]; exact below_alloc _ _
  have T3 := Lib.hid (hb.trans (hst.mono hb.size))
  have HB3 := Lib.hid (HB2.out.trans (T3.out.mono HB2.out.size))
  have K3 := Lib.hid (show V3.heap[w3.heap.size]? = some (.cells #[.int .i64 fc, .int .i64 fp] 25 (0, 0)) by rw [hV]; exact heap_alloc_new _ _)
  have R3 := Lib.hid (show V3.ownsRow V2.heap.size 36 4 (.slice p3 l.length c3) l.length (l.flatMap Tk.cells) by rw [hV]; exact ho.alloc _)
  have D23 := Lib.hid (own_apart R2.out R3.out)
  replace R1 := Lib.hid (ownT_below R1.out T3.out)
  replace R2 := Lib.hid (ownT_below R2.out T3.out)
  replace K1 := Lib.hid ((T3.out.block w1.heap.size (Array.getElem?_eq_some_iff.1 K1.out).1).trans K1.out)
  replace K2 := Lib.hid ((T3.out.block w2.heap.size (Array.getElem?_eq_some_iff.1 K2.out).1).trans K2.out)
  clear ho hb hst
  have hk1 := K1.out
  rw [hV] at hk1
  obtain ⟨x1, y1⟩ := two hk1
  clear hk1
  have hk2 := K2.out
  rw [hV] at hk2
  obtain ⟨x2, y2⟩ := two hk2
  clear hk2
  have hk3 := K3.out
  rw [hV] at hk3
  obtain ⟨x3, y3⟩ := two hk3
  clear hk3
  go_wp2_with fail
  rw [← hV]
  clear hV
  clear x1 y1
  clear x2 y2
  clear x3 y3
  refine (kSame l _ _ _ _ _ (own_tks2 rfl R2.out).1 (own_tks2 rfl R1.out).1 HL2.out).mono ?_
  rintro e V4 ⟨rfl, hb⟩
  have T4 := Lib.hid hb; clear hb
  have HB4 := Lib.hid (HB3.out.trans (T4.out.mono HB3.out.size))
  replace R1 := Lib.hid (ownT_below R1.out T4.out)
  replace R2 := Lib.hid (ownT_below R2.out T4.out)
  replace R3 := Lib.hid (ownT_below R3.out T4.out)
  replace K1 := Lib.hid ((T4.out.block w1.heap.size (Array.getElem?_eq_some_iff.1 K1.out).1).trans K1.out)
  replace K2 := Lib.hid ((T4.out.block w2.heap.size (Array.getElem?_eq_some_iff.1 K2.out).1).trans K2.out)
  replace K3 := Lib.hid ((T4.out.block w3.heap.size (Array.getElem?_eq_some_iff.1 K3.out).1).trans K3.out)
  go_wp2_with fail
  refine (kSame l _ _ _ _ _ (own_tks2 rfl R3.out).1 (own_tks2 rfl R1.out).1 HL2.out).mono ?_
  rintro e V5 ⟨rfl, hb⟩
  have T5 := Lib.hid hb; clear hb
  have HB5 := Lib.hid (HB4.out.trans (T5.out.mono HB4.out.size))
  replace R1 := Lib.hid (ownT_below R1.out T5.out)
  replace R2 := Lib.hid (ownT_below R2.out T5.out)
  replace R3 := Lib.hid (ownT_below R3.out T5.out)
  replace K1 := Lib.hid ((T5.out.block w1.heap.size (Array.getElem?_eq_some_iff.1 K1.out).1).trans K1.out)
  replace K2 := Lib.hid ((T5.out.block w2.heap.size (Array.getElem?_eq_some_iff.1 K2.out).1).trans K2.out)
  replace K3 := Lib.hid ((T5.out.block w3.heap.size (Array.getElem?_eq_some_iff.1 K3.out).1).trans K3.out)
  go_wp2_with fail
  refine (HC.out (⟨#[112, 40, 88, 44, 32, 55, 41, 46]⟩ : ByteArray) _ HSX.out (HE.out.at HB5.out) (HK.out.at HB5.out) (HG.out.at HB5.out)).mono ?_
  intro e w6 hp
  obtain ⟨v, rfl, ho, hb⟩ := HX.out _ _ _ hp
  obtain ⟨p6, c6, rfl⟩ := own_sliceT ho
  clear hp
  obtain ⟨V6, hV⟩ : ∃ V, V = w6.alloc (.cells #[.int .i64 gc, .int .i64 gp] 25) := ⟨_, rfl⟩
  have hst : Below w6.heap.size w6 V6 := by rw [hV]; exact below_alloc _ _
  have T6 := Lib.hid (hb.trans (hst.mono hb.size))
  have HB6 := Lib.hid (HB5.out.trans (T6.out.mono HB5.out.size))
  have K6 := Lib.hid (show V6.heap[w6.heap.size]? = some (.cells #[.int .i64 gc, .int .i64 gp] 25 (0, 0)) by rw [hV]; exact heap_alloc_new _ _)
  have R6 := Lib.hid (show V6.ownsRow V5.heap.size 36 4 (.slice p6 m.length c6) m.length (m.flatMap Tk.cells) by rw [hV]; exact ho.alloc _)
  have D26 := Lib.hid (own_apart R2.out R6.out)
  have D36 := Lib.hid (own_apart R3.out R6.out)
  replace R1 := Lib.hid (ownT_below R1.out T6.out)
  replace R2 := Lib.hid (ownT_below R2.out T6.out)
  replace R3 := Lib.hid (ownT_below R3.out T6.out)
  replace K1 := Lib.hid ((T6.out.block w1.heap.size (Array.getElem?_eq_some_iff.1 K1.out).1).trans K1.out)
  replace K2 := Lib.hid ((T6.out.block w2.heap.size (Array.getElem?_eq_some_iff.1 K2.out).1).trans K2.out)
  replace K3 := Lib.hid ((T6.out.block w3.heap.size (Array.getElem?_eq_some_iff.1 K3.out).1).trans K3.out)
  clear ho hb hst
  go_wp2_with fail
  rw [← hV]
  clear hV
  refine (HD.out (⟨#[112, 40, 88, 44, 32, 55, 41, 46]⟩ : ByteArray) _ HSX.out).mono ?_
  intro e w7 hp
  obtain ⟨v, rfl, ho, hb⟩ := HX.out _ _ _ hp
  obtain ⟨p7, c7, rfl⟩ := own_sliceT ho
  clear hp
  obtain ⟨V7, hV⟩ : ∃ V, V = w7.alloc (.cells #[.int .i64 gc, .int .i64 gp] 25) := ⟨_, rfl⟩
  have hst : Below w7.heap.size w7 V7 := by rw [hV]; exact below_alloc _ _
  have T7 := Lib.hid (hb.trans (hst.mono hb.size))
  have HB7 := Lib.hid (HB6.out.trans (T7.out.mono HB6.out.size))
  have K7 := Lib.hid (show V7.heap[w7.heap.size]? = some (.cells #[.int .i64 gc, .int .i64 gp] 25 (0, 0)) by rw [hV]; exact heap_alloc_new _ _)
  have R7 := Lib.hid (show V7.ownsRow V6.heap.size 36 4 (.slice p7 m.length c7) m.length (m.flatMap Tk.cells) by rw [hV]; exact ho.alloc _)
  replace R1 := Lib.hid (ownT_below R1.out T7.out)
  replace R2 := Lib.hid (ownT_below R2.out T7.out)
  replace R3 := Lib.hid (ownT_below R3.out T7.out)
  replace R6 := Lib.hid (ownT_below R6.out T7.out)
  replace K1 := Lib.hid ((T7.out.block w1.heap.size (Array.getElem?_eq_some_iff.1 K1.out).1).trans K1.out)
  replace K2 := Lib.hid ((T7.out.block w2.heap.size (Array.getElem?_eq_some_iff.1 K2.out).1).trans K2.out)
  replace K3 := Lib.hid ((T7.out.block w3.heap.size (Array.getElem?_eq_some_iff.1 K3.out).1).trans K3.out)
  replace K6 := Lib.hid ((T7.out.block w6.heap.size (Array.getElem?_eq_some_iff.1 K6.out).1).trans K6.out)
  clear ho hb hst
  go_wp2_with fail
  rw [← hV]
  clear hV
  refine (HC.out s _ HS.out (HE.out.at HB7.out) (HK.out.at HB7.out) (HG.out.at HB7.out)).mono ?_
  intro e w8 hp
  obtain ⟨v, rfl, ho, hb⟩ := HU.out _ _ _ hp
  obtain ⟨p8, c8, rfl⟩ := own_sliceT ho
  clear hp
  obtain ⟨V8, hV⟩ : ∃ V, V = w8.alloc (.cells #[.int .i64 fc, .int .i64 fp] 25) := ⟨_, rfl⟩
  have hst : Below w8.heap.size w8 V8 := by rw [hV]; exact below_alloc _ _
  have T8 := Lib.hid (hb.trans (hst.mono hb.size))
  have HB8 := Lib.hid (HB7.out.trans (T8.out.mono HB7.out.size))
  have K8 := Lib.hid (show V8.heap[w8.heap.size]? = some (.cells #[.int .i64 fc, .int .i64 fp] 25 (0, 0)) by rw [hV]; exact heap_alloc_new _ _)
  have R8 := Lib.hid (show V8.ownsRow V7.heap.size 36 4 (.slice p8 l.length c8) l.length (l.flatMap Tk.cells) by rw [hV]; exact ho.alloc _)
  have D28 := Lib.hid (own_apart R2.out R8.out)
  have D38 := Lib.hid (own_apart R3.out R8.out)
  have D68 := Lib.hid (own_apart R6.out R8.out)
  replace R1 := Lib.hid (ownT_below R1.out T8.out)
  replace R2 := Lib.hid (ownT_below R2.out T8.out)
  replace R3 := Lib.hid (ownT_below R3.out T8.out)
  replace R6 := Lib.hid (ownT_below R6.out T8.out)
  replace R7 := Lib.hid (ownT_below R7.out T8.out)
  replace K1 := Lib.hid ((T8.out.block w1.heap.size (Array.getElem?_eq_some_iff.1 K1.out).1).trans K1.out)
  replace K2 := Lib.hid ((T8.out.block w2.heap.size (Array.getElem?_eq_some_iff.1 K2.out).1).trans K2.out)
  replace K3 := Lib.hid ((T8.out.block w3.heap.size (Array.getElem?_eq_some_iff.1 K3.out).1).trans K3.out)
  replace K6 := Lib.hid ((T8.out.block w6.heap.size (Array.getElem?_eq_some_iff.1 K6.out).1).trans K6.out)
  replace K7 := Lib.hid ((T8.out.block w7.heap.size (Array.getElem?_eq_some_iff.1 K7.out).1).trans K7.out)
  clear ho hb hst
  have hk1 := K1.out
  rw [hV] at hk1
  obtain ⟨x1, y1⟩ := two hk1
  clear hk1
  have hk8 := K8.out
  rw [hV] at hk8
  obtain ⟨x8, y8⟩ := two hk8
  clear hk8
  go_wp2_with fail
  rw [← hV]
  clear hV
  clear x1 y1
  clear x8 y8
  refine (kSame m _ _ _ _ _ (own_tks2 rfl R6.out).1 (own_tks2 rfl R7.out).1 HM2.out).mono ?_
  rintro e V9 ⟨rfl, hb⟩
  have T9 := Lib.hid hb; clear hb
  have HB9 := Lib.hid (HB8.out.trans (T9.out.mono HB8.out.size))
  replace R1 := Lib.hid (ownT_below R1.out T9.out)
  replace R2 := Lib.hid (ownT_below R2.out T9.out)
  replace R3 := Lib.hid (ownT_below R3.out T9.out)
  replace R6 := Lib.hid (ownT_below R6.out T9.out)
  replace R7 := Lib.hid (ownT_below R7.out T9.out)
  replace R8 := Lib.hid (ownT_below R8.out T9.out)
  replace K1 := Lib.hid ((T9.out.block w1.heap.size (Array.getElem?_eq_some_iff.1 K1.out).1).trans K1.out)
  replace K2 := Lib.hid ((T9.out.block w2.heap.size (Array.getElem?_eq_some_iff.1 K2.out).1).trans K2.out)
  replace K3 := Lib.hid ((T9.out.block w3.heap.size (Array.getElem?_eq_some_iff.1 K3.out).1).trans K3.out)
  replace K6 := Lib.hid ((T9.out.block w6.heap.size (Array.getElem?_eq_some_iff.1 K6.out).1).trans K6.out)
  replace K7 := Lib.hid ((T9.out.block w7.heap.size (Array.getElem?_eq_some_iff.1 K7.out).1).trans K7.out)
  replace K8 := Lib.hid ((T9.out.block w8.heap.size (Array.getElem?_eq_some_iff.1 K8.out).1).trans K8.out)
  go_wp2_with fail
  refine (kSame l _ _ _ _ _ (own_tks2 rfl R3.out).1 (own_tks2 rfl R1.out).1 HL2.out).mono ?_
  rintro e V10 ⟨rfl, hb⟩
  have T10 := Lib.hid hb; clear hb
  have HB10 := Lib.hid (HB9.out.trans (T10.out.mono HB9.out.size))
  replace R1 := Lib.hid (ownT_below R1.out T10.out)
  replace R2 := Lib.hid (ownT_below R2.out T10.out)
  replace R3 := Lib.hid (ownT_below R3.out T10.out)
  replace R6 := Lib.hid (ownT_below R6.out T10.out)
  replace R7 := Lib.hid (ownT_below R7.out T10.out)
  replace R8 := Lib.hid (ownT_below R8.out T10.out)
  replace K1 := Lib.hid ((T10.out.block w1.heap.size (Array.getElem?_eq_some_iff.1 K1.out).1).trans K1.out)
  replace K2 := Lib.hid ((T10.out.block w2.heap.size (Array.getElem?_eq_some_iff.1 K2.out).1).trans K2.out)
  replace K3 := Lib.hid ((T10.out.block w3.heap.size (Array.getElem?_eq_some_iff.1 K3.out).1).trans K3.out)
  replace K6 := Lib.hid ((T10.out.block w6.heap.size (Array.getElem?_eq_some_iff.1 K6.out).1).trans K6.out)
  replace K7 := Lib.hid ((T10.out.block w7.heap.size (Array.getElem?_eq_some_iff.1 K7.out).1).trans K7.out)
  replace K8 := Lib.hid ((T10.out.block w8.heap.size (Array.getElem?_eq_some_iff.1 K8.out).1).trans K8.out)
  go_wp2_with fail
  refine (kSame l _ _ _ _ _ (own_tks2 rfl R8.out).1 (own_tks2 rfl R1.out).1 HL2.out).mono ?_
  rintro e V11 ⟨rfl, hb⟩
  have T11 := Lib.hid hb; clear hb
  have HB11 := Lib.hid (HB10.out.trans (T11.out.mono HB10.out.size))
  replace R1 := Lib.hid (ownT_below R1.out T11.out)
  replace R2 := Lib.hid (ownT_below R2.out T11.out)
  replace R3 := Lib.hid (ownT_below R3.out T11.out)
  replace R6 := Lib.hid (ownT_below R6.out T11.out)
  replace R7 := Lib.hid (ownT_below R7.out T11.out)
  replace R8 := Lib.hid (ownT_below R8.out T11.out)
  replace K1 := Lib.hid ((T11.out.block w1.heap.size (Array.getElem?_eq_some_iff.1 K1.out).1).trans K1.out)
  replace K2 := Lib.hid ((T11.out.block w2.heap.size (Array.getElem?_eq_some_iff.1 K2.out).1).trans K2.out)
  replace K3 := Lib.hid ((T11.out.block w3.heap.size (Array.getElem?_eq_some_iff.1 K3.out).1).trans K3.out)
  replace K6 := Lib.hid ((T11.out.block w6.heap.size (Array.getElem?_eq_some_iff.1 K6.out).1).trans K6.out)
  replace K7 := Lib.hid ((T11.out.block w7.heap.size (Array.getElem?_eq_some_iff.1 K7.out).1).trans K7.out)
  replace K8 := Lib.hid ((T11.out.block w8.heap.size (Array.getElem?_eq_some_iff.1 K8.out).1).trans K8.out)
  have HR := Lib.hid (rows4_of (ownT_mono R2.out HB1.out.size) (ownT_mono R6.out HB5.out.size) (ownT_mono R3.out HB2.out.size) (ownT_mono R8.out HB7.out.size) D26.out D23.out D28.out (fun g h h' => D36.out g h' h) D68.out D38.out)
  have HLN := Lib.hid (show ∀ k, k < 4 → (sel4 l m l l k).length ≤ 65538 from fun k _ => by unfold sel4; split <;> (try split) <;> (try split) <;> assumption)
  go_wp2_with fail
  refine (kApart _ w.heap.size V11.heap.size _ _ HR.out HLN.out HB11.out.size).mono ?_
  rintro e V12 ⟨rfl, hb⟩
  have HB12 := Lib.hid ((HB11.out.alloc HB11.out.size _).trans hb); clear hb
  go_wp2_with fail
  refine (lvLives _ (HE.out.at HB12.out) (HK.out.at HB12.out) (HG.out.at HB12.out)).mono ?_
  rintro e V13 ⟨rfl, hb⟩
  have HB13 := Lib.hid (HB12.out.trans (hb.mono HB12.out.size)); clear hb
  go_wp2_with fail
  go_ret
  exact ⟨rfl, HB13.out⟩
end Go.Proofs.YtcigdlpljjkplaaDoor
