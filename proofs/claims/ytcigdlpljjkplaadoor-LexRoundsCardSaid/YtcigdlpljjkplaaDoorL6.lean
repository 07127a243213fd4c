/- The tokens of the document's first example. Conditions: the tables lie as the program lays them. -/
import Derived.Test.YtcigdlpljjkplaaDoorL4
import Derived.Deep.OwnRows
import Derived.WalkMore
namespace Go.Proofs.YtcigdlpljjkplaaDoor
open Go.RowKit

theorem own_below {w w' : World} {B n m : Nat} {e : TypeId} {v : Value} {xs : List Value} (h : w.ownsRowF B e m v n xs) (hb : Below w.heap.size w w') : w'.ownsRowF B e m v n xs := by
  refine ⟨h.1, ?_⟩
  rcases h.2 with h2 | ⟨g, cap, cur, fz, hv, hB, hg, h3⟩
  · exact .inl h2
  · exact .inr ⟨g, cap, cur, fz, hv, hB, (hb.block g (Array.getElem?_eq_some_iff.1 hg).1).trans hg, h3⟩
theorem own_slice4 {w : World} {B n m : Nat} {e : TypeId} {v : Value} {xs : List Value} (h : w.ownsRowF B e m v n xs) : ∃ p cap, v = .slice p n cap := by
  rcases h.2 with ⟨hv, hn⟩ | ⟨g, cap, cur, fz, hv, _⟩
  · exact ⟨none, 0, by rw [hv, hn]⟩
  · exact ⟨_, cap, hv⟩
theorem new_cells (w : World) (l : List Value) (t : TypeId) : ∀ j u, l[j]? = some u → (w.alloc (.cells l.toArray t)).cell? ((⟨w.heap.size, 0, none⟩ : Addr).add j) = some u := by
  intro j u hj
  have h3 : (⟨w.heap.size, 0, none⟩ : Addr).add j = ⟨w.heap.size, j, none⟩ := by unfold Addr.add; split <;> simp_all
  rw [h3, Lib.cell_of_heap (heap_alloc_new w _)]
  simpa using hj
theorem infoTk : (Tryd.prog.info? 36).map (fun i => (i.zero, i.size, i.bytes)) = some (some (.agg #[.int .i8 0, .string ⟨#[]⟩, .int .i64 0, .int .i64 0]), 4, 40) := by kernel_rfl
def LvRel (W : World) (v i : Value) (wr : World) : Prop :=
  Below W.heap.size W wr ∧ ((i = .int .i64 0 ∧ wr.ownsRowF W.heap.size 36 4 v 0 []) ∨ (i = .int .i64 1 ∧ wr.ownsRowF W.heap.size 36 4 v 1 [.int .i8 1, .string ⟨#[110]⟩, .int .i64 0, .int .i64 0]) ∨ (i = .int .i64 3 ∧ wr.ownsRowF W.heap.size 36 4 v 2 [.int .i8 1, .string ⟨#[110]⟩, .int .i64 0, .int .i64 0, .int .i8 7, .string ⟨#[60, 61]⟩, .int .i64 0, .int .i64 1]) ∨ (i = .int .i64 4 ∧ wr.ownsRowF W.heap.size 36 4 v 3 [.int .i8 1, .string ⟨#[110]⟩, .int .i64 0, .int .i64 0, .int .i8 7, .string ⟨#[60, 61]⟩, .int .i64 0, .int .i64 1, .int .i8 4, .string ⟨#[]⟩, .int .i64 7, .int .i64 3]) ∨ (i = .int .i64 5 ∧ wr.ownsRowF W.heap.size 36 4 v 3 [.int .i8 1, .string ⟨#[110]⟩, .int .i64 0, .int .i64 0, .int .i8 7, .string ⟨#[60, 61]⟩, .int .i64 0, .int .i64 1, .int .i8 4, .string ⟨#[]⟩, .int .i64 7, .int .i64 3]))
/-- What the call leaves. -/
def LvPost (w : World) (e : Ending) (w' : World) : Prop :=
  ∃ a cap, e = .returned (.tuple #[.slice (some ⟨a, 0, none⟩) 4 cap, .agg #[.int .i64 0, .int .i64 0]]) ∧ a < w'.heap.size ∧ (∀ q, q < 16 → w'.cell? ⟨a, q, none⟩ = ([.int .i8 1, .string ⟨#[110]⟩, .int .i64 0, .int .i64 0, .int .i8 7, .string ⟨#[60, 61]⟩, .int .i64 0, .int .i64 1, .int .i8 4, .string ⟨#[]⟩, .int .i64 7, .int .i64 3, .int .i8 8, .string ⟨#[]⟩, .int .i64 0, .int .i64 10])[q]?) ∧ Below w.heap.size w w'
set_option maxHeartbeats 16000000 in
set_option maxRecDepth 100000 in
theorem lvTokens (w : World) (hE : ErrAt w) (hK : KwAt w) (hG : SgAt w) :
    Calls Tryd.prog 11 #[.string ⟨#[110, 60, 61, 55, 32, 35, 32, 97, 108, 108]⟩] w (LvPost w) := by
  obtain ⟨i0, hi, hzz⟩ := Option.map_eq_some_iff.1 infoTk
  simp only [Prod.mk.injEq] at hzz
  obtain ⟨hz0, hz1, hz2⟩ := hzz
  have HI := Lib.hid hi; clear hi
  have HZ0 := Lib.hid hz0; clear hz0
  have HZ1 := Lib.hid hz1; clear hz1
  have HZ2 := Lib.hid hz2; clear hz2
  obtain ⟨S, hS⟩ : ∃ S : ByteArray, S = ⟨#[110, 60, 61, 55, 32, 35, 32, 97, 108, 108]⟩ := ⟨_, rfl⟩
  rw [← hS]
  have HSZ := Lib.hid (show S.size = 10 by rw [hS]; rfl)
  have hs1 : S.size ≤ 10 := Nat.le_of_eq HSZ.out
  have hs2 : 10 ≤ S.size := Nat.le_of_eq HSZ.out.symm
  have hbl : bl S = [110, 60, 61, 55, 32, 35, 32, 97, 108, 108] := by rw [hS]
  have B0 := Lib.hid (show (S[0]'(by omega)).toNat = 110 by have h1 := get_bl S 0 (by omega); rw [← h1]; simp only [hbl]; rfl)
  have B1 := Lib.hid (show (S[1]'(by omega)).toNat = 60 by have h1 := get_bl S 1 (by omega); rw [← h1]; simp only [hbl]; rfl)
  have B3 := Lib.hid (show (S[3]'(by omega)).toNat = 55 by have h1 := get_bl S 3 (by omega); rw [← h1]; simp only [hbl]; rfl)
  have B4 := Lib.hid (show (S[4]'(by omega)).toNat = 32 by have h1 := get_bl S 4 (by omega); rw [← h1]; simp only [hbl]; rfl)
  have B5 := Lib.hid (show (S[5]'(by omega)).toNat = 35 by have h1 := get_bl S 5 (by omega); rw [← h1]; simp only [hbl]; rfl)
  have HBL := Lib.hid hbl; clear hbl hS
  obtain ⟨W, hW⟩ : ∃ W, W = w.alloc (.cells #[.int .i64 0, .int .i64 0] 25) := ⟨_, rfl⟩
  have HBW := Lib.hid (show Below w.heap.size w W by rw [hW]; exact below_alloc _ _)
  have hsW : W.heap.size = w.heap.size + 1 := by rw [hW]; simp
  have HBX := Lib.hid (show W.heap[w.heap.size]? = some (.cells #[.int .i64 0, .int .i64 0] 25 (0, 0)) by rw [hW]; exact heap_alloc_new w _)
  have HE := Lib.hid (hE.at HBW.out); clear hE
  have HK := Lib.hid (hK.at HBW.out); clear hK
  have HG := Lib.hid (hG.at HBW.out); clear hG
  go_enter Tryd.func11, Tryd.ntmps11
  go_wp2_with fail
  rw [← hW]
  clear hW
  have q0 : decide ((65536 : Int) < (S.size : Int)) = false := decide_eq_false (by omega)
  go_step3
  go_wp2_with fail
  go_step3
  go_wp2_with fail
  clear q0
  go_loopw [4, 5] (fun v i wr => LvRel W v i wr) (fun _ i _ => 10 - (intOf i).toNat)
  case atStart => exact ⟨Below.refl _ _, .inl ⟨rfl, rfl, .inl ⟨rfl, rfl⟩⟩⟩
  case round =>
    obtain ⟨hb, hst⟩ := hrel
    have Hb := Lib.hid hb; clear hb
    have hszr := Hb.out.size
    rcases hst with ⟨rfl, hown⟩ | ⟨rfl, hown⟩ | ⟨rfl, hown⟩ | ⟨rfl, hown⟩ | ⟨rfl, hown⟩
    all_goals
      obtain ⟨pn, cn, rfl⟩ := own_slice4 hown
      have HO := Lib.hid hown; clear hown
    · have hX : bl S = [110, 60, 61, 55, 32, 35, 32, 97, 108, 108] := HBL.out
      have hXs : S.size = 10 := by rw [← size_bl, hX]; rfl
      have hX34 : (S[0]'(by omega)).toNat ≠ 34 := by
        have h1 := get_bl S 0 (by omega)
        rw [← h1]
        simp only [hX]
        show (110 : UInt8).toNat ≠ 34
        decide
      have hcall := fun w' h1 h2 h3 => lFirst S w' (by omega) (by omega) h1 h2 h3 hX34
      have hft : firstT (bl S) = ((0, ⟨1, ⟨#[110]⟩, 0, 0⟩), 1) := by rw [hX]; rfl
      rw [hft] at hcall
      have HCALL := Lib.hid hcall
      clear hcall hft hX34 hXs hX
      have q9 : (((S[0]'(by omega)).toNat : Int) == 9) = false := by rw [B0.out]; rfl
      have q10 : (((S[0]'(by omega)).toNat : Int) == 10) = false := by rw [B0.out]; rfl
      have q13 : (((S[0]'(by omega)).toNat : Int) == 13) = false := by rw [B0.out]; rfl
      have q32 : (((S[0]'(by omega)).toNat : Int) == 32) = false := by rw [B0.out]; rfl
      have q35 : (((S[0]'(by omega)).toNat : Int) == 35) = false := by rw [B0.out]; rfl
      go_wp2_with fail
      clear q9 q10 q13 q32 q35
      refine (HCALL.out _ (HE.out.at Hb.out) (HK.out.at Hb.out) (HG.out.at Hb.out)).mono ?_
      rintro e w1 ⟨rfl, hb1⟩
      simp only [Tk.agg]
      have hown1 := own_below HO.out hb1
      have HO1 := Lib.hid hown1; clear hown1
      have HB1 := Lib.hid (Hb.out.trans (hb1.mono Hb.out.size)); clear hb1
      have hsz1 := HB1.out.size
      go_wp2_with (at_builtin; refine wpApp_row rfl _ _ 22 rfl W.heap.size 36 i0 _ 4 40 Tryd.underlying22 HI.out HZ0.out HZ1.out HZ2.out rfl (by decide) _ _ _ rfl (own_below HO1.out ((below_alloc _ _).trans ((below_alloc _ _).mono (by simp)))) ⟨w1.heap.size + 1, 0, none⟩ 1 1 [.int .i8 1, .string ⟨#[110]⟩, .int .i64 0, .int .i64 0] rfl rfl (by simpa using new_cells (w1.alloc _) [.int .i8 1, .string ⟨#[110]⟩, .int .i64 0, .int .i64 0] 36) ?c1 ?c2 ?c3 ?c4 ?_)
      case c1 => intro u hu; simp at hu; rcases hu with rfl | rfl | rfl | rfl <;> rfl
      case c2 => unfold maxLen; omega
      case c3 => omega
      case c4 => simp; omega
      intro v' w2 hown' hgrow _ _
      have HO' := Lib.hid hown'; clear hown'
      have HGr := Lib.hid hgrow; clear hgrow
      go_wp2_with fail
      refine ⟨⟨(((HB1.out.alloc hsz1 _).alloc (by simp; omega) _)).grown HGr.out (by simp; omega) (fun g hg => (HO1.out.lt g hg).1), .inr (.inl ⟨rfl, (by rw [hsW]; exact HO'.out)⟩)⟩, by simp [intOf]⟩
    · have hX : bl (S.extract 1 S.size) = [60, 61, 55, 32, 35, 32, 97, 108, 108] := by rw [bl_extract, HBL.out, HSZ.out]; rfl
      obtain ⟨X, hXe⟩ : ∃ X, X = S.extract 1 S.size := ⟨_, rfl⟩
      have hXs : X.size = 9 := by rw [← size_bl, hXe, hX]; rfl
      have hX34 : (X[0]'(by omega)).toNat ≠ 34 := by
        have h1 := get_bl X 0 (by omega)
        rw [← h1]
        simp only [hXe, hX]
        show (60 : UInt8).toNat ≠ 34
        decide
      have hcall := fun w' h1 h2 h3 => lFirst X w' (by omega) (by omega) h1 h2 h3 hX34
      have hft : firstT (bl X) = ((0, ⟨7, ⟨#[60, 61]⟩, 0, 0⟩), 2) := by rw [hXe, hX]; rfl
      rw [hft] at hcall
      have HCALL := Lib.hid hcall
      have hXS := Lib.hid hXe
      clear hcall hft hX34 hXs hX hXe
      have q9 : (((S[1]'(by omega)).toNat : Int) == 9) = false := by rw [B1.out]; rfl
      have q10 : (((S[1]'(by omega)).toNat : Int) == 10) = false := by rw [B1.out]; rfl
      have q13 : (((S[1]'(by omega)).toNat : Int) == 13) = false := by rw [B1.out]; rfl
      have q32 : (((S[1]'(by omega)).toNat : Int) == 32) = false := by rw [B1.out]; rfl
      have q35 : (((S[1]'(by omega)).toNat : Int) == 35) = false := by rw [B1.out]; rfl
      go_wp2_with fail
      clear q9 q10 q13 q32 q35
      rw [← hXS.out]
      refine (HCALL.out _ (HE.out.at Hb.out) (HK.out.at Hb.out) (HG.out.at Hb.out)).mono ?_
      rintro e w1 ⟨rfl, hb1⟩
      simp only [Tk.agg]
      have hown1 := own_below HO.out hb1
      have HO1 := Lib.hid hown1; clear hown1
      have HB1 := Lib.hid (Hb.out.trans (hb1.mono Hb.out.size)); clear hb1
      have hsz1 := HB1.out.size
      go_wp2_with (at_builtin; refine wpApp_row rfl _ _ 22 rfl W.heap.size 36 i0 _ 4 40 Tryd.underlying22 HI.out HZ0.out HZ1.out HZ2.out rfl (by decide) _ _ _ rfl (own_below HO1.out ((below_alloc _ _).trans ((below_alloc _ _).mono (by simp)))) ⟨w1.heap.size + 1, 0, none⟩ 1 1 [.int .i8 7, .string ⟨#[60, 61]⟩, .int .i64 0, .int .i64 1] rfl rfl (by simpa using new_cells (w1.alloc _) [.int .i8 7, .string ⟨#[60, 61]⟩, .int .i64 0, .int .i64 1] 36) ?c1 ?c2 ?c3 ?c4 ?_)
      case c1 => intro u hu; simp at hu; rcases hu with rfl | rfl | rfl | rfl <;> rfl
      case c2 => unfold maxLen; omega
      case c3 => omega
      case c4 => simp; omega
      intro v' w2 hown' hgrow _ _
      have HO' := Lib.hid hown'; clear hown'
      have HGr := Lib.hid hgrow; clear hgrow
      go_wp2_with fail
      refine ⟨⟨(((HB1.out.alloc hsz1 _).alloc (by simp; omega) _)).grown HGr.out (by simp; omega) (fun g hg => (HO1.out.lt g hg).1), .inr (.inr (.inl ⟨rfl, (by rw [hsW]; exact HO'.out)⟩))⟩, by simp [intOf]⟩
    · have hX : bl (S.extract 3 S.size) = [55, 32, 35, 32, 97, 108, 108] := by rw [bl_extract, HBL.out, HSZ.out]; rfl
      obtain ⟨X, hXe⟩ : ∃ X, X = S.extract 3 S.size := ⟨_, rfl⟩
      have hXs : X.size = 7 := by rw [← size_bl, hXe, hX]; rfl
      have hX34 : (X[0]'(by omega)).toNat ≠ 34 := by
        have h1 := get_bl X 0 (by omega)
        rw [← h1]
        simp only [hXe, hX]
        show (55 : UInt8).toNat ≠ 34
        decide
      have hcall := fun w' h1 h2 h3 => lFirst X w' (by omega) (by omega) h1 h2 h3 hX34
      have hft : firstT (bl X) = ((0, ⟨4, ⟨#[]⟩, 7, 0⟩), 1) := by rw [hXe, hX]; kernel_rfl
      rw [hft] at hcall
      have HCALL := Lib.hid hcall
      have hXS := Lib.hid hXe
      clear hcall hft hX34 hXs hX hXe
      have q9 : (((S[3]'(by omega)).toNat : Int) == 9) = false := by rw [B3.out]; rfl
      have q10 : (((S[3]'(by omega)).toNat : Int) == 10) = false := by rw [B3.out]; rfl
      have q13 : (((S[3]'(by omega)).toNat : Int) == 13) = false := by rw [B3.out]; rfl
      have q32 : (((S[3]'(by omega)).toNat : Int) == 32) = false := by rw [B3.out]; rfl
      have q35 : (((S[3]'(by omega)).toNat : Int) == 35) = false := by rw [B3.out]; rfl
      go_wp2_with fail
      clear q9 q10 q13 q32 q35
      rw [← hXS.out]
      refine (HCALL.out _ (HE.out.at Hb.out) (HK.out.at Hb.out) (HG.out.at Hb.out)).mono ?_
      rintro e w1 ⟨rfl, hb1⟩
      simp only [Tk.agg]
      have hown1 := own_below HO.out hb1
      have HO1 := Lib.hid hown1; clear hown1
      have HB1 := Lib.hid (Hb.out.trans (hb1.mono Hb.out.size)); clear hb1
      have hsz1 := HB1.out.size
      go_wp2_with (at_builtin; refine wpApp_row rfl _ _ 22 rfl W.heap.size 36 i0 _ 4 40 Tryd.underlying22 HI.out HZ0.out HZ1.out HZ2.out rfl (by decide) _ _ _ rfl (own_below HO1.out ((below_alloc _ _).trans ((below_alloc _ _).mono (by simp)))) ⟨w1.heap.size + 1, 0, none⟩ 1 1 [.int .i8 4, .string ⟨#[]⟩, .int .i64 7, .int .i64 3] rfl rfl (by simpa using new_cells (w1.alloc _) [.int .i8 4, .string ⟨#[]⟩, .int .i64 7, .int .i64 3] 36) ?c1 ?c2 ?c3 ?c4 ?_)
      case c1 => intro u hu; simp at hu; rcases hu with rfl | rfl | rfl | rfl <;> rfl
      case c2 => unfold maxLen; omega
      case c3 => omega
      case c4 => simp; omega
      intro v' w2 hown' hgrow _ _
      have HO' := Lib.hid hown'; clear hown'
      have HGr := Lib.hid hgrow; clear hgrow
      go_wp2_with fail
      refine ⟨⟨(((HB1.out.alloc hsz1 _).alloc (by simp; omega) _)).grown HGr.out (by simp; omega) (fun g hg => (HO1.out.lt g hg).1), .inr (.inr (.inr (.inl ⟨rfl, (by rw [hsW]; exact HO'.out)⟩)))⟩, by simp [intOf]⟩
    · have q9 : (((S[4]'(by omega)).toNat : Int) == 9) = false := by rw [B4.out]; rfl
      have q10 : (((S[4]'(by omega)).toNat : Int) == 10) = false := by rw [B4.out]; rfl
      have q13 : (((S[4]'(by omega)).toNat : Int) == 13) = false := by rw [B4.out]; rfl
      have q32 : (((S[4]'(by omega)).toNat : Int) == 32) = true := by rw [B4.out]; rfl
      go_wp2_with fail
      exact ⟨⟨Hb.out, .inr (.inr (.inr (.inr ⟨rfl, HO.out⟩)))⟩, by simp [intOf]⟩
    · have hX : bl (S.extract 5 S.size) = [35, 32, 97, 108, 108] := by rw [bl_extract, HBL.out, HSZ.out]; rfl
      have HIX := Lib.hid (show Lib.indexByte (S.extract 5 S.size).data.toList (10 : Int).toNat.toUInt8 = -1 by rw [show (S.extract 5 S.size).data.toList = [35, 32, 97, 108, 108] from hX]; rfl)
      clear hX
      have hx := (Hb.out.block w.heap.size (by omega)).trans HBX.out
      obtain ⟨x0, x1⟩ := two hx
      have f0 : wr.frozen? ⟨w.heap.size, 0, none⟩ = false := Lib.frozen_of_heap hx 0
      have f1 : wr.frozen? ⟨w.heap.size, 1, none⟩ = false := Lib.frozen_of_heap hx 1
      have HX := Lib.hid hx; clear hx
      have q9 : (((S[5]'(by omega)).toNat : Int) == 9) = false := by rw [B5.out]; rfl
      have q10 : (((S[5]'(by omega)).toNat : Int) == 10) = false := by rw [B5.out]; rfl
      have q13 : (((S[5]'(by omega)).toNat : Int) == 13) = false := by rw [B5.out]; rfl
      have q32 : (((S[5]'(by omega)).toNat : Int) == 32) = false := by rw [B5.out]; rfl
      have q35 : (((S[5]'(by omega)).toNat : Int) == 35) = true := by rw [B5.out]; rfl
      go_wp2_with fail
      refine (Tryd.strings_IndexByte _ _ _).mono ?_
      rintro e w1 ⟨rfl, hw1⟩
      rw [HIX.out, hw1]
      clear hw1
      go_wp2_with (at_builtin; refine wpApp_row rfl _ _ 22 rfl W.heap.size 36 i0 _ 4 40 Tryd.underlying22 HI.out HZ0.out HZ1.out HZ2.out rfl (by decide) _ _ _ rfl (own_below HO.out (below_alloc _ _)) ⟨wr.heap.size, 0, none⟩ 1 1 [.int .i8 8, .string ⟨#[]⟩, .int .i64 0, .int .i64 (S.size : Int)] rfl rfl (new_cells wr [.int .i8 8, .string ⟨#[]⟩, .int .i64 0, .int .i64 (S.size : Int)] 36) ?c1 ?c2 ?c3 ?c4 ?_)
      case c1 => intro u hu; simp at hu; rcases hu with rfl | rfl | rfl | rfl <;> rfl
      case c2 => unfold maxLen; omega
      case c3 => first | (simp; done) | (simp; omega)
      case c4 => first | (simp; done) | (simp; omega)
      intro v' w2 hown' hgrow _ _
      have HO' := Lib.hid hown'; clear hown'
      have HGr := Lib.hid hgrow; clear hgrow
      have HB2 := Lib.hid ((Hb.out.alloc (by omega) _).grown HGr.out (by simp; omega) (fun g hg => (HO.out.lt g hg).1))
      clear x0 x1 f0 f1
      have hx2 := (HB2.out.block w.heap.size (by omega)).trans HBX.out
      obtain ⟨x0, x1⟩ := two hx2
      have f0 : w2.frozen? ⟨w.heap.size, 0, none⟩ = false := Lib.frozen_of_heap hx2 0
      have f1 : w2.frozen? ⟨w.heap.size, 1, none⟩ = false := Lib.frozen_of_heap hx2 1
      have HX2 := Lib.hid hx2; clear hx2
      go_wp2_with fail
      rw [Exit.noGoto_ret]
      change bodyPost _ _ _ _ _ (putL w2 w.heap.size 0 [.int .i64 0, .int .i64 0])
      clear x0 x1 f0 f1
      rcases HO'.out.2 with ⟨_, hn⟩ | ⟨g, cap, cur, fz, hv, hB, hg, _, _, _, _, htake⟩
      · simp at hn
      subst hv
      have hgne : g ≠ w.heap.size := by omega
      have hb2 := putL_heap [.int .i64 0, .int .i64 0] HX2.out rfl
      have hg2 := (putL_block hgne [.int .i64 0, .int .i64 0] w2 0).trans hg
      have HBp := Lib.hid (putL_below (Nat.le_refl _) [.int .i64 0, .int .i64 0] _ 0 (HBW.out.trans (HB2.out.mono (by omega))))
      obtain ⟨W2, hW2⟩ : ∃ W2, W2 = putL w2 w.heap.size 0 [.int .i64 0, .int .i64 0] := ⟨_, rfl⟩
      rw [← hW2] at hb2 hg2 HBp ⊢
      clear hW2
      obtain ⟨z0, z1⟩ := two (show W2.heap[w.heap.size]? = some (.cells #[.int .i64 0, .int .i64 0] 25 (0, 0)) from hb2)
      refine bodyPost_ret (v := .tuple #[.slice (some ⟨g, 0, none⟩) 4 cap, .agg #[.int .i64 0, .int .i64 0]]) (by simp [results, Tryd.results11, go_sem, z0, z1]) rfl ?_
      refine ⟨g, cap, rfl, (Array.getElem?_eq_some_iff.1 hg2).1, fun q hq => ?_, HBp.out⟩
      rw [Lib.cell_of_heap hg2]
      have h10 : (S.size : Int) = 10 := by have := HSZ.out; omega
      rw [h10] at htake
      have h11 : ([.int .i8 1, .string ⟨#[110]⟩, .int .i64 0, .int .i64 0, .int .i8 7, .string ⟨#[60, 61]⟩, .int .i64 0, .int .i64 1, .int .i8 4, .string ⟨#[]⟩, .int .i64 7, .int .i64 3, .int .i8 8, .string ⟨#[]⟩, .int .i64 0, .int .i64 10])[q]? = cur.toList[q]? := by
        rw [show ([.int .i8 1, .string ⟨#[110]⟩, .int .i64 0, .int .i64 0, .int .i8 7, .string ⟨#[60, 61]⟩, .int .i64 0, .int .i64 1, .int .i8 4, .string ⟨#[]⟩, .int .i64 7, .int .i64 3, .int .i8 8, .string ⟨#[]⟩, .int .i64 0, .int .i64 10] : List Value) = cur.toList.take ((3 + 1) * 4) from htake.symm, List.getElem?_take_of_lt (by omega)]
      rw [h11, Array.getElem?_toList]
end Go.Proofs.YtcigdlpljjkplaaDoor
