/- The contract of lex.first where no quote stands at the head. Conditions: the source is not empty, takes at most 2^48 bytes; the signs and keywords lie as the program lays them. -/
import Derived.Test.YtcigdlpljjkplaaDoorL3
import Derived.Shelf.GgClosure.StringsTrimFunc
namespace Go.Proofs.YtcigdlpljjkplaaDoor
open Go.RowKit

/-- The signs' table, as a world holds it. -/
structure SgAt (w : World) : Prop where
  size : 9 ≤ w.heap.size
  sgs : ∀ i, i < 18 → w.cell? ⟨1, i, none⟩ = some (.string (signsT.getD i ⟨#[]⟩))
theorem SgAt.at {w w' : World} (h : SgAt w) (hb : Below w.heap.size w w') : SgAt w' :=
  ⟨Nat.le_trans h.size hb.size, fun i hi => (hb.cell (p := ⟨1, i, none⟩) (by have := h.size; show 1 < _; omega)).trans (h.sgs i hi)⟩
def sgV : Value := .agg #[.string ⟨#[58, 45]⟩, .string ⟨#[33, 61]⟩, .string ⟨#[60, 61]⟩, .string ⟨#[62, 61]⟩, .string ⟨#[40]⟩, .string ⟨#[41]⟩, .string ⟨#[44]⟩, .string ⟨#[46]⟩, .string ⟨#[63]⟩, .string ⟨#[61]⟩, .string ⟨#[60]⟩, .string ⟨#[62]⟩, .string ⟨#[43]⟩, .string ⟨#[45]⟩, .string ⟨#[42]⟩, .string ⟨#[47]⟩, .string ⟨#[37]⟩, .string ⟨#[38]⟩]
theorem sgIdx (w : World) (k : Nat) (h : k < 18) : (Instr.index 77 sgV (.int .i64 (k : Int))).run Tryd.prog w = .ok (.string (signsT.getD k ⟨#[]⟩)) w := by
  rcases (show k = 0 ∨ k = 1 ∨ k = 2 ∨ k = 3 ∨ k = 4 ∨ k = 5 ∨ k = 6 ∨ k = 7 ∨ k = 8 ∨ k = 9 ∨ k = 10 ∨ k = 11 ∨ k = 12 ∨ k = 13 ∨ k = 14 ∨ k = 15 ∨ k = 16 ∨ k = 17 by omega) with rfl | rfl | rfl | rfl | rfl | rfl | rfl | rfl | rfl | rfl | rfl | rfl | rfl | rfl | rfl | rfl | rfl | rfl
  all_goals kernel_rfl
/-- The signs from one on. -/
def sgFrom (k : Nat) (l : List UInt8) : Option ByteArray := (signsT.drop k).find? fun s => (bl s).isPrefixOf l
theorem sgFrom_step (k : Nat) (h : k < 18) (l : List UInt8) : sgFrom k l = if (bl (signsT.getD k ⟨#[]⟩)).isPrefixOf l then some (signsT.getD k ⟨#[]⟩) else sgFrom (k + 1) l := by
  have h1 : signsT.drop k = signsT.getD k ⟨#[]⟩ :: signsT.drop (k + 1) := by
    rcases (show k = 0 ∨ k = 1 ∨ k = 2 ∨ k = 3 ∨ k = 4 ∨ k = 5 ∨ k = 6 ∨ k = 7 ∨ k = 8 ∨ k = 9 ∨ k = 10 ∨ k = 11 ∨ k = 12 ∨ k = 13 ∨ k = 14 ∨ k = 15 ∨ k = 16 ∨ k = 17 by omega) with rfl | rfl | rfl | rfl | rfl | rfl | rfl | rfl | rfl | rfl | rfl | rfl | rfl | rfl | rfl | rfl | rfl | rfl
    all_goals rfl
  unfold sgFrom
  rw [h1, List.find?_cons]
  split <;> simp_all
theorem sgFrom_end (k : Nat) (h : 18 ≤ k) (l : List UInt8) : sgFrom k l = none := by
  unfold sgFrom
  rw [List.drop_eq_nil_of_le (by simpa [signsT] using h)]
  rfl
/-- The test of the runs' bytes, on runes. -/
def runeP (r : Nat) : Bool := decide (97 ≤ (r : Int)) && decide ((r : Int) ≤ 122) || decide (65 ≤ (r : Int)) && decide ((r : Int) ≤ 90) || decide (48 ≤ (r : Int)) && decide ((r : Int) ≤ 57) || decide ((r : Int) = 95)
theorem predW (w : World) : PredAt Tryd.prog 57 #[] encR runeP w := by
  intro W x _
  refine (lRune (x : Int) W).mono ?_
  rintro e w1 ⟨rfl, rfl⟩
  exact ⟨rfl, 0, by simp [World.drewN_zero]⟩
theorem drop_get (s : ByteArray) (pos : Nat) (h : pos < s.size) : (bl s).drop pos = s[pos] :: (bl s).drop (pos + 1) := by
  rw [List.drop_eq_getElem_cons (by rw [size_bl]; exact h), get_bl s pos h]
theorem idx_run (s : ByteArray) : ∀ (f pos : Nat), s.size ≤ pos + f → pos ≤ s.size →
    (Lib.idxFuncFrom runeP false s f pos = -1 ∧ (runL ((bl s).drop pos)).length = s.size - pos) ∨ (Lib.idxFuncFrom runeP false s f pos = ((pos + (runL ((bl s).drop pos)).length : Nat) : Int) ∧ pos + (runL ((bl s).drop pos)).length < s.size)
  | 0, pos, h1, h2 => by
    have e : pos = s.size := by omega
    left
    refine ⟨rfl, ?_⟩
    rw [List.drop_of_length_le (by rw [size_bl]; omega)]
    simp [runL, e]
  | f + 1, pos, h1, h2 => by
    unfold Lib.idxFuncFrom
    by_cases hlt : pos < s.size
    · rw [if_pos hlt, drop_get s pos hlt]
      unfold runL
      rw [List.takeWhile_cons]
      by_cases ha : s[pos].toNat < 128
      · rw [decode_ascii s pos hlt ha]
        have hw : runeP s[pos].toNat = wordB s[pos] := rune_word s[pos]
        simp only [hw]
        rcases hwd : wordB s[pos] with _ | _
        · right
          simp
          exact hlt
        · have ih := idx_run s f (pos + 1) (by omega) (by omega)
          unfold runL at ih
          simp only [Bool.true_eq_false, if_false, if_true, List.length_cons]
          rcases ih with ⟨e1, e2⟩ | ⟨e1, e2⟩
          · left; exact ⟨e1, by omega⟩
          · right; exact ⟨by rw [e1]; omega, by omega⟩
      · have hd := (decode_high s pos hlt (by omega)).1
        have hp : runeP (Utf8.decode s pos).1 = false := rune_high _ hd
        rw [wordB_false s[pos] (by omega), hp]
        right
        simp
        exact hlt
    · rw [if_neg hlt]
      left
      refine ⟨rfl, ?_⟩
      rw [List.drop_of_length_le (by rw [size_bl]; omega)]
      simp [runL]
      omega
theorem trim_size (s : ByteArray) : (Lib.trimLeftF runeP s).size + (runL (bl s)).length = s.size := by
  have h := idx_run s s.size 0 (by omega) (by omega)
  rw [List.drop_zero] at h
  unfold Lib.trimLeftF Lib.idxFunc
  rcases h with ⟨h1, h2⟩ | ⟨h1, h2⟩
  · rw [h1, if_pos rfl]
    show 0 + _ = _
    omega
  · rw [h1, if_neg (by omega)]
    simp
    omega
theorem run_take (l : List UInt8) : l.take (runL l).length = runL l := (List.prefix_iff_eq_take.1 (List.takeWhile_prefix _)).symm
/-- What the head of a source stands for, if no quote stands there: an error's number or 0, a token, how many bytes. -/
def firstT (l : List UInt8) : (Int × Tk) × Nat :=
  match l with
  | [] => ((31, tk0), 0)
  | c :: _ =>
    if wordB c then (wordT (runL l), (runL l).length)
    else match sgFrom 0 l with
      | some g => ((0, ⟨7, g, 0, 0⟩), g.size)
      | none => ((31, tk0), 0)
def FtPost (r : (Int × Tk) × Nat) (w : World) (e : Ending) (w' : World) : Prop := e = .returned (.tuple #[r.1.2.agg, .int .i64 r.2, .int .i64 r.1.1]) ∧ Below w.heap.size w w'
set_option maxHeartbeats 4000000 in
set_option maxRecDepth 100000 in
theorem lFirst (s : ByteArray) (w : World) (h0 : 0 < s.size) (hs : s.size ≤ 281474976710656) (hE : ErrAt w) (hK : KwAt w) (hG : SgAt w) (h34 : s[0].toNat ≠ 34) :
    Calls Tryd.prog 33 #[.string s] w (FtPost (firstT (bl s)) w) := by
  obtain ⟨W, hW⟩ : ∃ W, W = w.alloc (.cells #[.int .i8 0, .string ⟨#[]⟩, .int .i64 0, .int .i64 0] 36) := ⟨_, rfl⟩
  have HBW := Lib.hid (show Below w.heap.size w W by rw [hW]; exact below_alloc _ _)
  have hsW : W.heap.size = w.heap.size + 1 := by rw [hW]; simp
  have HBX := Lib.hid (show W.heap[w.heap.size]? = some (.cells #[.int .i8 0, .string ⟨#[]⟩, .int .i64 0, .int .i64 0] 36 (0, 0)) by rw [hW]; exact heap_alloc_new w _)
  have HE := Lib.hid (hE.at HBW.out); clear hE
  have HK := Lib.hid (hK.at HBW.out); clear hK
  have HG := Lib.hid (hG.at HBW.out); clear hG
  have q34 : ((s[0].toNat : Int) == 34) = false := by simp; omega
  have HF := Lib.hid (show firstT (bl s) = if wordB s[0] then (wordT (runL (bl s)), (runL (bl s)).length) else match sgFrom 0 (bl s) with | some g => ((0, ⟨7, g, 0, 0⟩), g.size) | none => ((31, tk0), 0) by
    have h1 := head_48 h0
    obtain ⟨c, r, hcr⟩ : ∃ c r, bl s = c :: r := by
      match hb : bl s with
      | [] => rw [hb] at h1; simp at h1
      | c :: r => exact ⟨c, r, rfl⟩
    rw [hcr] at h1
    simp only [List.head?_cons, Option.some.injEq] at h1
    rw [hcr, firstT, h1])
  clear h34
  rcases hw : wordB s[0] with _ | _
  · have HR := Lib.hid (show firstT (bl s) = match sgFrom 0 (bl s) with | some g => ((0, ⟨7, g, 0, 0⟩), g.size) | none => ((31, tk0), 0) by rw [HF.out, hw]; rfl)
    have HWB := Lib.hid hw; clear hw
    go_enter Tryd.func33, Tryd.ntmps33
    go_wp2_with fail
    rw [← hW]
    clear hW
    refine (lInWord _ _).mono ?_
    rintro e w1 ⟨rfl, rfl⟩
    rw [HWB.out]
    have k0 : W.cell? ⟨1, 0, none⟩ = some (.string ⟨#[58, 45]⟩) := HG.out.sgs 0 (by decide)
    have k1 : W.cell? ⟨1, 1, none⟩ = some (.string ⟨#[33, 61]⟩) := HG.out.sgs 1 (by decide)
    have k2 : W.cell? ⟨1, 2, none⟩ = some (.string ⟨#[60, 61]⟩) := HG.out.sgs 2 (by decide)
    have k3 : W.cell? ⟨1, 3, none⟩ = some (.string ⟨#[62, 61]⟩) := HG.out.sgs 3 (by decide)
    have k4 : W.cell? ⟨1, 4, none⟩ = some (.string ⟨#[40]⟩) := HG.out.sgs 4 (by decide)
    have k5 : W.cell? ⟨1, 5, none⟩ = some (.string ⟨#[41]⟩) := HG.out.sgs 5 (by decide)
    have k6 : W.cell? ⟨1, 6, none⟩ = some (.string ⟨#[44]⟩) := HG.out.sgs 6 (by decide)
    have k7 : W.cell? ⟨1, 7, none⟩ = some (.string ⟨#[46]⟩) := HG.out.sgs 7 (by decide)
    have k8 : W.cell? ⟨1, 8, none⟩ = some (.string ⟨#[63]⟩) := HG.out.sgs 8 (by decide)
    have k9 : W.cell? ⟨1, 9, none⟩ = some (.string ⟨#[61]⟩) := HG.out.sgs 9 (by decide)
    have k10 : W.cell? ⟨1, 10, none⟩ = some (.string ⟨#[60]⟩) := HG.out.sgs 10 (by decide)
    have k11 : W.cell? ⟨1, 11, none⟩ = some (.string ⟨#[62]⟩) := HG.out.sgs 11 (by decide)
    have k12 : W.cell? ⟨1, 12, none⟩ = some (.string ⟨#[43]⟩) := HG.out.sgs 12 (by decide)
    have k13 : W.cell? ⟨1, 13, none⟩ = some (.string ⟨#[45]⟩) := HG.out.sgs 13 (by decide)
    have k14 : W.cell? ⟨1, 14, none⟩ = some (.string ⟨#[42]⟩) := HG.out.sgs 14 (by decide)
    have k15 : W.cell? ⟨1, 15, none⟩ = some (.string ⟨#[47]⟩) := HG.out.sgs 15 (by decide)
    have k16 : W.cell? ⟨1, 16, none⟩ = some (.string ⟨#[37]⟩) := HG.out.sgs 16 (by decide)
    have k17 : W.cell? ⟨1, 17, none⟩ = some (.string ⟨#[38]⟩) := HG.out.sgs 17 (by decide)
    go_wp2_with fail
    clear k0 k1 k2 k3 k4 k5 k6 k7 k8 k9 k10 k11 k12 k13 k14 k15 k16 k17
    obtain ⟨KV, hKV⟩ : ∃ KV, KV = sgV := ⟨_, rfl⟩
    rw [show (Value.agg #[.string ⟨#[58, 45]⟩, .string ⟨#[33, 61]⟩, .string ⟨#[60, 61]⟩, .string ⟨#[62, 61]⟩, .string ⟨#[40]⟩, .string ⟨#[41]⟩, .string ⟨#[44]⟩, .string ⟨#[46]⟩, .string ⟨#[63]⟩, .string ⟨#[61]⟩, .string ⟨#[60]⟩, .string ⟨#[62]⟩, .string ⟨#[43]⟩, .string ⟨#[45]⟩, .string ⟨#[42]⟩, .string ⟨#[47]⟩, .string ⟨#[37]⟩, .string ⟨#[38]⟩]) = KV from hKV.symm]
    have hidx := fun k h => sgIdx W k h
    rw [← hKV] at hidx
    have HX := Lib.hid hidx
    clear hKV hidx
    go_loop [42] (fun i => ∃ k : Nat, k ≤ 18 ∧ i = .int .i64 k ∧ sgFrom 0 (bl s) = sgFrom k (bl s)) (fun i => 18 - (intOf i).toNat)
    case atStart => exact ⟨0, by omega, rfl, rfl⟩
    case round =>
      obtain ⟨k, hk, rfl, hwk⟩ := hrel
      have HW := Lib.hid hwk; clear hwk
      obtain ⟨x0, x1, x2, x3⟩ := four HBX.out
      have f0 : W.frozen? ⟨w.heap.size, 0, none⟩ = false := Lib.frozen_of_heap HBX.out 0
      have f1 : W.frozen? ⟨w.heap.size, 1, none⟩ = false := Lib.frozen_of_heap HBX.out 1
      have f2 : W.frozen? ⟨w.heap.size, 2, none⟩ = false := Lib.frozen_of_heap HBX.out 2
      have f3 : W.frozen? ⟨w.heap.size, 3, none⟩ = false := Lib.frozen_of_heap HBX.out 3
      by_cases hlt : k < 18
      · have HS := Lib.hid (sgFrom_step k hlt (bl s))
        have hix := HX.out k hlt
        obtain ⟨x, hx⟩ : ∃ x, x = signsT.getD k ⟨#[]⟩ := ⟨_, rfl⟩
        rw [← hx] at hix
        have HXX := Lib.hid hx; clear hx
        rcases hq : (bl x).isPrefixOf (bl s) with _ | _
        · have HQ := Lib.hid hq; clear hq
          clear x0 x1 x2 x3 f0 f1 f2 f3
          go_wp2_with fail
          refine (Tryd.strings_HasPrefix s x _).mono ?_
          rintro e w1 ⟨rfl, hw1⟩
          rw [hw1]
          clear hw1
          rw [show Lib.hasPrefix s.data.toList x.data.toList = false from HQ.out]
          clear hix
          go_wp2_with fail
          exact ⟨⟨k + 1, by omega, by go_num, by rw [HW.out, HS.out, ← HXX.out, HQ.out]; rfl⟩, by simp [intOf]; omega⟩
        · have HQ := Lib.hid hq; clear hq
          have HR2 := Lib.hid (show firstT (bl s) = ((0, ⟨7, x, 0, 0⟩), x.size) by rw [HR.out, HW.out, HS.out, ← HXX.out, HQ.out]; rfl)
          go_wp2_with fail
          refine (Tryd.strings_HasPrefix s x _).mono ?_
          rintro e w1 ⟨rfl, hw1⟩
          rw [hw1]
          clear hw1
          rw [show Lib.hasPrefix s.data.toList x.data.toList = true from HQ.out]
          clear hix
          go_wp2_with fail
          change bodyPost _ _ _ _ _ (putL W w.heap.size 0 [.int .i8 7, .string x, .int .i64 0, .int .i64 0])
          clear x0 x1 x2 x3 f0 f1 f2 f3
          have hb2 := putL_heap [.int .i8 7, .string x, .int .i64 0, .int .i64 0] HBX.out rfl
          have HBp := Lib.hid (putL_below (Nat.le_refl _) [.int .i8 7, .string x, .int .i64 0, .int .i64 0] _ 0 HBW.out)
          obtain ⟨W2, hW2⟩ : ∃ W2, W2 = putL W w.heap.size 0 [.int .i8 7, .string x, .int .i64 0, .int .i64 0] := ⟨_, rfl⟩
          rw [← hW2] at hb2 HBp ⊢
          clear hW2
          obtain ⟨z0, z1, z2, z3⟩ := four (show W2.heap[w.heap.size]? = some (.cells #[.int .i8 7, .string x, .int .i64 0, .int .i64 0] 36 (0, 0)) from hb2)
          refine bodyPost_ret (v := .tuple #[.agg #[.int .i8 7, .string x, .int .i64 0, .int .i64 0], .int .i64 x.size, .int .i64 0]) (by simp [results, Tryd.results33, go_sem, z0, z1, z2, z3]) rfl ?_
          exact ⟨by rw [HR2.out]; rfl, HBp.out⟩
      · have HR2 := Lib.hid (show firstT (bl s) = ((31, tk0), 0) by rw [HR.out, HW.out, sgFrom_end k (by omega)])
        go_wp2_with fail
        change bodyPost _ _ _ _ _ (putL W w.heap.size 0 [.int .i8 0, .string ⟨#[]⟩, .int .i64 0, .int .i64 0])
        clear x0 x1 x2 x3 f0 f1 f2 f3
        have hb2 := putL_heap [.int .i8 0, .string ⟨#[]⟩, .int .i64 0, .int .i64 0] HBX.out rfl
        have HBp := Lib.hid (putL_below (Nat.le_refl _) [.int .i8 0, .string ⟨#[]⟩, .int .i64 0, .int .i64 0] _ 0 HBW.out)
        obtain ⟨W2, hW2⟩ : ∃ W2, W2 = putL W w.heap.size 0 [.int .i8 0, .string ⟨#[]⟩, .int .i64 0, .int .i64 0] := ⟨_, rfl⟩
        rw [← hW2] at hb2 HBp ⊢
        clear hW2
        obtain ⟨z0, z1, z2, z3⟩ := four (show W2.heap[w.heap.size]? = some (.cells #[.int .i8 0, .string ⟨#[]⟩, .int .i64 0, .int .i64 0] 36 (0, 0)) from hb2)
        refine bodyPost_ret (v := .tuple #[.agg #[.int .i8 0, .string ⟨#[]⟩, .int .i64 0, .int .i64 0], .int .i64 0, .int .i64 31]) (by simp [results, Tryd.results33, go_sem, z0, z1, z2, z3]) rfl ?_
        exact ⟨by rw [HR2.out]; rfl, HBp.out⟩
  · have HR := Lib.hid (show firstT (bl s) = (wordT (runL (bl s)), (runL (bl s)).length) by rw [HF.out, hw]; rfl)
    have hpos : 0 < (runL (bl s)).length := by
      have h1 := drop_get s 0 h0
      rw [List.drop_zero] at h1
      rw [h1, runL, List.takeWhile_cons, hw]
      simp
    have HWB := Lib.hid hw; clear hw
    have hts := trim_size s
    have hrl : (runL (bl s)).length ≤ s.size := by omega
    obtain ⟨T, hT⟩ : ∃ T, T = Lib.trimLeftF runeP s := ⟨_, rfl⟩
    rw [← hT] at hts
    obtain ⟨m, hm⟩ : ∃ m, m = (runL (bl s)).length := ⟨_, rfl⟩
    rw [← hm] at hts hrl hpos HR
    have hsub : (s.size : Int) - (T.size : Int) = (m : Int) := by omega
    have HSUB := Lib.hid hsub; clear hsub
    have HT := Lib.hid hT; clear hT
    have HM := Lib.hid hm; clear hm
    have hts2 : T.size ≤ s.size := by omega
    clear hts
    go_enter Tryd.func33, Tryd.ntmps33
    go_wp2_with fail
    rw [← hW]
    clear hW
    refine (lInWord _ _).mono ?_
    rintro e w1 ⟨rfl, rfl⟩
    rw [HWB.out]
    go_wp2_with fail
    refine (Tryd.strings_TrimLeftFunc 57 #[] (fun _ _ => by kernel_rfl) runeP s _ (predW _)).mono ?_
    rintro e w1 ⟨rfl, hb⟩
    rw [← HT.out]
    have hx := (hb.block w.heap.size (by omega)).trans HBX.out
    have HX1 := Lib.hid hx; clear hx
    have hsz1 : w.heap.size < w1.heap.size := by have := hb.size; omega
    have HE1 := Lib.hid (HE.out.at hb)
    have HK1 := Lib.hid (HK.out.at hb)
    have Hb := Lib.hid (HBW.out.trans (hb.mono (by omega))); clear hb
    go_wp2_with fail
    obtain ⟨X, hX⟩ : ∃ X, X = s.extract 0 (s.size - T.size) := ⟨_, rfl⟩
    have hbX : bl X = runL (bl s) := by
      rw [hX, bl_extract, List.drop_zero]
      have e := HSUB.out
      rw [show s.size - T.size - 0 = (runL (bl s)).length by rw [← HM.out]; omega]
      exact run_take _
    have hXs : X.size = m := by rw [← size_bl, hbX, ← HM.out]
    rw [← hX]
    clear hX
    refine (lWord X _ (by omega) (by omega) HE1.out HK1.out).mono ?_
    rintro e w2 ⟨rfl, hb⟩
    have hx2 := (hb.block w.heap.size hsz1).trans HX1.out
    obtain ⟨x0, x1, x2, x3⟩ := four hx2
    have f0 : w2.frozen? ⟨w.heap.size, 0, none⟩ = false := Lib.frozen_of_heap hx2 0
    have f1 : w2.frozen? ⟨w.heap.size, 1, none⟩ = false := Lib.frozen_of_heap hx2 1
    have f2 : w2.frozen? ⟨w.heap.size, 2, none⟩ = false := Lib.frozen_of_heap hx2 2
    have f3 : w2.frozen? ⟨w.heap.size, 3, none⟩ = false := Lib.frozen_of_heap hx2 3
    have HX2 := Lib.hid hx2; clear hx2
    have hsz2 : w.heap.size < w2.heap.size := by have := hb.size; omega
    have Hb2 := Lib.hid (Hb.out.trans (hb.mono (by omega))); clear hb
    have HR2 := Lib.hid (show firstT (bl s) = (wordT (bl X), m) by rw [HR.out, hbX])
    clear hbX
    obtain ⟨⟨er, ⟨kk, tx, nn, pl⟩⟩, hnt⟩ : ∃ x, x = wordT (bl X) := ⟨_, rfl⟩
    rw [← hnt] at HR2 ⊢
    clear hnt
    simp only [Tk.agg]
    go_wp2_with fail
    change bodyPost _ _ _ _ _ ((putL w2 w.heap.size 0 [.int .i8 kk, .string tx, .int .i64 nn, .int .i64 pl]).alloc (.cells #[.int .i8 kk, .string tx, .int .i64 nn, .int .i64 pl] 36))
    clear x0 x1 x2 x3 f0 f1 f2 f3
    have hb2 := (Lib.alloc_old (putL w2 w.heap.size 0 [.int .i8 kk, .string tx, .int .i64 nn, .int .i64 pl]) (.cells #[.int .i8 kk, .string tx, .int .i64 nn, .int .i64 pl] 36) w.heap.size (by rw [putL_size]; exact hsz2)).trans (putL_heap [.int .i8 kk, .string tx, .int .i64 nn, .int .i64 pl] HX2.out rfl)
    have HBp := Lib.hid ((putL_below (Nat.le_refl _) [.int .i8 kk, .string tx, .int .i64 nn, .int .i64 pl] _ 0 Hb2.out).alloc (by rw [putL_size]; exact Hb2.out.size) (.cells #[.int .i8 kk, .string tx, .int .i64 nn, .int .i64 pl] 36))
    obtain ⟨W2, hW2⟩ : ∃ W2, W2 = (putL w2 w.heap.size 0 [.int .i8 kk, .string tx, .int .i64 nn, .int .i64 pl]).alloc (.cells #[.int .i8 kk, .string tx, .int .i64 nn, .int .i64 pl] 36) := ⟨_, rfl⟩
    rw [← hW2] at hb2 HBp ⊢
    clear hW2
    obtain ⟨z0, z1, z2, z3⟩ := four (show W2.heap[w.heap.size]? = some (.cells #[.int .i8 kk, .string tx, .int .i64 nn, .int .i64 pl] 36 (0, 0)) from hb2)
    refine bodyPost_ret (v := .tuple #[.agg #[.int .i8 kk, .string tx, .int .i64 nn, .int .i64 pl], .int .i64 m, .int .i64 er]) (by simp [results, Tryd.results33, go_sem, z0, z1, z2, z3]) rfl ?_
    exact ⟨by rw [HR2.out]; rfl, HBp.out⟩
end Go.Proofs.YtcigdlpljjkplaaDoor
