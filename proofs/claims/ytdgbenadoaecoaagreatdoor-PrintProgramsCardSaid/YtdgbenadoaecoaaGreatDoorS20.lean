/- Copies of lists of literals: the contract of TwinLiterals. Conditions: the literals lie in memory as they are told, no list is too long. -/
import Derived.Test.YtdgbenadoaecoaaGreatDoorS19
namespace Go.Proofs.YtdgbenadoaecoaaGreatDoor
open Go.RowKit

theorem infoLt : (Tryz.prog.info? 80).map (fun i => (i.zero, i.size, i.bytes)) = some (some (.agg #[.int .i8 0, .string ⟨#[]⟩, .slice none 0 0, .int .i8 0, .int .i8 0, .string ⟨#[]⟩, .int .i8 0, .int .i64 0, .string ⟨#[]⟩, .slice none 0 0, .int .i8 0, .string ⟨#[]⟩, .int .i8 0, .int .i64 0, .string ⟨#[]⟩, .slice none 0 0]), 16, 216) := by kernel_rfl
theorem make_lt (n : Nat) (hn : n ≤ 1000000000000) (w : World) : (Instr.makeSlice 23 (.int .i64 ((n : Int) + 1)) (.int .i64 ((n : Int) + 1))).run Tryz.prog w =
    .ok (.slice (some ⟨w.heap.size, 0, none⟩) (n + 1) (n + 1)) (w.alloc (.cells (madeCells #[.int .i8 0, .string ⟨#[]⟩, .slice none 0 0, .int .i8 0, .int .i8 0, .string ⟨#[]⟩, .int .i8 0, .int .i64 0, .string ⟨#[]⟩, .slice none 0 0, .int .i8 0, .string ⟨#[]⟩, .int .i8 0, .int .i64 0, .string ⟨#[]⟩, .slice none 0 0] ((n + 1) * 16)) 80)) := by
  obtain ⟨i, hi, hzz⟩ := Option.map_eq_some_iff.1 infoLt
  simp only [Prod.mk.injEq] at hzz
  obtain ⟨hz, hs, hb⟩ := hzz
  have h := run_make (P := Tryz.prog) w 23 80 i _ Tryz.underlying23 hi hz .i64 .i64 ((n : Int) + 1) ((n : Int) + 1) (by omega) (Int.le_refl _) (by rw [hb]; omega) (by omega)
  rw [h, hs, show ((n : Int) + 1).toNat = n + 1 by omega]
  rfl
/-- A copy of a list of literals in block a, with a mark behind it. -/
structure TwLs (w : World) (a : Nat) {d : Nat} (fs gs : List (Lt d)) : Prop where
  lt : a < w.heap.size
  len : gs.length = fs.length
  like : ∀ i, (h : i < fs.length) → (h' : i < gs.length) → LtLike fs[i] gs[i]
  cells : ∀ i, (h : i < gs.length) → VsAt w a (i * 16) (ltVs gs[i])
  mark : VsAt w a (fs.length * 16) mkVs
  kids : ∀ g ∈ gs, LtTw w (a + 1) g
theorem TwLs.up {w w' : World} {a : Nat} {d : Nat} {fs gs : List (Lt d)} (h : TwLs w a fs gs) (hs : w.heap.size ≤ w'.heap.size) (hb : ∀ k, a ≤ k → k < w.heap.size → w'.heap[k]? = w.heap[k]?) : TwLs w' a fs gs :=
  ⟨Nat.lt_of_lt_of_le h.lt hs, h.len, h.like, fun i hi => (h.cells i hi).of_block (hb a (Nat.le_refl _) h.lt), h.mark.of_block (hb a (Nat.le_refl _) h.lt), fun g hg => (h.kids g hg).up (Nat.le_refl _) hs (fun k h1 h2 => hb k (by omega) h2)⟩
theorem TwLs.low {w w' : World} {a : Nat} {d : Nat} {fs gs : List (Lt d)} (h : TwLs w a fs gs) (hb : Below w.heap.size w w') : TwLs w' a fs gs := h.up hb.size (fun k _ hk => hb.block k hk)
theorem like_lt {d : Nat} {fs gs : List (Lt d)} (hl : gs.length = fs.length) (h : ∀ i, (h : i < fs.length) → (h' : i < gs.length) → LtLike fs[i] gs[i]) {P : Lt d → Prop} {Q : Lt d → Prop} (hf : ∀ f ∈ fs, P f) (hq : ∀ f g, LtLike f g → P f → Q g) : ∀ g ∈ gs, Q g := by
  intro g hg
  obtain ⟨i, hi, rfl⟩ := List.mem_iff_getElem.1 hg
  exact hq _ _ (h i (by omega) hi) (hf _ (List.getElem_mem (by omega)))
theorem TwLs.at {w : World} {a : Nat} {d : Nat} {fs gs : List (Lt d)} (h : TwLs w a fs gs) (hr : ∀ f ∈ fs, LtB f) : LtsAt w d (some ⟨a, 0, none⟩) gs :=
  ⟨.inr ⟨a, 0, rfl, h.lt, fun i hi => by rw [Nat.zero_add]; exact (h.cells i hi).lt⟩, fun g hg => (h.kids g hg).at (like_lt h.len h.like hr (fun _ _ h1 h2 => h1.b h2) g hg)⟩
/-- At the head of the copying rounds. -/
def TlRel {d : Nat} (fs : List (Lt d)) (w : World) (i : Value) (wr : World) : Prop :=
  ∃ (j : Nat) (gs : List (Lt d)) (cs : Array Value), i = .int .i64 j ∧ j ≤ fs.length ∧ gs.length = j ∧ (∀ m, (h : m < fs.length) → (h' : m < gs.length) → LtLike fs[m] gs[m]) ∧
    wr.heap[w.heap.size]? = some (.cells cs 80 (0, 0)) ∧ cs.size = (fs.length + 1) * 16 ∧ (∀ m, (h : m < gs.length) → VsAt wr w.heap.size (m * 16) (ltVs gs[m])) ∧ (∀ g ∈ gs, LtTw wr (w.heap.size + 1) g) ∧ Below w.heap.size w wr
theorem ltVs_len {d : Nat} (x : Lt d) : (ltVs x).length = 16 := rfl
theorem tl_next {d : Nat} {fs gs : List (Lt d)} {cs : Array Value} {w wr w1 : World} {j : Nat} {g : Lt d} (hlt : j < fs.length) (hl : gs.length = j) (hal : ∀ m, (h : m < fs.length) → (h' : m < gs.length) → LtLike fs[m] gs[m])
    (hbk : wr.heap[w.heap.size]? = some (.cells cs 80 (0, 0))) (hcs : cs.size = (fs.length + 1) * 16) (hcell : ∀ m, (h : m < gs.length) → VsAt wr w.heap.size (m * 16) (ltVs gs[m]))
    (htw : ∀ g ∈ gs, LtTw wr (w.heap.size + 1) g) (hbe : Below w.heap.size w wr) (hal1 : LtLike fs[j] g) (htw1 : LtTw w1 wr.heap.size g) (hb1 : Below wr.heap.size wr w1) :
    TlRel fs w (.int .i64 ((j : Int) + 1)) (putL w1 w.heap.size (j * 16) (ltVs g)) := by
  have hszr : w.heap.size < wr.heap.size := (Array.getElem?_eq_some_iff.1 hbk).1
  have hbk1 := (hb1.block w.heap.size hszr).trans hbk
  have hblk : ∀ k, w.heap.size + 1 ≤ k → k < w1.heap.size → (putL w1 w.heap.size (j * 16) (ltVs g)).heap[k]? = w1.heap[k]? :=
    fun k hk _ => putL_block (by omega) _ _ _
  refine ⟨j + 1, gs ++ [g], _, rfl, by omega, by simp [hl], ?_, putL_any _ _ _ _ hbk1, by rw [setL_size]; exact hcs, ?_, ?_, putL_below (Nat.le_refl _) _ _ _ (hbe.trans (hb1.mono (by omega)))⟩
  · intro m h h'
    by_cases hm : m < j
    · rw [List.getElem_append_left (by omega)]
      exact hal m h (by omega)
    · obtain rfl : m = j := by simp [hl] at h'; omega
      rw [List.getElem_append_right (by omega)]
      simpa [hl] using hal1
  · intro m h
    by_cases hm : m < j
    · rw [List.getElem_append_left (by omega)]
      exact putL_keepsV hbk1 ((hcell m (by omega)).of_block (hb1.block _ hszr)) (by rw [ltVs_len, ltVs_len]; omega)
    · obtain rfl : m = j := by simp [hl] at h; omega
      have e1 : (gs ++ [g])[m] = g := by
        rw [List.getElem_append_right (by omega)]
        simp [hl]
      rw [e1]
      exact putL_newV hbk1 (by rw [ltVs_len]; omega)
  · intro t ht
    rcases List.mem_append.1 ht with ht | ht
    · have h1 : LtTw w1 (w.heap.size + 1) t := (htw t ht).up (Nat.le_refl _) hb1.size (fun k hk hk' => hb1.block k hk')
      exact h1.up (Nat.le_refl _) (by rw [putL_size]; omega) hblk
    · obtain rfl := List.mem_singleton.1 ht
      exact htw1.up (by omega) (by rw [putL_size]; omega) (fun k hk hk' => hblk k (by omega) hk')
/-- What a call leaves that copies a list of literals. -/
def TlsPost {d : Nat} (fs : List (Lt d)) (w : World) (r : Ending) (w' : World) : Prop :=
  ∃ a gs, r = .returned (.slice (some ⟨a, 0, none⟩) fs.length (fs.length + 1)) ∧ w.heap.size ≤ a ∧ TwLs w' a fs gs ∧ Below w.heap.size w w'
set_option maxHeartbeats 8000000 in
set_option maxRecDepth 100000 in
theorem twinLits (d : Nat) (fs : List (Lt d)) (p : Option Addr) (cap : Nat) (w : World) (hs : LtsAt w d p fs) (hr : ∀ f ∈ fs, LtR f) (hbb : ∀ f ∈ fs, LtB f) (hn : fs.length ≤ 1000000000000) (hT : Tabs w) :
    Calls Tryz.prog 18 #[.slice p fs.length cap] w (TlsPost fs w) := by
  have HS := Lib.hid hs; clear hs
  have HR := Lib.hid hr; clear hr
  have HBB := Lib.hid hbb; clear hbb
  have HT := Lib.hid hT; clear hT
  have hmk := fun w => make_lt fs.length hn w
  obtain ⟨Z, hZ⟩ : ∃ Z, Z = madeCells #[.int .i8 0, .string ⟨#[]⟩, .slice none 0 0, .int .i8 0, .int .i8 0, .string ⟨#[]⟩, .int .i8 0, .int .i64 0, .string ⟨#[]⟩, .slice none 0 0, .int .i8 0, .string ⟨#[]⟩, .int .i8 0, .int .i64 0, .string ⟨#[]⟩, .slice none 0 0] ((fs.length + 1) * 16) := ⟨_, rfl⟩
  have HZS := Lib.hid (show Z.size = (fs.length + 1) * 16 by rw [hZ]; exact size_madeCells _ _)
  simp only [← hZ] at hmk
  clear hZ
  go_enter Tryz.func18, Tryz.ntmps18
  go_wp2_with fail
  clear hmk
  go_loopw [4] (fun i wr => TlRel fs w i wr) (fun i _ => fs.length - (intOf i).toNat)
  case atStart => exact ⟨0, [], Z, rfl, by omega, rfl, fun m _ h => by simp at h, heap_alloc_new w _, HZS.out, fun m h => by simp at h, fun t h => by simp at h, below_alloc _ _⟩
  case round =>
    obtain ⟨j, gs, cs, rfl, hj, hl, hal, hbk, hcs, hcell, htw, hbe⟩ := hrel
    have HL := Lib.hid hl; clear hl
    have HAL := Lib.hid hal; clear hal
    have HCELL := Lib.hid hcell; clear hcell
    have HTW := Lib.hid htw; clear htw
    have HBE := Lib.hid hbe; clear hbe
    have HBK := Lib.hid hbk
    have hszr : w.heap.size < wr.heap.size := (Array.getElem?_eq_some_iff.1 hbk).1
    clear hbk
    by_cases hlt : j < fs.length
    · rcases HS.out.1 with h0 | ⟨a, o, hp, ha, hc⟩
      · omega
      subst hp
      have hck := (hc j hlt).up HBE.out ha
      clear hc
      have HE := Lib.hid ((HS.out.2 fs[j] (List.getElem_mem hlt)).up HBE.out)
      have HRk := Lib.hid (HR.out fs[j] (List.getElem_mem hlt))
      have HBk := Lib.hid (HBB.out fs[j] (List.getElem_mem hlt))
      obtain ⟨tk, htk⟩ : ∃ tk, tk = fs[j] := ⟨_, rfl⟩
      rw [← htk] at hck HE HRk HBk
      have HTK := Lib.hid htk; clear htk
      obtain ⟨c0, c1, c2, c3, c4, c5, c6, c7, c8, c9, c10, c11, c12, c13, c14, c15⟩ := hck
      have hcall := fun w' h h2 => twinLit d tk w' h HRk.out HBk.out h2
      obtain ⟨q, cp, hsv, _, _⟩ := HE.out.at_
      obtain ⟨pl, cl, hsl⟩ := ex_sl2 HE.out.l_
      obtain ⟨pg, cg, hsg⟩ := ex_sl2 HE.out.g_
      rw [hsv] at c2
      rw [hsl] at c9
      rw [hsg] at c15
      rw [hsv, hsl, hsg] at hcall
      have HCALL := Lib.hid hcall; clear hcall
      clear hsv hsl hsg
      go_wp2_with fail
      refine (HCALL.out _ HE.out (HT.out.at HBE.out)).mono ?_
      rintro r w1 ⟨g, rfl, hal1, htw1, hb1⟩
      clear c0 c1 c2 c3 c4 c5 c6 c7 c8 c9 c10 c11 c12 c13 c14 c15
      have HTW1 := Lib.hid htw1
      have HBg := hal1.b HBk.out
      obtain ⟨ag, hsv, _, _⟩ := htw1.at_
      obtain ⟨pl2, cl2, hsl⟩ := ex_sl2 (htw1.l_.at HBg.l_)
      obtain ⟨pg2, cg2, hsg⟩ := ex_sl2 (htw1.g_.at HBg.g_)
      clear HBg htw1
      rw [hsv, hsl, hsg]
      have HSV := Lib.hid hsv; clear hsv
      have HSL := Lib.hid hsl; clear hsl
      have HSG := Lib.hid hsg; clear hsg
      have HAL1 := Lib.hid hal1; clear hal1
      have hbk1 := (hb1.block w.heap.size hszr).trans HBK.out
      have HB1 := Lib.hid hb1; clear hb1
      have q0 : w1.cell? ⟨w.heap.size, j * 16, none⟩ = some (cs[j * 16]'(by omega)) := by rw [Lib.cell_of_heap hbk1]; simp [show j * 16 < cs.size by omega]
      have q1 : w1.cell? ⟨w.heap.size, j * 16 + 1, none⟩ = some (cs[j * 16 + 1]'(by omega)) := by rw [Lib.cell_of_heap hbk1]; simp [show j * 16 + 1 < cs.size by omega]
      have q2 : w1.cell? ⟨w.heap.size, j * 16 + 2, none⟩ = some (cs[j * 16 + 2]'(by omega)) := by rw [Lib.cell_of_heap hbk1]; simp [show j * 16 + 2 < cs.size by omega]
      have q3 : w1.cell? ⟨w.heap.size, j * 16 + 3, none⟩ = some (cs[j * 16 + 3]'(by omega)) := by rw [Lib.cell_of_heap hbk1]; simp [show j * 16 + 3 < cs.size by omega]
      have q4 : w1.cell? ⟨w.heap.size, j * 16 + 4, none⟩ = some (cs[j * 16 + 4]'(by omega)) := by rw [Lib.cell_of_heap hbk1]; simp [show j * 16 + 4 < cs.size by omega]
      have q5 : w1.cell? ⟨w.heap.size, j * 16 + 5, none⟩ = some (cs[j * 16 + 5]'(by omega)) := by rw [Lib.cell_of_heap hbk1]; simp [show j * 16 + 5 < cs.size by omega]
      have q6 : w1.cell? ⟨w.heap.size, j * 16 + 6, none⟩ = some (cs[j * 16 + 6]'(by omega)) := by rw [Lib.cell_of_heap hbk1]; simp [show j * 16 + 6 < cs.size by omega]
      have q7 : w1.cell? ⟨w.heap.size, j * 16 + 7, none⟩ = some (cs[j * 16 + 7]'(by omega)) := by rw [Lib.cell_of_heap hbk1]; simp [show j * 16 + 7 < cs.size by omega]
      have q8 : w1.cell? ⟨w.heap.size, j * 16 + 8, none⟩ = some (cs[j * 16 + 8]'(by omega)) := by rw [Lib.cell_of_heap hbk1]; simp [show j * 16 + 8 < cs.size by omega]
      have q9 : w1.cell? ⟨w.heap.size, j * 16 + 9, none⟩ = some (cs[j * 16 + 9]'(by omega)) := by rw [Lib.cell_of_heap hbk1]; simp [show j * 16 + 9 < cs.size by omega]
      have q10 : w1.cell? ⟨w.heap.size, j * 16 + 10, none⟩ = some (cs[j * 16 + 10]'(by omega)) := by rw [Lib.cell_of_heap hbk1]; simp [show j * 16 + 10 < cs.size by omega]
      have q11 : w1.cell? ⟨w.heap.size, j * 16 + 11, none⟩ = some (cs[j * 16 + 11]'(by omega)) := by rw [Lib.cell_of_heap hbk1]; simp [show j * 16 + 11 < cs.size by omega]
      have q12 : w1.cell? ⟨w.heap.size, j * 16 + 12, none⟩ = some (cs[j * 16 + 12]'(by omega)) := by rw [Lib.cell_of_heap hbk1]; simp [show j * 16 + 12 < cs.size by omega]
      have q13 : w1.cell? ⟨w.heap.size, j * 16 + 13, none⟩ = some (cs[j * 16 + 13]'(by omega)) := by rw [Lib.cell_of_heap hbk1]; simp [show j * 16 + 13 < cs.size by omega]
      have q14 : w1.cell? ⟨w.heap.size, j * 16 + 14, none⟩ = some (cs[j * 16 + 14]'(by omega)) := by rw [Lib.cell_of_heap hbk1]; simp [show j * 16 + 14 < cs.size by omega]
      have q15 : w1.cell? ⟨w.heap.size, j * 16 + 15, none⟩ = some (cs[j * 16 + 15]'(by omega)) := by rw [Lib.cell_of_heap hbk1]; simp [show j * 16 + 15 < cs.size by omega]
      have f0 : w1.frozen? ⟨w.heap.size, j * 16, none⟩ = false := Lib.frozen_of_heap hbk1 _
      have f1 : w1.frozen? ⟨w.heap.size, j * 16 + 1, none⟩ = false := Lib.frozen_of_heap hbk1 _
      have f2 : w1.frozen? ⟨w.heap.size, j * 16 + 2, none⟩ = false := Lib.frozen_of_heap hbk1 _
      have f3 : w1.frozen? ⟨w.heap.size, j * 16 + 3, none⟩ = false := Lib.frozen_of_heap hbk1 _
      have f4 : w1.frozen? ⟨w.heap.size, j * 16 + 4, none⟩ = false := Lib.frozen_of_heap hbk1 _
      have f5 : w1.frozen? ⟨w.heap.size, j * 16 + 5, none⟩ = false := Lib.frozen_of_heap hbk1 _
      have f6 : w1.frozen? ⟨w.heap.size, j * 16 + 6, none⟩ = false := Lib.frozen_of_heap hbk1 _
      have f7 : w1.frozen? ⟨w.heap.size, j * 16 + 7, none⟩ = false := Lib.frozen_of_heap hbk1 _
      have f8 : w1.frozen? ⟨w.heap.size, j * 16 + 8, none⟩ = false := Lib.frozen_of_heap hbk1 _
      have f9 : w1.frozen? ⟨w.heap.size, j * 16 + 9, none⟩ = false := Lib.frozen_of_heap hbk1 _
      have f10 : w1.frozen? ⟨w.heap.size, j * 16 + 10, none⟩ = false := Lib.frozen_of_heap hbk1 _
      have f11 : w1.frozen? ⟨w.heap.size, j * 16 + 11, none⟩ = false := Lib.frozen_of_heap hbk1 _
      have f12 : w1.frozen? ⟨w.heap.size, j * 16 + 12, none⟩ = false := Lib.frozen_of_heap hbk1 _
      have f13 : w1.frozen? ⟨w.heap.size, j * 16 + 13, none⟩ = false := Lib.frozen_of_heap hbk1 _
      have f14 : w1.frozen? ⟨w.heap.size, j * 16 + 14, none⟩ = false := Lib.frozen_of_heap hbk1 _
      have f15 : w1.frozen? ⟨w.heap.size, j * 16 + 15, none⟩ = false := Lib.frozen_of_heap hbk1 _
      have HBK1 := Lib.hid hbk1; clear hbk1
      go_wp2_with fail
      go_roundw
      case rel =>
        have h1 := tl_next hlt HL.out HAL.out HBK.out hcs HCELL.out HTW.out HBE.out (HTK.out ▸ HAL1.out) HTW1.out HB1.out
        unfold ltVs at h1
        rw [HSV.out, HSL.out, HSG.out] at h1
        exact h1
      case measure => simp [intOf]; omega
    · obtain rfl : j = fs.length := by omega
      go_wp2_with fail
      refine (mLit _ (HT.out.at HBE.out)).mono ?_
      rintro r w1 ⟨rfl, hb1⟩
      have hbk1 := (hb1.block w.heap.size hszr).trans HBK.out
      have HB1 := Lib.hid hb1; clear hb1
      have q0 : w1.cell? ⟨w.heap.size, fs.length * 16, none⟩ = some (cs[fs.length * 16]'(by omega)) := by rw [Lib.cell_of_heap hbk1]; simp [show fs.length * 16 < cs.size by omega]
      have q1 : w1.cell? ⟨w.heap.size, fs.length * 16 + 1, none⟩ = some (cs[fs.length * 16 + 1]'(by omega)) := by rw [Lib.cell_of_heap hbk1]; simp [show fs.length * 16 + 1 < cs.size by omega]
      have q2 : w1.cell? ⟨w.heap.size, fs.length * 16 + 2, none⟩ = some (cs[fs.length * 16 + 2]'(by omega)) := by rw [Lib.cell_of_heap hbk1]; simp [show fs.length * 16 + 2 < cs.size by omega]
      have q3 : w1.cell? ⟨w.heap.size, fs.length * 16 + 3, none⟩ = some (cs[fs.length * 16 + 3]'(by omega)) := by rw [Lib.cell_of_heap hbk1]; simp [show fs.length * 16 + 3 < cs.size by omega]
      have q4 : w1.cell? ⟨w.heap.size, fs.length * 16 + 4, none⟩ = some (cs[fs.length * 16 + 4]'(by omega)) := by rw [Lib.cell_of_heap hbk1]; simp [show fs.length * 16 + 4 < cs.size by omega]
      have q5 : w1.cell? ⟨w.heap.size, fs.length * 16 + 5, none⟩ = some (cs[fs.length * 16 + 5]'(by omega)) := by rw [Lib.cell_of_heap hbk1]; simp [show fs.length * 16 + 5 < cs.size by omega]
      have q6 : w1.cell? ⟨w.heap.size, fs.length * 16 + 6, none⟩ = some (cs[fs.length * 16 + 6]'(by omega)) := by rw [Lib.cell_of_heap hbk1]; simp [show fs.length * 16 + 6 < cs.size by omega]
      have q7 : w1.cell? ⟨w.heap.size, fs.length * 16 + 7, none⟩ = some (cs[fs.length * 16 + 7]'(by omega)) := by rw [Lib.cell_of_heap hbk1]; simp [show fs.length * 16 + 7 < cs.size by omega]
      have q8 : w1.cell? ⟨w.heap.size, fs.length * 16 + 8, none⟩ = some (cs[fs.length * 16 + 8]'(by omega)) := by rw [Lib.cell_of_heap hbk1]; simp [show fs.length * 16 + 8 < cs.size by omega]
      have q9 : w1.cell? ⟨w.heap.size, fs.length * 16 + 9, none⟩ = some (cs[fs.length * 16 + 9]'(by omega)) := by rw [Lib.cell_of_heap hbk1]; simp [show fs.length * 16 + 9 < cs.size by omega]
      have q10 : w1.cell? ⟨w.heap.size, fs.length * 16 + 10, none⟩ = some (cs[fs.length * 16 + 10]'(by omega)) := by rw [Lib.cell_of_heap hbk1]; simp [show fs.length * 16 + 10 < cs.size by omega]
      have q11 : w1.cell? ⟨w.heap.size, fs.length * 16 + 11, none⟩ = some (cs[fs.length * 16 + 11]'(by omega)) := by rw [Lib.cell_of_heap hbk1]; simp [show fs.length * 16 + 11 < cs.size by omega]
      have q12 : w1.cell? ⟨w.heap.size, fs.length * 16 + 12, none⟩ = some (cs[fs.length * 16 + 12]'(by omega)) := by rw [Lib.cell_of_heap hbk1]; simp [show fs.length * 16 + 12 < cs.size by omega]
      have q13 : w1.cell? ⟨w.heap.size, fs.length * 16 + 13, none⟩ = some (cs[fs.length * 16 + 13]'(by omega)) := by rw [Lib.cell_of_heap hbk1]; simp [show fs.length * 16 + 13 < cs.size by omega]
      have q14 : w1.cell? ⟨w.heap.size, fs.length * 16 + 14, none⟩ = some (cs[fs.length * 16 + 14]'(by omega)) := by rw [Lib.cell_of_heap hbk1]; simp [show fs.length * 16 + 14 < cs.size by omega]
      have q15 : w1.cell? ⟨w.heap.size, fs.length * 16 + 15, none⟩ = some (cs[fs.length * 16 + 15]'(by omega)) := by rw [Lib.cell_of_heap hbk1]; simp [show fs.length * 16 + 15 < cs.size by omega]
      have f0 : w1.frozen? ⟨w.heap.size, fs.length * 16, none⟩ = false := Lib.frozen_of_heap hbk1 _
      have f1 : w1.frozen? ⟨w.heap.size, fs.length * 16 + 1, none⟩ = false := Lib.frozen_of_heap hbk1 _
      have f2 : w1.frozen? ⟨w.heap.size, fs.length * 16 + 2, none⟩ = false := Lib.frozen_of_heap hbk1 _
      have f3 : w1.frozen? ⟨w.heap.size, fs.length * 16 + 3, none⟩ = false := Lib.frozen_of_heap hbk1 _
      have f4 : w1.frozen? ⟨w.heap.size, fs.length * 16 + 4, none⟩ = false := Lib.frozen_of_heap hbk1 _
      have f5 : w1.frozen? ⟨w.heap.size, fs.length * 16 + 5, none⟩ = false := Lib.frozen_of_heap hbk1 _
      have f6 : w1.frozen? ⟨w.heap.size, fs.length * 16 + 6, none⟩ = false := Lib.frozen_of_heap hbk1 _
      have f7 : w1.frozen? ⟨w.heap.size, fs.length * 16 + 7, none⟩ = false := Lib.frozen_of_heap hbk1 _
      have f8 : w1.frozen? ⟨w.heap.size, fs.length * 16 + 8, none⟩ = false := Lib.frozen_of_heap hbk1 _
      have f9 : w1.frozen? ⟨w.heap.size, fs.length * 16 + 9, none⟩ = false := Lib.frozen_of_heap hbk1 _
      have f10 : w1.frozen? ⟨w.heap.size, fs.length * 16 + 10, none⟩ = false := Lib.frozen_of_heap hbk1 _
      have f11 : w1.frozen? ⟨w.heap.size, fs.length * 16 + 11, none⟩ = false := Lib.frozen_of_heap hbk1 _
      have f12 : w1.frozen? ⟨w.heap.size, fs.length * 16 + 12, none⟩ = false := Lib.frozen_of_heap hbk1 _
      have f13 : w1.frozen? ⟨w.heap.size, fs.length * 16 + 13, none⟩ = false := Lib.frozen_of_heap hbk1 _
      have f14 : w1.frozen? ⟨w.heap.size, fs.length * 16 + 14, none⟩ = false := Lib.frozen_of_heap hbk1 _
      have f15 : w1.frozen? ⟨w.heap.size, fs.length * 16 + 15, none⟩ = false := Lib.frozen_of_heap hbk1 _
      have HBK1 := Lib.hid hbk1; clear hbk1
      unfold mkVs
      obtain ⟨mk, hmk⟩ : ∃ mk, mk = markB := ⟨_, rfl⟩
      have HMK := Lib.hid hmk
      rw [← hmk]
      clear hmk
      go_wp2_with fail
      go_ret
      clear q0 q1 q2 q3 q4 q5 q6 q7 q8 q9 q10 q11 q12 q13 q14 q15 f0 f1 f2 f3 f4 f5 f6 f7 f8 f9 f10 f11 f12 f13 f14 f15
      rw [HMK.out]
      change TlsPost fs w _ (putL w1 w.heap.size (fs.length * 16) mkVs)
      refine ⟨w.heap.size, gs, rfl, Nat.le_refl _, ⟨?_, HL.out, HAL.out, ?_, putL_newV HBK1.out (by show fs.length * 16 + 16 ≤ cs.size; omega), ?_⟩, putL_below (Nat.le_refl _) _ _ _ (HBE.out.trans (HB1.out.mono (by omega)))⟩
      · rw [putL_size]
        have := HB1.out.size
        omega
      · intro m h
        exact putL_keepsV HBK1.out ((HCELL.out m h).of_block (HB1.out.block _ hszr)) (by have := HL.out; rw [ltVs_len]; show m * 16 + 16 ≤ fs.length * 16 ∨ _; omega)
      · intro t ht
        have h1 : LtTw w1 (w.heap.size + 1) t := (HTW.out t ht).up (Nat.le_refl _) HB1.out.size (fun k hk hk' => HB1.out.block k hk')
        exact h1.up (by omega) (by rw [putL_size]; omega) (fun k hk _ => putL_block (by omega) _ _ _)
end Go.Proofs.YtdgbenadoaecoaaGreatDoor
