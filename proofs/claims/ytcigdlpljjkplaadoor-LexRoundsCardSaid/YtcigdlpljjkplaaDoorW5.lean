/- The contracts of strings.Builder's methods at a builder of the call's own, also as the one field of a struct (print.writer). Conditions: what is held and what is written together take at most 2^47 bytes. -/
import Derived.Test.YtcigdlpljjkplaaDoorApp
import Derived.Test.YtcigdlpljjkplaaDoorProg
import Derived.Lib.OthersKept
import Derived.Lib.FrozenHead2
import Derived.Lib.AppendIntMem
import Derived.Lib.UnsafeStr
import Derived.Laws.Externs
namespace Go.Proofs.YtcigdlpljjkplaaDoor
open Go.RowKit

/-- A builder in block b, of type T (two cells), that holds the bytes l. -/
def Wr (T b : Nat) (l : List UInt8) (w : World) : Prop :=
  ∃ p v, (p = .pointer none ∨ p = .pointer (some ⟨b, 0, none⟩)) ∧ w.heap[b]? = some (.cells #[p, v] T (0, 0)) ∧ w.ownsRowF b 5 1 v l.length (Lib.byteCells l) ∧ v.ownBlock ≠ some b ∧ (l = [] → v = .slice none 0 0)
/-- What a writer leaves: below its block nothing has turned; of the rest nothing but rows of bytes and its own block. -/
def NB (b c : Nat) (w : World) : Prop := ∀ p v T fz, w.heap[b]? = some (.cells #[p, v] T fz) → v.ownBlock ≠ some c
structure Kp (b : Nat) (w w' : World) : Prop where
  below : Below b w w'
  others : Lib.OthersKept 5 (some b) w w'
  kept : ∀ c, c < w.heap.size → c ≠ b → NB b c w → w'.heap[c]? = w.heap[c]? ∧ NB b c w'
theorem Kp.refl (b : Nat) (w : World) : Kp b w w := ⟨Below.refl _ _, Lib.OthersKept.refl _ _ _, fun _ _ _ h => ⟨rfl, h⟩⟩
theorem Kp.trans {b : Nat} {a c d : World} (h : Kp b a c) (k : Kp b c d) : Kp b a d :=
  ⟨h.below.trans k.below, h.others.trans k.others, fun x hx hb hn => by
    obtain ⟨h1, h2⟩ := h.kept x hx hb hn
    obtain ⟨k1, k2⟩ := k.kept x (Nat.lt_of_lt_of_le hx h.below.size) hb h2
    exact ⟨k1.trans h1, k2⟩⟩
/-- A builder's two stores and its append, in one: what is kept. -/
theorem kept_of {b : Nat} {T : TypeId} {p p' v v' : Value} {w w' : World} (hb : w.heap[b]? = some (.cells #[p, v] T (0, 0))) (hb' : w'.heap[b]? = some (.cells #[p', v'] T (0, 0)))
    (hblk : ∀ c, c < w.heap.size → c ≠ b → v.ownBlock ≠ some c → w'.heap[c]? = w.heap[c]?) (hat : ∀ g, v'.ownBlock = some g → v.ownBlock = some g ∨ w.heap.size ≤ g) :
    ∀ c, c < w.heap.size → c ≠ b → NB b c w → w'.heap[c]? = w.heap[c]? ∧ NB b c w' := by
  intro c hc hcb hn
  have h1 := hn _ _ _ _ hb
  refine ⟨hblk c hc hcb h1, ?_⟩
  intro q u T2 fz hq
  rw [hb'] at hq
  simp at hq
  obtain ⟨⟨rfl, rfl⟩, _⟩ := hq
  intro hg
  rcases hat c hg with h | h
  · exact h1 h
  · omega
theorem Wr.lt {T b : Nat} {l : List UInt8} {w : World} (h : Wr T b l w) : b < w.heap.size := by
  obtain ⟨p, v, _, hb, _⟩ := h
  exact (Array.getElem?_eq_some_iff.1 hb).1
/-- What a writer's call leaves as it was: each cell of a block that is not its own and holds no bytes. -/
theorem Kp.cell {b : Nat} {w w' : World} (h : Kp b w w') {k : Nat} {c : Array Value} {t : TypeId} {fz : Nat × Nat} (hk : w.heap[k]? = some (.cells c t fz)) (hb : k ≠ b) (ht : t ≠ 5) : w'.heap[k]? = some (.cells c t fz) :=
  h.others k _ hk (fun e => hb (Option.some.inj e)) (fun c' fz' e => ht (by injection e))

/-- The two types of such a builder. -/
structure Wt (T : Nat) : Prop where
  lies : liesAt Tryd.prog Tryd.prog.depth T (2 / Tryd.prog.cellsOf T) 0 56 1 = true
  ne : T ≠ 5
theorem wtB : Wt 56 := ⟨by kernel_rfl, by decide⟩
theorem sizeB : (Tryd.prog.info? 56).map (·.size) = some 2 := by kernel_rfl
theorem infoByte : (Tryd.prog.info? 5).map (fun i => (i.zero, i.size, i.bytes)) = some (some (.int .u8 0), 1, 1) := by kernel_rfl

set_option maxRecDepth 100000 in
theorem bCheck_fresh {T : Nat} (hT : Wt T) (b : Nat) (w : World) (h0 : w.cell? ⟨b, 0, none⟩ = some (.pointer none)) (hsh : w.shape? b = some (T, 2)) (hfz : w.frozen? ⟨b, 0, none⟩ = false) :
    Calls Tryd.prog 61 #[.pointer (some ⟨b, 0, none⟩)] w fun e w' => e = .returned (.tuple #[]) ∧ w' = w.setCell ⟨b, 0, none⟩ (.pointer (some ⟨b, 0, none⟩)) := by
  obtain ⟨j, hj, hjs⟩ := Option.map_eq_some_iff.1 sizeB
  have hl := Lib.hid hT.lies
  have HJ := Lib.hid hjs; clear hjs
  go_enter Tryd.func61, Tryd.ntmps61
  go_wp2
  rw [Lib.run_to_unsafe w ⟨b, 0, none⟩ Tryd.underlying53 Tryd.underlying92 hj (by rw [HJ.out]; decide) hsh (Nat.zero_lt_succ 1)]
  simp only [Result.andThen]
  rw [Oper.upon_value]
  go_wp2
  rw [run_callFunc_extern Tryd.func73 (by kernel_rfl) (by kernel_rfl) (by kernel_rfl) (e := Extern.AbiNoEscape.same) (by kernel_rfl)]
  rw [Lib.run_noEscape]
  simp only [Result.andThen]
  rw [Oper.upon_value]
  go_wp2
  rw [Lib.run_from_unsafe w ⟨b, 0, none⟩ Tryd.underlying92 Tryd.underlying53 hj hsh hl.out]
  simp only [Result.andThen]
  rw [Oper.upon_value]
  go_wp2
  go_end0
  exact ⟨rfl, rfl⟩
set_option maxRecDepth 100000 in
theorem bCheck_used (b : Nat) (w : World) (h0 : w.cell? ⟨b, 0, none⟩ = some (.pointer (some ⟨b, 0, none⟩))) :
    Calls Tryd.prog 61 #[.pointer (some ⟨b, 0, none⟩)] w fun e w' => e = .returned (.tuple #[]) ∧ w = w' := by
  obtain ⟨j, hj, hjs⟩ := Option.map_eq_some_iff.1 sizeB
  go_enter Tryd.func61, Tryd.ntmps61
  go_wp2
  rw [Lib.run_neq_ptr_same w ⟨b, 0, none⟩ Tryd.underlying53 hj]
  simp only [Result.andThen]
  rw [Oper.upon_value]
  go_wp2
  go_end0
  exact ⟨rfl, rfl⟩
/-- copyCheck at whatever state: the builder has its own address then. -/
theorem bCheck {T : Nat} (hT : Wt T) (b : Nat) (l : List UInt8) (w : World) (h : Wr T b l w) :
    Calls Tryd.prog 61 #[.pointer (some ⟨b, 0, none⟩)] w fun e w' => e = .returned (.tuple #[]) ∧
      (∃ v, w'.heap[b]? = some (.cells #[.pointer (some ⟨b, 0, none⟩), v] T (0, 0)) ∧ w'.ownsRowF b 5 1 v l.length (Lib.byteCells l) ∧ v.ownBlock ≠ some b ∧ (l = [] → v = .slice none 0 0)) ∧ Kp b w w' := by
  obtain ⟨p, v, hp, hb, hown, hne, hnil⟩ := h
  have hlt := (Array.getElem?_eq_some_iff.1 hb).1
  rcases hp with rfl | rfl
  · refine (bCheck_fresh hT b w (by simp [World.cell?, hb]) (by simp [World.shape?, hb]) (by simp [World.frozen?, hb])).mono ?_
    rintro e w' ⟨rfl, rfl⟩
    have hA : Lib.BuilderAtF T 5 b b (.pointer none) (Lib.byteCells l) w := ⟨Nat.le_refl _, v, hb, by rw [Lib.byteCells_length]; exact hown, hne⟩
    obtain ⟨_, v', hb', hown', hne'⟩ := hA.used (.pointer (some ⟨b, 0, none⟩))
    have hvv : v' = v := by
      have : (w.setCell ⟨b, 0, none⟩ (.pointer (some ⟨b, 0, none⟩))).heap[b]? = some (.cells #[.pointer (some ⟨b, 0, none⟩), v] T (0, 0)) := by
        simp [World.setCell, Array.getElem?_modify, hb]
      rw [this] at hb'
      simp at hb'
      exact hb'.symm
    subst hvv
    rw [Lib.byteCells_length] at hown'
    exact ⟨rfl, ⟨v', hb', hown', hne', hnil⟩, (Below.refl b w).setCell (p := ⟨b, 0, none⟩) (Nat.le_refl _) _, (Lib.OthersKept.refl _ _ w).setCell ⟨b, 0, none⟩ rfl _,
      kept_of hb hb' (fun c _ hcb _ => Below.heap_setCell _ _ _ _ hcb) (fun g hg => .inl hg)⟩
  · refine (bCheck_used b w (by simp [World.cell?, hb])).mono ?_
    rintro e w' ⟨rfl, rfl⟩
    exact ⟨rfl, ⟨v, hb, hown, hne, hnil⟩, Kp.refl _ _⟩

set_option maxHeartbeats 1000000 in
set_option maxRecDepth 100000 in
theorem bString {T : Nat} (hT : Wt T) (b : Nat) (l : List UInt8) (s : ByteArray) (w : World) (h : Wr T b l w) (hlen : l.length + s.size ≤ 140737488355328) :
    Calls Tryd.prog 41 #[.pointer (some ⟨b, 0, none⟩), .string s] w fun e w' => e = .returned (.tuple #[.int .i64 s.size, .nilIface]) ∧ Wr T b (l ++ bl s) w' ∧ Kp b w w' := by
  obtain ⟨i0, hi, hz0, hz1, hz2⟩ := info_parts infoByte
  have HT := Lib.hid hT; clear hT
  have hltw := h.lt
  go_enter Tryd.func41, Tryd.ntmps41
  go_wp2_with (go_at_call 61; refine (bCheck HT.out b l _ h).mono ?_)
  rintro e w1 ⟨rfl, ⟨v, hbk, hown, hne, hnil⟩, hk1⟩
  have HK := Lib.hid hk1; clear hk1
  have HN := Lib.hid hnil; clear hnil
  have hlt : b < w1.heap.size := (Array.getElem?_eq_some_iff.1 hbk).1
  have c0 : w1.cell? ⟨b, 0, none⟩ = some (.pointer (some ⟨b, 0, none⟩)) := by rw [Lib.cell_of_heap hbk]; rfl
  have c1 : w1.cell? ⟨b, 1, none⟩ = some v := by rw [Lib.cell_of_heap hbk]; rfl
  go_wp2_with (at_builtin; refine wpApp_str rfl _ _ 54 9 rfl b 5 i0 Tryd.underlying54 Tryd.underlying9 hi hz0 hz1 hz2 _ _ _ rfl hown s rfl ?c3 ?c4 ?c5 ?_)
  case c3 => unfold maxLen; omega
  case c4 => omega
  case c5 => omega
  intro v' w2 hown' hgrow hnn hat
  have HAT := Lib.hid hat; clear hat
  have HNN := Lib.hid hnn; clear hnn
  have hb2 : w2.heap[b]? = some (.cells #[.pointer (some ⟨b, 0, none⟩), v] T (0, 0)) := by
    rw [hgrow.block b hlt (fun e => hne e.symm)]
    exact hbk
  have HG := Lib.hid hgrow; clear hgrow
  have HO := Lib.hid hown; clear hown
  have d0 : w2.cell? ⟨b, 0, none⟩ = some (.pointer (some ⟨b, 0, none⟩)) := by rw [Lib.cell_of_heap hb2]; rfl
  have d1 : w2.cell? ⟨b, 1, none⟩ = some v := by rw [Lib.cell_of_heap hb2]; rfl
  have f1 : w2.frozen? ⟨b, 1, none⟩ = false := Lib.frozen_of_heap hb2 1
  have HNE := Lib.hid hne; clear hne
  obtain ⟨ao, n', cap, rfl⟩ : ∃ ao n' cap, v' = .slice ao n' cap := by
    rcases hown'.2 with ⟨hv, _⟩ | ⟨g, cap, cur, fz, hv, _⟩
    · exact ⟨_, _, _, hv⟩
    · exact ⟨_, _, _, hv⟩
  have HO' := Lib.hid hown'; clear hown'
  go_wp2
  go_ret2
  have hput := Lib.BuilderAtF.put (T := T) (e := 5) (B := b) (Nat.le_refl _) hb2 (bs' := Lib.byteCells (l ++ bl s)) (by
    rw [Lib.byteCells_length, List.length_append, size_bl, Lib.byteCells_append, ← Lib.strCells_eq]; exact HO'.out) HT.out.ne
  refine ⟨rfl, ?_, HK.out.trans ⟨?_, ?_, ?_⟩⟩
  · obtain ⟨_, v2, hv2, ho2, hn2⟩ := hput
    refine ⟨_, v2, .inr rfl, hv2, by rw [Lib.byteCells_length] at ho2; exact ho2, hn2, ?_⟩
    intro he
    have h3 : (w2.setCell ⟨b, 1, none⟩ (.slice ao n' cap)).heap[b]? = some (.cells #[.pointer (some ⟨b, 0, none⟩), .slice ao n' cap] T (0, 0)) := by
      simp [World.setCell, Array.getElem?_modify, hb2]
    rw [h3] at hv2
    simp at hv2
    rw [← hv2]
    obtain ⟨hl, hs⟩ := List.append_eq_nil_iff.1 he
    exact HNN.out.2 ⟨HN.out hl, by have := str_eta s; rw [hs] at this; exact this.symm⟩
  · exact ((Below.refl b w1).grown HG.out (by omega) (fun k hk => (HO.out.lt k hk).1)).setCell (p := ⟨b, 1, none⟩) (Nat.le_refl _) _
  · exact ((Lib.OthersKept.refl _ _ w1).grown HG.out (Lib.ownsRowF_kind HO.out)).setCell ⟨b, 1, none⟩ rfl _
  · refine kept_of hbk (show (w2.setCell ⟨b, 1, none⟩ (.slice ao n' cap)).heap[b]? = some (.cells #[.pointer (some ⟨b, 0, none⟩), .slice ao n' cap] T (0, 0)) by simp [World.setCell, Array.getElem?_modify, hb2]) ?_ HAT.out
    intro c hc hcb hn
    rw [Below.heap_setCell _ _ _ _ hcb, HG.out.block c hc (fun e => hn e.symm)]
end Go.Proofs.YtcigdlpljjkplaaDoor
