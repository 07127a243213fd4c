/- The contracts of the Builder, of quoting, of the tables. Conditions: each part says its own. -/
import Derived.Test.YtdgbenadoaecoaaDoorMA
import Derived.Test.YtdgbenadoaecoaaDoorProg
import Derived.Lib.OthersKept
import Derived.Lib.FrozenHead2
import Derived.Lib.AppendIntMem
import Derived.Lib.UnsafeStr
import Derived.Laws.Externs
import Derived.RegionTactic
import Derived.Lib.ItoaLen
import Derived.Laws.BytesArg
import Derived.Deep.RegionLaw
import Derived.WalkSmall
import Derived.Lib.LaidTab
import Derived.Lib.ItoaMem
/- The contracts of strings.Builder's methods at a builder of the call's own, also as the one field of a struct (print.writer). Conditions: what is held and what is written together take at most 2^47 bytes. -/
namespace Go.Proofs.YtdgbenadoaecoaaDoor
open Go.RowKit

/-- A builder in block b, of type T (two cells), that holds the bytes l. -/
def Wr (T b : Nat) (l : List UInt8) (w : World) : Prop :=
  ∃ p v, (p = .pointer none ∨ p = .pointer (some ⟨b, 0, none⟩)) ∧ w.heap[b]? = some (.cells #[p, v] T (0, 0)) ∧ w.ownsRowF b 5 1 v l.length (Lib.byteCells l) ∧ v.ownBlock ≠ some b ∧ (l = [] → v = .slice none 0 0)
/-- What a writer leaves: below its block nothing has turned; of the rest nothing but rows of bytes and its own block. -/
def NB (b c : Nat) (w : World) : Prop := ∀ p v T fz, w.heap[b]? = some (.cells #[p, v] T fz) → v.ownBlock ≠ some c
structure Kp (b : Nat) (w w' : World) : Prop where
  below : Below b w w'
  others : Lib.OthersKept 5 (some b) w w'
  kept : ∀ c, c < w.heap.size → c ≠ b → NB b c w → w'.heap[c]? = w.heap[c]? ∧ NB b c w'
theorem Kp.refl (b : Nat) (w : World) : Kp b w w := ⟨Below.refl _ _, Lib.OthersKept.refl _ _ _, fun _ _ _ h => ⟨rfl, h⟩⟩
theorem Kp.trans {b : Nat} {a c d : World} (h : Kp b a c) (k : Kp b c d) : Kp b a d :=
  ⟨h.below.trans k.below, h.others.trans k.others, fun x hx hb hn => by
    obtain ⟨h1, h2⟩ := h.kept x hx hb hn
    obtain ⟨k1, k2⟩ := k.kept x (Nat.lt_of_lt_of_le hx h.below.size) hb h2
    exact ⟨k1.trans h1, k2⟩⟩
/-- A builder's two stores and its append, in one: what is kept. -/
theorem kept_of {b : Nat} {T : TypeId} {p p' v v' : Value} {w w' : World} (hb : w.heap[b]? = some (.cells #[p, v] T (0, 0))) (hb' : w'.heap[b]? = some (.cells #[p', v'] T (0, 0)))
    (hblk : ∀ c, c < w.heap.size → c ≠ b → v.ownBlock ≠ some c → w'.heap[c]? = w.heap[c]?) (hat : ∀ g, v'.ownBlock = some g → v.ownBlock = some g ∨ w.heap.size ≤ g) :
    ∀ c, c < w.heap.size → c ≠ b → NB b c w → w'.heap[c]? = w.heap[c]? ∧ NB b c w' := by
  intro c hc hcb hn
  have h1 := hn _ _ _ _ hb
  refine ⟨hblk c hc hcb h1, ?_⟩
  intro q u T2 fz hq
  rw [hb'] at hq
  simp at hq
  obtain ⟨⟨rfl, rfl⟩, _⟩ := hq
  intro hg
  rcases hat c hg with h | h
  · exact h1 h
  · omega
theorem Wr.lt {T b : Nat} {l : List UInt8} {w : World} (h : Wr T b l w) : b < w.heap.size := by
  obtain ⟨p, v, _, hb, _⟩ := h
  exact (Array.getElem?_eq_some_iff.1 hb).1
/-- What a writer's call leaves as it was: each cell of a block that is not its own and holds no bytes. -/
theorem Kp.cell {b : Nat} {w w' : World} (h : Kp b w w') {k : Nat} {c : Array Value} {t : TypeId} {fz : Nat × Nat} (hk : w.heap[k]? = some (.cells c t fz)) (hb : k ≠ b) (ht : t ≠ 5) : w'.heap[k]? = some (.cells c t fz) :=
  h.others k _ hk (fun e => hb (Option.some.inj e)) (fun c' fz' e => ht (by injection e))

/-- The two types of such a builder. -/
structure Wt (T : Nat) : Prop where
  lies : liesAt Tryd.prog Tryd.prog.depth T (2 / Tryd.prog.cellsOf T) 0 66 1 = true
  ne : T ≠ 5
theorem wtB : Wt 66 := ⟨by kernel_rfl, by decide⟩
theorem wtW : Wt 68 := ⟨by kernel_rfl, by decide⟩
theorem sizeB : (Tryd.prog.info? 66).map (·.size) = some 2 := by kernel_rfl
theorem infoByte : (Tryd.prog.info? 5).map (fun i => (i.zero, i.size, i.bytes)) = some (some (.int .u8 0), 1, 1) := by kernel_rfl

set_option maxRecDepth 100000 in
theorem bCheck_fresh {T : Nat} (hT : Wt T) (b : Nat) (w : World) (h0 : w.cell? ⟨b, 0, none⟩ = some (.pointer none)) (hsh : w.shape? b = some (T, 2)) (hfz : w.frozen? ⟨b, 0, none⟩ = false) :
    Calls Tryd.prog 63 #[.pointer (some ⟨b, 0, none⟩)] w fun e w' => e = .returned (.tuple #[]) ∧ w' = w.setCell ⟨b, 0, none⟩ (.pointer (some ⟨b, 0, none⟩)) := by
  obtain ⟨j, hj, hjs⟩ := Option.map_eq_some_iff.1 sizeB
  have hl := Lib.hid hT.lies
  have HJ := Lib.hid hjs; clear hjs
  go_enter Tryd.func63, Tryd.ntmps63
  go_wp2
  rw [Lib.run_to_unsafe w ⟨b, 0, none⟩ Tryd.underlying63 Tryd.underlying144 hj (by rw [HJ.out]; decide) hsh (Nat.zero_lt_succ 1)]
  simp only [Result.andThen]
  rw [Oper.upon_value]
  go_wp2
  rw [run_callFunc_extern Tryd.func79 (by kernel_rfl) (by kernel_rfl) (by kernel_rfl) (e := Extern.AbiNoEscape.same) (by kernel_rfl)]
  rw [Lib.run_noEscape]
  simp only [Result.andThen]
  rw [Oper.upon_value]
  go_wp2
  rw [Lib.run_from_unsafe w ⟨b, 0, none⟩ Tryd.underlying144 Tryd.underlying63 hj hsh hl.out]
  simp only [Result.andThen]
  rw [Oper.upon_value]
  go_wp2
  go_end0
  exact ⟨rfl, rfl⟩
set_option maxRecDepth 100000 in
theorem bCheck_used (b : Nat) (w : World) (h0 : w.cell? ⟨b, 0, none⟩ = some (.pointer (some ⟨b, 0, none⟩))) :
    Calls Tryd.prog 63 #[.pointer (some ⟨b, 0, none⟩)] w fun e w' => e = .returned (.tuple #[]) ∧ w = w' := by
  obtain ⟨j, hj, hjs⟩ := Option.map_eq_some_iff.1 sizeB
  go_enter Tryd.func63, Tryd.ntmps63
  go_wp2
  rw [Lib.run_neq_ptr_same w ⟨b, 0, none⟩ Tryd.underlying63 hj]
  simp only [Result.andThen]
  rw [Oper.upon_value]
  go_wp2
  go_end0
  exact ⟨rfl, rfl⟩
/-- copyCheck at whatever state: the builder has its own address then. -/
theorem bCheck {T : Nat} (hT : Wt T) (b : Nat) (l : List UInt8) (w : World) (h : Wr T b l w) :
    Calls Tryd.prog 63 #[.pointer (some ⟨b, 0, none⟩)] w fun e w' => e = .returned (.tuple #[]) ∧
      (∃ v, w'.heap[b]? = some (.cells #[.pointer (some ⟨b, 0, none⟩), v] T (0, 0)) ∧ w'.ownsRowF b 5 1 v l.length (Lib.byteCells l) ∧ v.ownBlock ≠ some b ∧ (l = [] → v = .slice none 0 0)) ∧ Kp b w w' := by
  obtain ⟨p, v, hp, hb, hown, hne, hnil⟩ := h
  have hlt := (Array.getElem?_eq_some_iff.1 hb).1
  rcases hp with rfl | rfl
  · refine (bCheck_fresh hT b w (by simp [World.cell?, hb]) (by simp [World.shape?, hb]) (by simp [World.frozen?, hb])).mono ?_
    rintro e w' ⟨rfl, rfl⟩
    have hA : Lib.BuilderAtF T 5 b b (.pointer none) (Lib.byteCells l) w := ⟨Nat.le_refl _, v, hb, by rw [Lib.byteCells_length]; exact hown, hne⟩
    obtain ⟨_, v', hb', hown', hne'⟩ := hA.used (.pointer (some ⟨b, 0, none⟩))
    have hvv : v' = v := by
      have : (w.setCell ⟨b, 0, none⟩ (.pointer (some ⟨b, 0, none⟩))).heap[b]? = some (.cells #[.pointer (some ⟨b, 0, none⟩), v] T (0, 0)) := by
        simp [World.setCell, Array.getElem?_modify, hb]
      rw [this] at hb'
      simp at hb'
      exact hb'.symm
    subst hvv
    rw [Lib.byteCells_length] at hown'
    exact ⟨rfl, ⟨v', hb', hown', hne', hnil⟩, (Below.refl b w).setCell (p := ⟨b, 0, none⟩) (Nat.le_refl _) _, (Lib.OthersKept.refl _ _ w).setCell ⟨b, 0, none⟩ rfl _,
      kept_of hb hb' (fun c _ hcb _ => Below.heap_setCell _ _ _ _ hcb) (fun g hg => .inl hg)⟩
  · refine (bCheck_used b w (by simp [World.cell?, hb])).mono ?_
    rintro e w' ⟨rfl, rfl⟩
    exact ⟨rfl, ⟨v, hb, hown, hne, hnil⟩, Kp.refl _ _⟩

set_option maxHeartbeats 1000000 in
set_option maxRecDepth 100000 in
theorem bString {T : Nat} (hT : Wt T) (b : Nat) (l : List UInt8) (s : ByteArray) (w : World) (h : Wr T b l w) (hlen : l.length + s.size ≤ 140737488355328) :
    Calls Tryd.prog 42 #[.pointer (some ⟨b, 0, none⟩), .string s] w fun e w' => e = .returned (.tuple #[.int .i64 s.size, .nilIface]) ∧ Wr T b (l ++ bl s) w' ∧ Kp b w w' := by
  obtain ⟨i0, hi, hz0, hz1, hz2⟩ := info_parts infoByte
  have HT := Lib.hid hT; clear hT
  have hltw := h.lt
  go_enter Tryd.func42, Tryd.ntmps42
  go_wp2_with (go_at_call 63; refine (bCheck HT.out b l _ h).mono ?_)
  rintro e w1 ⟨rfl, ⟨v, hbk, hown, hne, hnil⟩, hk1⟩
  have HK := Lib.hid hk1; clear hk1
  have HN := Lib.hid hnil; clear hnil
  have hlt : b < w1.heap.size := (Array.getElem?_eq_some_iff.1 hbk).1
  have c0 : w1.cell? ⟨b, 0, none⟩ = some (.pointer (some ⟨b, 0, none⟩)) := by rw [Lib.cell_of_heap hbk]; rfl
  have c1 : w1.cell? ⟨b, 1, none⟩ = some v := by rw [Lib.cell_of_heap hbk]; rfl
  go_wp2_with (at_builtin; refine wpApp_str rfl _ _ 64 9 rfl b 5 i0 Tryd.underlying64 Tryd.underlying9 hi hz0 hz1 hz2 _ _ _ rfl hown s rfl ?c3 ?c4 ?c5 ?_)
  case c3 => unfold maxLen; omega
  case c4 => omega
  case c5 => omega
  intro v' w2 hown' hgrow hnn hat
  have HAT := Lib.hid hat; clear hat
  have HNN := Lib.hid hnn; clear hnn
  have hb2 : w2.heap[b]? = some (.cells #[.pointer (some ⟨b, 0, none⟩), v] T (0, 0)) := by
    rw [hgrow.block b hlt (fun e => hne e.symm)]
    exact hbk
  have HG := Lib.hid hgrow; clear hgrow
  have HO := Lib.hid hown; clear hown
  have d0 : w2.cell? ⟨b, 0, none⟩ = some (.pointer (some ⟨b, 0, none⟩)) := by rw [Lib.cell_of_heap hb2]; rfl
  have d1 : w2.cell? ⟨b, 1, none⟩ = some v := by rw [Lib.cell_of_heap hb2]; rfl
  have f1 : w2.frozen? ⟨b, 1, none⟩ = false := Lib.frozen_of_heap hb2 1
  have HNE := Lib.hid hne; clear hne
  obtain ⟨ao, n', cap, rfl⟩ : ∃ ao n' cap, v' = .slice ao n' cap := by
    rcases hown'.2 with ⟨hv, _⟩ | ⟨g, cap, cur, fz, hv, _⟩
    · exact ⟨_, _, _, hv⟩
    · exact ⟨_, _, _, hv⟩
  have HO' := Lib.hid hown'; clear hown'
  go_wp2
  go_ret2
  have hput := Lib.BuilderAtF.put (T := T) (e := 5) (B := b) (Nat.le_refl _) hb2 (bs' := Lib.byteCells (l ++ bl s)) (by
    rw [Lib.byteCells_length, List.length_append, size_bl, Lib.byteCells_append, ← Lib.strCells_eq]; exact HO'.out) HT.out.ne
  refine ⟨rfl, ?_, HK.out.trans ⟨?_, ?_, ?_⟩⟩
  · obtain ⟨_, v2, hv2, ho2, hn2⟩ := hput
    refine ⟨_, v2, .inr rfl, hv2, by rw [Lib.byteCells_length] at ho2; exact ho2, hn2, ?_⟩
    intro he
    have h3 : (w2.setCell ⟨b, 1, none⟩ (.slice ao n' cap)).heap[b]? = some (.cells #[.pointer (some ⟨b, 0, none⟩), .slice ao n' cap] T (0, 0)) := by
      simp [World.setCell, Array.getElem?_modify, hb2]
    rw [h3] at hv2
    simp at hv2
    rw [← hv2]
    obtain ⟨hl, hs⟩ := List.append_eq_nil_iff.1 he
    exact HNN.out.2 ⟨HN.out hl, by have := str_eta s; rw [hs] at this; exact this.symm⟩
  · exact ((Below.refl b w1).grown HG.out (by omega) (fun k hk => (HO.out.lt k hk).1)).setCell (p := ⟨b, 1, none⟩) (Nat.le_refl _) _
  · exact ((Lib.OthersKept.refl _ _ w1).grown HG.out (Lib.ownsRowF_kind HO.out)).setCell ⟨b, 1, none⟩ rfl _
  · refine kept_of hbk (show (w2.setCell ⟨b, 1, none⟩ (.slice ao n' cap)).heap[b]? = some (.cells #[.pointer (some ⟨b, 0, none⟩), .slice ao n' cap] T (0, 0)) by simp [World.setCell, Array.getElem?_modify, hb2]) ?_ HAT.out
    intro c hc hcb hn
    rw [Below.heap_setCell _ _ _ _ hcb, HG.out.block c hc (fun e => hn e.symm)]
end Go.Proofs.YtdgbenadoaecoaaDoor

/- The contracts of strings.Builder's methods, more: a byte written, the text asked for. Conditions: what is held and what is written together take at most 2^47 bytes. -/
namespace Go.Proofs.YtdgbenadoaecoaaDoor
open Go.RowKit

set_option maxHeartbeats 1000000 in
set_option maxRecDepth 100000 in
theorem bByte {T : Nat} (hT : Wt T) (b : Nat) (l : List UInt8) (c : UInt8) (w : World) (h : Wr T b l w) (hlen : l.length + 1 ≤ 140737488355328) :
    Calls Tryd.prog 82 #[.pointer (some ⟨b, 0, none⟩), .int .u8 c.toNat] w fun e w' => e = .returned .nilIface ∧ Wr T b (l ++ [c]) w' ∧ Kp b w w' := by
  obtain ⟨i0, hi, hz0, hz1, hz2⟩ := info_parts infoByte
  have HT := Lib.hid hT; clear hT
  have hltw := h.lt
  go_enter Tryd.func82, Tryd.ntmps82
  go_wp2_with (go_at_call 63; refine (bCheck HT.out b l _ h).mono ?_)
  rintro e w1 ⟨rfl, ⟨v, hbk, hown, hne, hnil⟩, hk1⟩
  have HK := Lib.hid hk1; clear hk1
  have HN := Lib.hid hnil; clear hnil
  have hlt : b < w1.heap.size := (Array.getElem?_eq_some_iff.1 hbk).1
  have c0 : w1.cell? ⟨b, 0, none⟩ = some (.pointer (some ⟨b, 0, none⟩)) := by rw [Lib.cell_of_heap hbk]; rfl
  have c1 : w1.cell? ⟨b, 1, none⟩ = some v := by rw [Lib.cell_of_heap hbk]; rfl
  go_wp2_with (at_builtin; refine wpApp_row rfl _ _ 64 rfl b 5 i0 (.int .u8 0) 1 1 Tryd.underlying64 hi hz0 hz1 hz2 rfl (by decide) _ _ _ rfl (hown.alloc _) ⟨w1.heap.size, 0, none⟩ 1 1 [.int .u8 c.toNat] rfl rfl ?c1 ?c2 ?c3 ?c4 ?c5 ?_)
  case c1 =>
    intro j u hj
    match j, hj with
    | 0, hj => simp at hj; subst hj; simp [Addr.add]
  case c2 => intro u hu; simp at hu; subst hu; rfl
  case c3 => unfold maxLen; omega
  case c4 => omega
  case c5 => simp; omega
  intro v' w2 hown' hgrow _ hat
  have HAT := Lib.hid hat; clear hat
  have hb2 : w2.heap[b]? = some (.cells #[.pointer (some ⟨b, 0, none⟩), v] T (0, 0)) := by
    rw [hgrow.block b (by simp; omega) (fun e => hne e.symm), Lib.alloc_old w1 _ b hlt]
    exact hbk
  have HG := Lib.hid hgrow; clear hgrow
  have HO := Lib.hid hown; clear hown
  have d0 : w2.cell? ⟨b, 0, none⟩ = some (.pointer (some ⟨b, 0, none⟩)) := by rw [Lib.cell_of_heap hb2]; rfl
  have d1 : w2.cell? ⟨b, 1, none⟩ = some v := by rw [Lib.cell_of_heap hb2]; rfl
  have f1 : w2.frozen? ⟨b, 1, none⟩ = false := Lib.frozen_of_heap hb2 1
  have HNE := Lib.hid hne; clear hne
  obtain ⟨ao, n', cap, rfl⟩ : ∃ ao n' cap, v' = .slice ao n' cap := by
    rcases hown'.2 with ⟨hv, _⟩ | ⟨g, cap, cur, fz, hv, _⟩
    · exact ⟨_, _, _, hv⟩
    · exact ⟨_, _, _, hv⟩
  have HO' := Lib.hid hown'; clear hown'
  go_wp2
  go_ret
  have hput := Lib.BuilderAtF.put (T := T) (e := 5) (B := b) (Nat.le_refl _) hb2 (bs' := Lib.byteCells (l ++ [c])) (by
    rw [Lib.byteCells_length, List.length_append, Lib.byteCells_append]; exact HO'.out) HT.out.ne
  refine ⟨rfl, ?_, HK.out.trans ⟨?_, ?_, ?_⟩⟩
  · obtain ⟨_, v2, hv2, ho2, hn2⟩ := hput
    exact ⟨_, v2, .inr rfl, hv2, by rw [Lib.byteCells_length] at ho2; exact ho2, hn2, fun he => by simp at he⟩
  · exact ((((Below.refl b w1).alloc (by omega) _).grown HG.out (by simp; omega) (fun k hk => (HO.out.lt k hk).1))).setCell (p := ⟨b, 1, none⟩) (Nat.le_refl _) _
  · exact ((((Lib.OthersKept.refl _ _ w1).alloc _).grown HG.out (Lib.ownsRowF_kind (HO.out.alloc _)))).setCell ⟨b, 1, none⟩ rfl _
  · refine kept_of hbk (show (w2.setCell ⟨b, 1, none⟩ (.slice ao n' cap)).heap[b]? = some (.cells #[.pointer (some ⟨b, 0, none⟩), .slice ao n' cap] T (0, 0)) by simp [World.setCell, Array.getElem?_modify, hb2]) ?_ ?_
    · intro c hc hcb hn
      rw [Below.heap_setCell _ _ _ _ hcb, HG.out.block c (by simp; omega) (fun e => hn e.symm), Lib.alloc_old w1 _ c hc]
    · intro g hg
      rcases HAT.out g hg with h | h
      · exact .inl h
      · exact .inr (by omega)

theorem freeze_other (w : World) (a : Addr) (n k : Nat) (h : k ≠ a.block) : (w.freeze a n).heap[k]? = w.heap[k]? := by
  unfold World.freeze
  split
  · rfl
  · simp only [Array.getElem?_modify]
    rw [if_neg (by omega)]
theorem froze_kept {b g n T : Nat} {p : Value} {l cap : Nat} {w : World} (hb : w.heap[b]? = some (.cells #[p, .slice (some ⟨g, 0, none⟩) l cap] T (0, 0))) (hgb : g ≠ b) {c : Nat} (hn : NB b c w) :
    (w.drew.freeze ⟨g, 0, none⟩ n).heap[c]? = w.heap[c]? ∧ NB b c (w.drew.freeze ⟨g, 0, none⟩ n) := by
  have hcg : c ≠ g := fun e => hn _ _ _ _ hb (by simp [Value.ownBlock, e])
  refine ⟨freeze_other _ _ _ _ hcg, ?_⟩
  intro q u T2 fz2 hq
  rw [freeze_other _ _ _ _ (fun e => hgb e.symm)] at hq
  exact hn _ _ _ _ hq
theorem cellsByte : Tryd.prog.cellsOf 5 = 1 := by kernel_rfl
set_option maxHeartbeats 1000000 in
set_option maxRecDepth 100000 in
theorem bText {T : Nat} (b : Nat) (l : List UInt8) (w : World) (h : Wr T b l w) :
    Calls Tryd.prog 21 #[.pointer (some ⟨b, 0, none⟩)] w fun e w' => e = .returned (.string ⟨l.toArray⟩) ∧ Kp b w w' := by
  obtain ⟨p, v, hp, hbk, hown, hne, hnil⟩ := h
  match l, hown, hnil with
  | [], _, hnil =>
    obtain rfl := hnil rfl
    have c1 : w.drew.cell? ⟨b, 1, none⟩ = some (.slice none 0 0) := by
      have : w.drew.heap[b]? = some (.cells #[p, .slice none 0 0] T (0, 0)) := hbk
      rw [Lib.cell_of_heap this]; rfl
    have hSD : (Builtin.unsafeSliceData_ #[64] 105 #[.slice none 0 0]).run Tryd.prog w.drew = .ok (.pointer none) w.drew := rfl
    have hUS : ∀ w : World, (Builtin.unsafeString_ #[105, 3] 9 #[.pointer none, .int .i64 0]).run Tryd.prog w = .ok (.string .empty) w := fun w => Lib.run_unsafeString_none w _ _ _ _
    clear hp hne hnil
    go_enter Tryd.func21, Tryd.ntmps21
    go_wp2
    go_region
    all_goals (go_wp2; go_ret; exact ⟨rfl, (Below.refl b w).drew, (Lib.OthersKept.refl _ _ w).drew, fun _ _ _ h => ⟨rfl, h⟩⟩)
  | x :: r, hown, _ =>
    have hl0 : (x :: r).length ≠ 0 := by simp
    revert hown hl0
    generalize hL : x :: r = L
    intro hown hl0
    clear hL
    obtain ⟨g, cap, cur, fz, rfl, hbg, hg, hfz, hnc, hcm, hcs, htake⟩ : ∃ g cap cur fz, v = .slice (some ⟨g, 0, none⟩) L.length cap ∧ b ≤ g ∧ w.heap[g]? = some (.cells cur 5 fz) ∧ fz.2 ≤ L.length * 1 ∧ L.length ≤ cap ∧ cap ≤ maxLen ∧ cur.size = cap * 1 ∧ cur.toList.take (L.length * 1) = Lib.byteCells L := by
      rcases hown.2 with ⟨_, hz⟩ | ⟨g, cap, cur, fz, hv, r⟩
      · exact absurd hz hl0
      · exact ⟨g, cap, cur, fz, hv, r⟩
    have c1 : w.drew.cell? ⟨b, 1, none⟩ = some (.slice (some ⟨g, 0, none⟩) L.length cap) := by
      have : w.drew.heap[b]? = some (.cells #[p, .slice (some ⟨g, 0, none⟩) L.length cap] T (0, 0)) := hbk
      rw [Lib.cell_of_heap this]; rfl
    have hSD : (Builtin.unsafeSliceData_ #[64] 105 #[.slice (some ⟨g, 0, none⟩) L.length cap]).run Tryd.prog w.drew = .ok (.pointer (some ⟨g, 0, none⟩)) w.drew :=
      Lib.run_unsafeSliceData_row _ _ _ _ _ _ (by omega)
    have hUS : (Builtin.unsafeString_ #[105, 3] 9 #[.pointer (some ⟨g, 0, none⟩), .int .i64 L.length]).run Tryd.prog w.drew = .ok (.string ⟨L.toArray⟩) (w.drew.freeze ⟨g, 0, none⟩ L.length) := by
      refine Lib.run_unsafeString_row w.drew 105 3 9 5 Tryd.underlying105 cellsByte g cur.size (by have hg' : w.drew.heap[g]? = some (.cells cur 5 fz) := hg; simp [World.shape?, hg']) L (by intro e; rw [e] at hl0; exact hl0 rfl) (by omega) (by unfold maxLen at hcm; omega) ?_
      intro j x hx
      exact hown.cells (g := g) rfl j (.int .u8 x.toNat) (by simp [Lib.byteCells, hx])
    have HG := Lib.hid hg; clear hg
    have HB := Lib.hid hbg; clear hbg
    have HBK := Lib.hid hbk; clear hbk
    have HNE := Lib.hid (show g ≠ b from fun e => hne (by simp [Value.ownBlock, e])); clear hne
    clear hp hnil hown hfz hnc hcm hcs htake
    go_enter Tryd.func21, Tryd.ntmps21
    go_wp2
    go_region
    all_goals (go_wp2; go_ret; exact ⟨rfl, Lib.below_freeze (Below.drew (Below.refl b w)) (p := ⟨g, 0, none⟩) HB.out _, ((Lib.OthersKept.refl _ _ w).drew).freeze ⟨g, 0, none⟩ _ ⟨cur, fz, HG.out⟩, fun c _ _ hn => froze_kept HBK.out HNE.out hn⟩)
end Go.Proofs.YtdgbenadoaecoaaDoor

/- Plain laws on a quoted text; no program in sight. Conditions: none. -/
namespace Go.Proofs.YtdgbenadoaecoaaDoor

theorem escL_append (a b : List UInt8) : escL (a ++ b) = escL a ++ escL b := by
  induction a with
  | nil => rfl
  | cons c r ih => simp [escL, ih]
theorem escB_le (c : UInt8) : (escB c).length ≤ 4 := by
  unfold escB
  repeat' split
  all_goals simp
theorem escL_le (l : List UInt8) : (escL l).length ≤ 4 * l.length := by
  induction l with
  | nil => simp [escL]
  | cons c r ih => have := escB_le c; simp [escL]; omega
theorem take_snoc (s : ByteArray) (k : Nat) (h : k < s.size) : (bl s).take (k + 1) = (bl s).take k ++ [s[k]] := by
  rw [List.take_succ_eq_append_getElem (by rw [size_bl]; exact h), get_bl s k h]
theorem esc_snoc (s : ByteArray) (k : Nat) (h : k < s.size) : escL ((bl s).take (k + 1)) = escL ((bl s).take k) ++ escB s[k] := by
  rw [take_snoc s k h, escL_append]; simp [escL]
theorem esc_len (s : ByteArray) (k : Nat) (h : k ≤ s.size) : (escL ((bl s).take k)).length ≤ 4 * k := by
  have := escL_le ((bl s).take k)
  rw [List.length_take, size_bl] at this
  omega
theorem take_all (s : ByteArray) : (bl s).take s.size = bl s := List.take_of_length_le (by rw [size_bl]; exact Nat.le_refl _)
theorem esc_10 {c : UInt8} (h : c.toNat = 10) : escB c = [92, 110] := by rw [escB, if_pos h]
theorem esc_q {c : UInt8} (h0 : ¬ c.toNat = 10) (h : c.toNat = 34 ∨ c.toNat = 92) : escB c = [92, c] := by rw [escB, if_neg h0, if_pos h]
theorem esc_p {c : UInt8} (h0 : ¬ c.toNat = 10) (_h1 : ¬ c.toNat = 34) (_h2 : ¬ c.toNat = 92) (h : 32 ≤ c.toNat ∧ c.toNat ≤ 126) : escB c = [c] := by
  rw [escB, if_neg h0, if_neg (by omega), if_pos h]
theorem esc_x {c : UInt8} (h0 : ¬ c.toNat = 10) (_h1 : ¬ c.toNat = 34) (_h2 : ¬ c.toNat = 92) (h : ¬ (32 ≤ c.toNat ∧ c.toNat ≤ 126)) : escB c = [92, 120, hexD (c.toNat / 16), hexD (c.toNat % 16)] := by
  rw [escB, if_neg h0, if_neg (by omega), if_neg h]
theorem hexLit (m : Nat) (h : m < (⟨#[48, 49, 50, 51, 52, 53, 54, 55, 56, 57, 97, 98, 99, 100, 101, 102]⟩ : ByteArray).size) :
    (⟨#[48, 49, 50, 51, 52, 53, 54, 55, 56, 57, 97, 98, 99, 100, 101, 102]⟩ : ByteArray)[m]'h = hexD m := by
  have h16 : m < 16 := h
  have H : ∀ m : Fin 16, (#[48, 49, 50, 51, 52, 53, 54, 55, 56, 57, 97, 98, 99, 100, 101, 102] : Array UInt8)[m.val]'(by simp) = hexD m.val := by decide
  exact H ⟨m, h16⟩
theorem quote_eq (l : List UInt8) : 34 :: escL l ++ [34] = quoteL l := rfl
end Go.Proofs.YtdgbenadoaecoaaDoor

/- The contract of value.quoted. Conditions: the text has at most 200 bytes. -/
namespace Go.Proofs.YtdgbenadoaecoaaDoor
open Go.RowKit

theorem wr_fresh (T : Nat) (w : World) : Wr T w.heap.size [] (w.alloc (.cells #[.pointer none, .slice none 0 0] T)) :=
  ⟨_, _, .inl rfl, heap_alloc_new w _, ⟨rfl, .inl ⟨rfl, rfl⟩⟩, by simp [Value.ownBlock], fun _ => rfl⟩
theorem bByteI {T : Nat} (hT : Wt T) (b : Nat) (l : List UInt8) (n : Int) (c : UInt8) (hn : n = (c.toNat : Int)) (w : World) (h : Wr T b l w) (hlen : l.length + 1 ≤ 140737488355328) :
    Calls Tryd.prog 82 #[.pointer (some ⟨b, 0, none⟩), .int .u8 n] w fun e w' => e = .returned .nilIface ∧ Wr T b (l ++ [c]) w' ∧ Kp b w w' := by
  rw [hn]; exact bByte hT b l c w h hlen
theorem nb_fresh {T b : Nat} {l : List UInt8} {w : World} (h : Wr T b l w) : NB b w.heap.size w := by
  intro p v T2 fz hq hg
  obtain ⟨p1, v1, _, hb, hown, _⟩ := h
  rw [hb] at hq
  simp at hq
  obtain ⟨⟨_, rfl⟩, _⟩ := hq
  have := (hown.lt _ hg).2
  omega
theorem wr_eq {T b : Nat} {l m : List UInt8} {w : World} (e : l = m) (h : Wr T b l w) : Wr T b m w := e ▸ h
theorem Wr.up {T b : Nat} {l : List UInt8} {w w' : World} (h : Wr T b l w) (hb : Below w.heap.size w w') : Wr T b l w' := by
  have hlt := h.lt
  obtain ⟨p, v, hp, hbk, hown, hne, hnil⟩ := h
  refine ⟨p, v, hp, (hb.block b hlt).trans hbk, ⟨hown.1, ?_⟩, hne, hnil⟩
  rcases hown.2 with h | ⟨g, cap, cur, fz, hv, hg, hh, r⟩
  · exact .inl h
  · exact .inr ⟨g, cap, cur, fz, hv, hg, (hb.block g (Array.getElem?_eq_some_iff.1 hh).1).trans hh, r⟩
theorem NB.up {b c : Nat} {w w' : World} (h : NB b c w) (hlt : b < w.heap.size) (hb : Below w.heap.size w w') : NB b c w' := by
  intro p v T fz hq
  rw [hb.block b hlt] at hq
  exact h p v T fz hq
/-- New memory alone. -/
theorem Kp.of_below {b : Nat} {w w' : World} (hlt : b < w.heap.size) (hb : Below w.heap.size w w') : Kp b w w' :=
  ⟨hb.mono (by omega), fun k o hk _ _ => (hb.block k (Array.getElem?_eq_some_iff.1 hk).1).trans hk, fun c hc _ hn => ⟨hb.block c hc, hn.up hlt hb⟩⟩
set_option maxHeartbeats 2000000 in
set_option maxRecDepth 100000 in
theorem vQuoted (s : ByteArray) (w : World) (hs : s.size ≤ 200) :
    Calls Tryd.prog 68 #[.string s] w fun e w' => e = .returned (.string ⟨(quoteL (bl s)).toArray⟩) ∧ Below w.heap.size w w' := by
  go_enter Tryd.func68, Tryd.ntmps68
  go_wp2_with fail
  refine (bByteI wtB w.heap.size [] 34 34 rfl _ (wr_fresh _ w) (by simp)).mono ?_
  rintro e w1 ⟨rfl, hw1, hk1⟩
  have HW := Lib.hid hw1; clear hw1
  have HK := Lib.hid hk1; clear hk1
  obtain ⟨cap, w2, hconv, hb, hz, hc⟩ := bytes_of (P := Tryd.prog) w1 9 64 5 s Tryd.underlying9 Tryd.underlying64 Tryd.underlying5
  have hlt1 := HW.out.lt
  have HW2 := Lib.hid (HW.out.up (hb.mono (Nat.le_refl _)))
  have HNB := Lib.hid ((nb_fresh HW.out).up hlt1 hb)
  have HK2 := Lib.hid (HK.out.trans (Kp.of_below hlt1 hb))
  have hz2 : w1.heap.size < w2.heap.size := by omega
  clear hb
  have Hz := Lib.hid hz; clear hz
  have Hc := Lib.hid hc; clear hc
  go_wp2_with fail
  clear hconv
  go_loopw [10] (fun i wr => ∃ k : Nat, k ≤ s.size ∧ i = .int .i64 k ∧ Wr 66 w.heap.size (34 :: escL ((bl s).take k)) wr ∧ Kp w.heap.size w2 wr) (fun i _ => s.size - (intOf i).toNat)
  case atStart => exact ⟨0, by omega, rfl, HW2.out, Kp.refl _ _⟩
  case round =>
    obtain ⟨k, hk, rfl, hw, hkp⟩ := hrel
    have hln := esc_len s k hk
    have Hw := Lib.hid hw; clear hw
    have Hk := Lib.hid hkp; clear hkp
    by_cases hlt : k < s.size
    · have hcell : wr.cell? ⟨w1.heap.size, k, none⟩ = some (.int .u8 s[k].toNat) :=
        (World.cell?_of_block (a := ⟨w1.heap.size, k, none⟩) ((Hk.out.kept w1.heap.size hz2 (by omega) HNB.out).1)).trans (Hc.out k hlt)
      have hes := Lib.hid (esc_snoc s k hlt)
      by_cases h10 : s[k].toNat = 10
      · have q10 : ((s[k].toNat : Int) == 10) = true := by simp [h10]
        have HE := Lib.hid (esc_10 h10)
        clear h10
        go_wp2_with fail
        refine (bString wtB w.heap.size _ ⟨#[92, 110]⟩ _ Hw.out (by simp [ByteArray.size]; omega)).mono ?_
        rintro e wa ⟨rfl, hwa, hka⟩
        have Hwa := Lib.hid hwa; clear hwa
        have Hka := Lib.hid hka; clear hka
        go_wp2_with fail
        go_roundw
        case rel => exact ⟨k + 1, by omega, by go_num, by rw [hes.out, HE.out]; exact Hwa.out, Hk.out.trans Hka.out⟩
        case measure => simp [intOf]; omega
      · have q10 : ((s[k].toNat : Int) == 10) = false := by simp; omega
        by_cases hq : s[k].toNat = 34 ∨ s[k].toNat = 92
        · have HE := Lib.hid (esc_q h10 hq)
          rcases hq with h34 | h92
          · have q34 : ((s[k].toNat : Int) == 34) = true := by simp [h34]
            clear h34 h10
            go_wp2_with fail
            refine (bByteI wtB w.heap.size _ 92 92 rfl _ Hw.out (by simp; omega)).mono ?_
            rintro e wa ⟨rfl, hwa, hka⟩
            have Hwa := Lib.hid hwa; clear hwa
            have Hka := Lib.hid hka; clear hka
            go_wp2_with fail
            refine (bByteI wtB w.heap.size _ _ s[k] rfl _ Hwa.out (by simp; omega)).mono ?_
            rintro e wb ⟨rfl, hwb, hkb⟩
            have Hwb := Lib.hid hwb; clear hwb
            have Hkb := Lib.hid hkb; clear hkb
            go_wp2_with fail
            go_roundw
            case rel => exact ⟨k + 1, by omega, by go_num, by rw [hes.out, HE.out]; simpa using Hwb.out, (Hk.out.trans Hka.out).trans Hkb.out⟩
            case measure => simp [intOf]; omega
          · have q34 : ((s[k].toNat : Int) == 34) = false := by simp; omega
            have q92 : ((s[k].toNat : Int) == 92) = true := by simp [h92]
            clear h92 h10
            go_wp2_with fail
            refine (bByteI wtB w.heap.size _ 92 92 rfl _ Hw.out (by simp; omega)).mono ?_
            rintro e wa ⟨rfl, hwa, hka⟩
            have Hwa := Lib.hid hwa; clear hwa
            have Hka := Lib.hid hka; clear hka
            go_wp2_with fail
            refine (bByteI wtB w.heap.size _ _ s[k] rfl _ Hwa.out (by simp; omega)).mono ?_
            rintro e wb ⟨rfl, hwb, hkb⟩
            have Hwb := Lib.hid hwb; clear hwb
            have Hkb := Lib.hid hkb; clear hkb
            go_wp2_with fail
            go_roundw
            case rel => exact ⟨k + 1, by omega, by go_num, by rw [hes.out, HE.out]; simpa using Hwb.out, (Hk.out.trans Hka.out).trans Hkb.out⟩
            case measure => simp [intOf]; omega
        · have q34 : ((s[k].toNat : Int) == 34) = false := by simp; omega
          have q92 : ((s[k].toNat : Int) == 92) = false := by simp; omega
          by_cases hp : 32 ≤ s[k].toNat ∧ s[k].toNat ≤ 126
          · have q1 : decide ((s[k].toNat : Int) < 32) = false := decide_eq_false (by omega)
            have q2 : decide (126 < (s[k].toNat : Int)) = false := decide_eq_false (by omega)
            have HE := Lib.hid (esc_p h10 (fun e => hq (.inl e)) (fun e => hq (.inr e)) hp)
            clear hq hp
            go_wp2_with fail
            refine (bByteI wtB w.heap.size _ _ s[k] rfl _ Hw.out (by simp; omega)).mono ?_
            rintro e wb ⟨rfl, hwb, hkb⟩
            have Hwb := Lib.hid hwb; clear hwb
            have Hkb := Lib.hid hkb; clear hkb
            go_wp2_with fail
            go_roundw
            case rel => exact ⟨k + 1, by omega, by go_num, by rw [hes.out, HE.out]; exact Hwb.out, Hk.out.trans Hkb.out⟩
            case measure => simp [intOf]; omega
          · have HE := Lib.hid (esc_x h10 (fun e => hq (.inl e)) (fun e => hq (.inr e)) hp)
            clear hq
            have hcb := s[k].toNat_lt
            go_wp2_with fail
            all_goals
              refine (bString wtB w.heap.size _ ⟨#[92, 120]⟩ _ Hw.out (by simp [ByteArray.size]; omega)).mono ?_
              rintro e wa ⟨rfl, hwa, hka⟩
              have Hwa := Lib.hid hwa; clear hwa
              have Hka := Lib.hid hka; clear hka
              go_wp2_with fail
            all_goals
              refine (bByteI wtB w.heap.size _ _ (hexD (s[k].toNat / 16)) (by exact congrArg (fun c : UInt8 => (c.toNat : Int)) (hexLit _ _)) _ Hwa.out (by simp; omega)).mono ?_
              rintro e wb ⟨rfl, hwb, hkb⟩
              have Hwb := Lib.hid hwb; clear hwb
              have Hkb := Lib.hid hkb; clear hkb
              go_wp2_with fail
              refine (bByteI wtB w.heap.size _ _ (hexD (s[k].toNat % 16)) (by exact congrArg (fun c : UInt8 => (c.toNat : Int)) (hexLit _ _)) _ Hwb.out (by simp; omega)).mono ?_
              rintro e wc ⟨rfl, hwc, hkc⟩
              have Hwc := Lib.hid hwc; clear hwc
              have Hkc := Lib.hid hkc; clear hkc
              go_wp2_with fail
              go_roundw
              case rel => exact ⟨k + 1, by omega, by go_num, by rw [hes.out, HE.out]; exact wr_eq (by simp; rfl) Hwc.out, ((Hk.out.trans Hka.out).trans Hkb.out).trans Hkc.out⟩
              case measure => simp [intOf]; omega
    · obtain rfl : k = s.size := by omega
      have hta := Lib.hid (take_all s)
      go_wp2_with fail
      refine (bByteI wtB w.heap.size _ 34 34 rfl _ Hw.out (by simp; omega)).mono ?_
      rintro e wb ⟨rfl, hwb, hkb⟩
      have Hwb := Lib.hid hwb; clear hwb
      have Hkb := Lib.hid hkb; clear hkb
      go_wp2_with fail
      refine (bText w.heap.size _ _ Hwb.out).mono ?_
      rintro e wc ⟨rfl, hkc⟩
      have Hkc := Lib.hid hkc; clear hkc
      go_wp2_with fail
      go_ret
      refine ⟨ret_str (by rw [hta.out]; exact quote_eq _), ?_⟩
      exact ((Below.refl _ w).alloc (Nat.le_refl _) _).trans (((HK2.out.trans Hk.out).trans Hkb.out).trans Hkc.out).below
end Go.Proofs.YtdgbenadoaecoaaDoor

/- The contracts of the reference's digits. Conditions: the number is one that its type holds. -/
namespace Go.Proofs.YtdgbenadoaecoaaDoor
open Go.RowKit

theorem one_byte (w : World) (x : Int) : ∃ sc : ByteArray, bl sc = [UInt8.ofNat x.toNat] ∧ sc.size ≤ 1 ∧
    (convert 64 9 (.slice (some ⟨w.heap.size, 0, none⟩) 1 1)).run Tryd.prog (w.alloc (.cells #[.int .u8 x] 5)) = .ok (.string sc) (w.alloc (.cells #[.int .u8 x] 5)) := by
  have h := run_convert_bytes_arg (P := Tryd.prog) (w.alloc (.cells #[.int .u8 x] 5)) 64 5 Tryd.underlying64 Tryd.underlying5 w.heap.size 0 1 1 [x] rfl (fun i hi => by
    obtain rfl : i = 0 := by omega
    simp) 9 Tryd.underlying9
  exact ⟨_, rfl, Nat.le_refl _, h⟩
theorem dec_len (n : Nat) (hn : n < 18446744073709551616) : (Lib.decDigits n).length ≤ 20 := by
  rw [Lib.decDigits_length]; exact Lib.nDigits_le20 n hn
theorem dec_step {n m : Nat} {l : List UInt8} (h10 : 10 ≤ m) (hd : Lib.decDigits m ++ l = Lib.decDigits n) : Lib.decDigits (m / 10) ++ ([UInt8.ofNat (48 + (m : Int) % 10).toNat] ++ l) = Lib.decDigits n := by
  rw [← hd, Lib.decDigits.eq_1 m, dif_neg (by omega), show (48 + (m : Int) % 10).toNat = 48 + m % 10 by omega]; simp
theorem dec_last {n m : Nat} {l : List UInt8} (h10 : ¬ 10 ≤ m) (hd : Lib.decDigits m ++ l = Lib.decDigits n) : [UInt8.ofNat (48 + (m : Int)).toNat] ++ l = Lib.decDigits n := by
  rw [← hd, Lib.decDigits.eq_1 m, dif_pos (by omega), show (48 + (m : Int)).toNat = 48 + m by omega]
theorem bl_append (a b : ByteArray) : bl (a ++ b) = bl a ++ bl b := by
  show (a ++ b).data.toList = _
  rw [ByteArray.data_append, Array.toList_append]
theorem ret_bytes {a : ByteArray} {l : List UInt8} (h : bl a = l) : Ending.returned (.string a) = .returned (.string ⟨l.toArray⟩) := by
  rw [← h, str_eta]

theorem wrap_neg (n : Int) (h0 : -9223372036854775808 ≤ n) (h1 : n < 0) : IntKind.u64.wrap (-IntKind.u64.wrap n) = ((n.natAbs : Nat) : Int) := by
  simp only [IntKind.wrap_u64]; omega
theorem wrap_pos (n : Int) (h0 : 0 ≤ n) (h1 : n ≤ 9223372036854775807) : IntKind.u64.wrap n = ((n.toNat : Nat) : Int) := by
  simp only [IntKind.wrap_u64]; omega
theorem one_string (c : UInt8) (l : List UInt8) : bl (⟨#[c]⟩ ++ ⟨l.toArray⟩) = c :: l := by rw [bl_append]; rfl
end Go.Proofs.YtdgbenadoaecoaaDoor

/- The contract of the reference's Quoted. Conditions: the text has at most 200 bytes. -/
namespace Go.Proofs.YtdgbenadoaecoaaDoor
open Go.RowKit

/-- A slice of bytes that the call owns, turned into a string. -/
theorem own_string {B : Nat} {w : World} {v : Value} {l : List UInt8} (h : w.ownsRowF B 5 1 v l.length (Lib.byteCells l)) :
    (convert 64 9 v).run Tryd.prog w = .ok (.string ⟨l.toArray⟩) w := by
  rcases h.2 with ⟨rfl, h0⟩ | ⟨g, cap, cur, fz, rfl, hbg, hg, hfz, hnc, hcm, hcs, htake⟩
  · obtain rfl := List.eq_nil_of_length_eq_zero h0
    exact run_convert_bytes_nil (P := Tryd.prog) w 64 5 Tryd.underlying64 Tryd.underlying5 0 0 9 Tryd.underlying9
  · have h1 := run_convert_bytes_arg (P := Tryd.prog) w 64 5 Tryd.underlying64 Tryd.underlying5 g 0 l.length cap (l.map fun c => (c.toNat : Int)) (by simp) (fun i hi => by
      have h2 := h.cells (g := g) rfl i (.int .u8 (l[i]'hi).toNat) (by simp [Lib.byteCells, hi])
      have h3 : (⟨g, 0, none⟩ : Addr).add i = ⟨g, 0 + i, none⟩ := by unfold Addr.add; split <;> simp_all
      rw [h3] at h2
      rw [h2]
      simp [List.getD, hi]) 9 Tryd.underlying9
    rw [h1]
    have e1 : strOfNums (l.map fun c => (c.toNat : Int)) = ⟨l.toArray⟩ := by
      unfold strOfNums
      rw [List.map_map, show ((fun n : Int => UInt8.ofNat n.toNat) ∘ fun c : UInt8 => (c.toNat : Int)) = id from funext fun c => by simp, List.map_id]
    rw [e1]

/-- Cells of a new block. -/
theorem new_cells (w : World) (l : List Value) (t : TypeId) : ∀ j u, l[j]? = some u → (w.alloc (.cells l.toArray t)).cell? ((⟨w.heap.size, 0, none⟩ : Addr).add j) = some u := by
  intro j u hj
  have h3 : (⟨w.heap.size, 0, none⟩ : Addr).add j = ⟨w.heap.size, j, none⟩ := by unfold Addr.add; split <;> simp_all
  rw [h3, Lib.cell_of_heap (heap_alloc_new w _)]
  simpa using hj
theorem byteCells_one (l : List UInt8) : ∀ u ∈ Lib.byteCells l, u.oneCell' = true := by
  intro u hu
  simp only [Lib.byteCells, List.mem_map] at hu
  obtain ⟨b, _, rfl⟩ := hu
  rfl
theorem own_snoc {B : Nat} {w : World} {v : Value} {L N L' : List UInt8} {m : Nat} (h : w.ownsRowF B 5 1 v (L.length + m) (Lib.byteCells L ++ Lib.byteCells N)) (hm : N.length = m) (e : L' = L ++ N) :
    w.ownsRowF B 5 1 v L'.length (Lib.byteCells L') := by
  subst e; subst hm
  rw [List.length_append, Lib.byteCells_append]
  exact h
theorem own_drew {B : Nat} {w : World} {v : Value} {n : Nat} {xs : List Value} (h : w.ownsRowF B 5 1 v n xs) : w.drew.ownsRowF B 5 1 v n xs := h
theorem hex_cells (w : World) (a b : Nat) {ha : a < (⟨#[48, 49, 50, 51, 52, 53, 54, 55, 56, 57, 97, 98, 99, 100, 101, 102]⟩ : ByteArray).size} {hb : b < (⟨#[48, 49, 50, 51, 52, 53, 54, 55, 56, 57, 97, 98, 99, 100, 101, 102]⟩ : ByteArray).size} :
    ∀ j u, (Lib.byteCells [92, 120, hexD a, hexD b])[j]? = some u →
      (w.drew.alloc (.cells #[.int .u8 92, .int .u8 120, .int .u8 ((⟨#[48, 49, 50, 51, 52, 53, 54, 55, 56, 57, 97, 98, 99, 100, 101, 102]⟩ : ByteArray)[a]'ha).toNat, .int .u8 ((⟨#[48, 49, 50, 51, 52, 53, 54, 55, 56, 57, 97, 98, 99, 100, 101, 102]⟩ : ByteArray)[b]'hb).toNat] 5)).cell? ((⟨w.heap.size, 0, none⟩ : Addr).add j) = some u := by
  rw [hexLit, hexLit]
  exact new_cells w.drew (Lib.byteCells [92, 120, hexD a, hexD b]) 5
theorem wrap_u8 (n : Int) (h0 : 0 ≤ n) (h1 : n < 256) : IntKind.u8.wrap n = n := by
  simp [IntKind.wrap, IntKind.bits, IntKind.signed]; omega
end Go.Proofs.YtdgbenadoaecoaaDoor

/- The program's tables, as a world holds them. Conditions: none. -/
namespace Go.Proofs.YtdgbenadoaecoaaDoor
open Go.RowKit

def holdL : List Int := [4, 3, 1, 1, 2, 2, 2, 1, 4, 4, 4]
def signL : List ByteArray := [⟨#[]⟩, ⟨#[]⟩, ⟨#[43]⟩, ⟨#[45]⟩, ⟨#[42]⟩, ⟨#[47]⟩, ⟨#[37]⟩, ⟨#[38]⟩]
def wordL : List ByteArray := [⟨#[]⟩, ⟨#[]⟩, ⟨#[]⟩, ⟨#[]⟩, ⟨#[]⟩, ⟨#[]⟩, ⟨#[]⟩, ⟨#[]⟩, ⟨#[108, 101, 110]⟩, ⟨#[99, 104, 97, 114, 115]⟩, ⟨#[98, 97, 99, 107]⟩]
/-- What a world holds of the tables. -/
structure Tabs (w : World) : Prop where
  size : 9 ≤ w.heap.size
  pow : Lib.TabIs Tryd.prog w "internal/strconv.uint64pow10" .u64 Lib.pow10Tab
  hold : ∀ i, i < 11 → w.cell? ⟨1, i, none⟩ = some (.int .i64 (holdL.getD i 0))
  signs : ∀ i, i < 8 → w.cell? ⟨3, i, none⟩ = some (.string (signL.getD i ⟨#[]⟩))
  words : ∀ i, i < 11 → w.cell? ⟨2, i, none⟩ = some (.string (wordL.getD i ⟨#[]⟩))
theorem gPow : Tryd.prog.globalNamed "internal/strconv.uint64pow10" = some 6 := by kernel_rfl
theorem Tabs.up {B : Nat} {w w' : World} (h : Tabs w) (hb : Below B w w') (hB : 9 ≤ B) : Tabs w' :=
  ⟨Nat.le_trans h.size hb.size, var?_below hb gPow (by omega) h.pow, fun i hi => (hb.cell (p := ⟨1, i, none⟩) (by simp; omega)).trans (h.hold i hi),
    fun i hi => (hb.cell (p := ⟨3, i, none⟩) (by simp; omega)).trans (h.signs i hi), fun i hi => (hb.cell (p := ⟨2, i, none⟩) (by simp; omega)).trans (h.words i hi)⟩
theorem Tabs.at {w w' : World} (h : Tabs w) (hb : Below w.heap.size w w') : Tabs w' := h.up hb h.size
theorem Tabs.alloc {w : World} (h : Tabs w) (o : Obj) : Tabs (w.alloc o) := h.at ((Below.refl _ _).alloc (Nat.le_refl _) _)
end Go.Proofs.YtdgbenadoaecoaaDoor
