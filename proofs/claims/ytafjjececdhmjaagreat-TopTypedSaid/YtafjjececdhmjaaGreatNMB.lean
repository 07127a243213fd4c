/- The contracts of the Builder, of quoting, of the tables. Conditions: each part says its own. -/
import Derived.Test.YtafjjececdhmjaaGreatNMA
import Derived.Test.YtafjjececdhmjaaGreatProg
import Derived.Lib.OthersKept
import Derived.Lib.FrozenHead2
import Derived.Lib.AppendIntMem
import Derived.Lib.UnsafeStr
import Derived.Laws.Externs
import Derived.RegionTactic
import Derived.Lib.ItoaLen
import Derived.Laws.BytesArg
import Derived.Deep.RegionLaw
import Derived.WalkSmall
import Derived.Lib.LaidTab
import Derived.Lib.ItoaMem
/- The contracts of strings.Builder's methods at a builder of the call's own, also as the one field of a struct (print.writer). Conditions: what is held and what is written together take at most 2^47 bytes. -/
namespace Go.Proofs.YtafjjececdhmjaaGreat
open Go.RowKit

/-- A builder in block b, of type T (two cells), that holds the bytes l. -/
def Wr (T b : Nat) (l : List UInt8) (w : World) : Prop :=
  ∃ p v, (p = .pointer none ∨ p = .pointer (some ⟨b, 0, none⟩)) ∧ w.heap[b]? = some (.cells #[p, v] T (0, 0)) ∧ w.ownsRowF b 5 1 v l.length (Lib.byteCells l) ∧ v.ownBlock ≠ some b ∧ (l = [] → v = .slice none 0 0)
/-- What a writer leaves: below its block nothing has turned; of the rest nothing but rows of bytes and its own block. -/
def NB (b c : Nat) (w : World) : Prop := ∀ p v T fz, w.heap[b]? = some (.cells #[p, v] T fz) → v.ownBlock ≠ some c
structure Kp (b : Nat) (w w' : World) : Prop where
  below : Below b w w'
  others : Lib.OthersKept 5 (some b) w w'
  kept : ∀ c, c < w.heap.size → c ≠ b → NB b c w → w'.heap[c]? = w.heap[c]? ∧ NB b c w'
theorem Kp.refl (b : Nat) (w : World) : Kp b w w := ⟨Below.refl _ _, Lib.OthersKept.refl _ _ _, fun _ _ _ h => ⟨rfl, h⟩⟩
theorem Kp.trans {b : Nat} {a c d : World} (h : Kp b a c) (k : Kp b c d) : Kp b a d :=
  ⟨h.below.trans k.below, h.others.trans k.others, fun x hx hb hn => by
    obtain ⟨h1, h2⟩ := h.kept x hx hb hn
    obtain ⟨k1, k2⟩ := k.kept x (Nat.lt_of_lt_of_le hx h.below.size) hb h2
    exact ⟨k1.trans h1, k2⟩⟩
/-- A builder's two stores and its append, in one: what is kept. -/
theorem kept_of {b : Nat} {T : TypeId} {p p' v v' : Value} {w w' : World} (hb : w.heap[b]? = some (.cells #[p, v] T (0, 0))) (hb' : w'.heap[b]? = some (.cells #[p', v'] T (0, 0)))
    (hblk : ∀ c, c < w.heap.size → c ≠ b → v.ownBlock ≠ some c → w'.heap[c]? = w.heap[c]?) (hat : ∀ g, v'.ownBlock = some g → v.ownBlock = some g ∨ w.heap.size ≤ g) :
    ∀ c, c < w.heap.size → c ≠ b → NB b c w → w'.heap[c]? = w.heap[c]? ∧ NB b c w' := by
  intro c hc hcb hn
  have h1 := hn _ _ _ _ hb
  refine ⟨hblk c hc hcb h1, ?_⟩
  intro q u T2 fz hq
  rw [hb'] at hq
  simp at hq
  obtain ⟨⟨rfl, rfl⟩, _⟩ := hq
  intro hg
  rcases hat c hg with h | h
  · exact h1 h
  · omega
theorem Wr.lt {T b : Nat} {l : List UInt8} {w : World} (h : Wr T b l w) : b < w.heap.size := by
  obtain ⟨p, v, _, hb, _⟩ := h
  exact (Array.getElem?_eq_some_iff.1 hb).1
/-- What a writer's call leaves as it was: each cell of a block that is not its own and holds no bytes. -/
theorem Kp.cell {b : Nat} {w w' : World} (h : Kp b w w') {k : Nat} {c : Array Value} {t : TypeId} {fz : Nat × Nat} (hk : w.heap[k]? = some (.cells c t fz)) (hb : k ≠ b) (ht : t ≠ 5) : w'.heap[k]? = some (.cells c t fz) :=
  h.others k _ hk (fun e => hb (Option.some.inj e)) (fun c' fz' e => ht (by injection e))

theorem infoByte : (Tryz.prog.info? 5).map (fun i => (i.zero, i.size, i.bytes)) = some (some (.int .u8 0), 1, 1) := by kernel_rfl

end Go.Proofs.YtafjjececdhmjaaGreat

/- The contracts of strings.Builder's methods, more: a byte written, the text asked for. Conditions: what is held and what is written together take at most 2^47 bytes. -/
namespace Go.Proofs.YtafjjececdhmjaaGreat
open Go.RowKit

theorem freeze_other (w : World) (a : Addr) (n k : Nat) (h : k ≠ a.block) : (w.freeze a n).heap[k]? = w.heap[k]? := by
  unfold World.freeze
  split
  · rfl
  · simp only [Array.getElem?_modify]
    rw [if_neg (by omega)]
theorem froze_kept {b g n T : Nat} {p : Value} {l cap : Nat} {w : World} (hb : w.heap[b]? = some (.cells #[p, .slice (some ⟨g, 0, none⟩) l cap] T (0, 0))) (hgb : g ≠ b) {c : Nat} (hn : NB b c w) :
    (w.drew.freeze ⟨g, 0, none⟩ n).heap[c]? = w.heap[c]? ∧ NB b c (w.drew.freeze ⟨g, 0, none⟩ n) := by
  have hcg : c ≠ g := fun e => hn _ _ _ _ hb (by simp [Value.ownBlock, e])
  refine ⟨freeze_other _ _ _ _ hcg, ?_⟩
  intro q u T2 fz2 hq
  rw [freeze_other _ _ _ _ (fun e => hgb e.symm)] at hq
  exact hn _ _ _ _ hq
theorem cellsByte : Tryz.prog.cellsOf 5 = 1 := by kernel_rfl
end Go.Proofs.YtafjjececdhmjaaGreat

/- Plain laws on a quoted text; no program in sight. Conditions: none. -/
namespace Go.Proofs.YtafjjececdhmjaaGreat

theorem escL_append (a b : List UInt8) : escL (a ++ b) = escL a ++ escL b := by
  induction a with
  | nil => rfl
  | cons c r ih => simp [escL, ih]
theorem escB_le (c : UInt8) : (escB c).length ≤ 4 := by
  unfold escB
  repeat' split
  all_goals simp
theorem escL_le (l : List UInt8) : (escL l).length ≤ 4 * l.length := by
  induction l with
  | nil => simp [escL]
  | cons c r ih => have := escB_le c; simp [escL]; omega
theorem take_snoc (s : ByteArray) (k : Nat) (h : k < s.size) : (bl s).take (k + 1) = (bl s).take k ++ [s[k]] := by
  rw [List.take_succ_eq_append_getElem (by rw [size_bl]; exact h), get_bl s k h]
theorem esc_snoc (s : ByteArray) (k : Nat) (h : k < s.size) : escL ((bl s).take (k + 1)) = escL ((bl s).take k) ++ escB s[k] := by
  rw [take_snoc s k h, escL_append]; simp [escL]
theorem esc_len (s : ByteArray) (k : Nat) (h : k ≤ s.size) : (escL ((bl s).take k)).length ≤ 4 * k := by
  have := escL_le ((bl s).take k)
  rw [List.length_take, size_bl] at this
  omega
theorem take_all (s : ByteArray) : (bl s).take s.size = bl s := List.take_of_length_le (by rw [size_bl]; exact Nat.le_refl _)
theorem esc_10 {c : UInt8} (h : c.toNat = 10) : escB c = [92, 110] := by rw [escB, if_pos h]
theorem esc_q {c : UInt8} (h0 : ¬ c.toNat = 10) (h : c.toNat = 34 ∨ c.toNat = 92) : escB c = [92, c] := by rw [escB, if_neg h0, if_pos h]
theorem esc_p {c : UInt8} (h0 : ¬ c.toNat = 10) (_h1 : ¬ c.toNat = 34) (_h2 : ¬ c.toNat = 92) (h : 32 ≤ c.toNat ∧ c.toNat ≤ 126) : escB c = [c] := by
  rw [escB, if_neg h0, if_neg (by omega), if_pos h]
theorem esc_x {c : UInt8} (h0 : ¬ c.toNat = 10) (_h1 : ¬ c.toNat = 34) (_h2 : ¬ c.toNat = 92) (h : ¬ (32 ≤ c.toNat ∧ c.toNat ≤ 126)) : escB c = [92, 120, hexD (c.toNat / 16), hexD (c.toNat % 16)] := by
  rw [escB, if_neg h0, if_neg (by omega), if_neg h]
theorem hexLit (m : Nat) (h : m < (⟨#[48, 49, 50, 51, 52, 53, 54, 55, 56, 57, 97, 98, 99, 100, 101, 102]⟩ : ByteArray).size) :
    (⟨#[48, 49, 50, 51, 52, 53, 54, 55, 56, 57, 97, 98, 99, 100, 101, 102]⟩ : ByteArray)[m]'h = hexD m := by
  have h16 : m < 16 := h
  have H : ∀ m : Fin 16, (#[48, 49, 50, 51, 52, 53, 54, 55, 56, 57, 97, 98, 99, 100, 101, 102] : Array UInt8)[m.val]'(by simp) = hexD m.val := by decide
  exact H ⟨m, h16⟩
theorem quote_eq (l : List UInt8) : 34 :: escL l ++ [34] = quoteL l := rfl
end Go.Proofs.YtafjjececdhmjaaGreat

/- The contract of value.quoted. Conditions: the text has at most 200 bytes. -/
namespace Go.Proofs.YtafjjececdhmjaaGreat
open Go.RowKit

theorem wr_fresh (T : Nat) (w : World) : Wr T w.heap.size [] (w.alloc (.cells #[.pointer none, .slice none 0 0] T)) :=
  ⟨_, _, .inl rfl, heap_alloc_new w _, ⟨rfl, .inl ⟨rfl, rfl⟩⟩, by simp [Value.ownBlock], fun _ => rfl⟩
theorem nb_fresh {T b : Nat} {l : List UInt8} {w : World} (h : Wr T b l w) : NB b w.heap.size w := by
  intro p v T2 fz hq hg
  obtain ⟨p1, v1, _, hb, hown, _⟩ := h
  rw [hb] at hq
  simp at hq
  obtain ⟨⟨_, rfl⟩, _⟩ := hq
  have := (hown.lt _ hg).2
  omega
theorem wr_eq {T b : Nat} {l m : List UInt8} {w : World} (e : l = m) (h : Wr T b l w) : Wr T b m w := e ▸ h
theorem Wr.up {T b : Nat} {l : List UInt8} {w w' : World} (h : Wr T b l w) (hb : Below w.heap.size w w') : Wr T b l w' := by
  have hlt := h.lt
  obtain ⟨p, v, hp, hbk, hown, hne, hnil⟩ := h
  refine ⟨p, v, hp, (hb.block b hlt).trans hbk, ⟨hown.1, ?_⟩, hne, hnil⟩
  rcases hown.2 with h | ⟨g, cap, cur, fz, hv, hg, hh, r⟩
  · exact .inl h
  · exact .inr ⟨g, cap, cur, fz, hv, hg, (hb.block g (Array.getElem?_eq_some_iff.1 hh).1).trans hh, r⟩
theorem NB.up {b c : Nat} {w w' : World} (h : NB b c w) (hlt : b < w.heap.size) (hb : Below w.heap.size w w') : NB b c w' := by
  intro p v T fz hq
  rw [hb.block b hlt] at hq
  exact h p v T fz hq
/-- New memory alone. -/
theorem Kp.of_below {b : Nat} {w w' : World} (hlt : b < w.heap.size) (hb : Below w.heap.size w w') : Kp b w w' :=
  ⟨hb.mono (by omega), fun k o hk _ _ => (hb.block k (Array.getElem?_eq_some_iff.1 hk).1).trans hk, fun c hc _ hn => ⟨hb.block c hc, hn.up hlt hb⟩⟩
end Go.Proofs.YtafjjececdhmjaaGreat

/- The contracts of the reference's digits. Conditions: the number is one that its type holds. -/
namespace Go.Proofs.YtafjjececdhmjaaGreat
open Go.RowKit

theorem one_byte (w : World) (x : Int) : ∃ sc : ByteArray, bl sc = [UInt8.ofNat x.toNat] ∧ sc.size ≤ 1 ∧
    (convert 205 9 (.slice (some ⟨w.heap.size, 0, none⟩) 1 1)).run Tryz.prog (w.alloc (.cells #[.int .u8 x] 5)) = .ok (.string sc) (w.alloc (.cells #[.int .u8 x] 5)) := by
  have h := run_convert_bytes_arg (P := Tryz.prog) (w.alloc (.cells #[.int .u8 x] 5)) 205 5 Tryz.underlying205 Tryz.underlying5 w.heap.size 0 1 1 [x] rfl (fun i hi => by
    obtain rfl : i = 0 := by omega
    simp) 9 Tryz.underlying9
  exact ⟨_, rfl, Nat.le_refl _, h⟩
theorem dec_len (n : Nat) (hn : n < 18446744073709551616) : (Lib.decDigits n).length ≤ 20 := by
  rw [Lib.decDigits_length]; exact Lib.nDigits_le20 n hn
theorem dec_step {n m : Nat} {l : List UInt8} (h10 : 10 ≤ m) (hd : Lib.decDigits m ++ l = Lib.decDigits n) : Lib.decDigits (m / 10) ++ ([UInt8.ofNat (48 + (m : Int) % 10).toNat] ++ l) = Lib.decDigits n := by
  rw [← hd, Lib.decDigits.eq_1 m, dif_neg (by omega), show (48 + (m : Int) % 10).toNat = 48 + m % 10 by omega]; simp
theorem dec_last {n m : Nat} {l : List UInt8} (h10 : ¬ 10 ≤ m) (hd : Lib.decDigits m ++ l = Lib.decDigits n) : [UInt8.ofNat (48 + (m : Int)).toNat] ++ l = Lib.decDigits n := by
  rw [← hd, Lib.decDigits.eq_1 m, dif_pos (by omega), show (48 + (m : Int)).toNat = 48 + m by omega]
theorem bl_append (a b : ByteArray) : bl (a ++ b) = bl a ++ bl b := by
  show (a ++ b).data.toList = _
  rw [ByteArray.data_append, Array.toList_append]
theorem ret_bytes {a : ByteArray} {l : List UInt8} (h : bl a = l) : Ending.returned (.string a) = .returned (.string ⟨l.toArray⟩) := by
  rw [← h, str_eta]

set_option maxHeartbeats 1000000 in
set_option maxRecDepth 100000 in
theorem rdigits (n : Nat) (hn : n < 18446744073709551616) (w : World) :
    Calls Tryz.prog 97 #[.int .u64 n] w fun e w' => e = .returned (.string ⟨(Lib.decDigits n).toArray⟩) ∧ Below w.heap.size w w' := by
  have HL := Lib.hid (dec_len n hn)
  go_enter Tryz.func97, Tryz.ntmps97
  go_wp2_with fail
  go_loopw [0, 3] (fun v t wr => ∃ (m : Nat) (ts : ByteArray), v = .int .u64 m ∧ t = .string ts ∧ m ≤ n ∧ Lib.decDigits m ++ bl ts = Lib.decDigits n ∧ Below w.heap.size w wr) (fun v _ _ => (intOf v).toNat)
  case atStart => exact ⟨n, ByteArray.empty, rfl, rfl, Nat.le_refl _, by rw [show bl ByteArray.empty = [] from rfl]; simp, Below.refl _ _⟩
  case round =>
    obtain ⟨m, ts, rfl, rfl, hm, hd, hb⟩ := hrel
    have hts : ts.size ≤ 20 := by
      have h1 := congrArg List.length hd
      rw [List.length_append, size_bl] at h1
      have := HL.out
      omega
    have Hd := Lib.hid hd; clear hd
    have Hb := Lib.hid hb; clear hb
    by_cases h10 : 10 ≤ m
    · obtain ⟨sc, hsc, hsz, hcv⟩ := one_byte wr (48 + (m : Int) % 10)
      have HD := Lib.hid (dec_step h10 Hd.out)
      have Hsc := Lib.hid hsc; clear hsc
      go_wp2_with fail
      go_roundw
      case rel => exact ⟨m / 10, sc ++ ts, by go_num, rfl, by omega, by rw [bl_append, Hsc.out]; exact HD.out, Hb.out.alloc Hb.out.size _⟩
      case measure => simp [intOf]; omega
    · obtain ⟨sc, hsc, hsz, hcv⟩ := one_byte wr (48 + (m : Int))
      have HD := Lib.hid (dec_last h10 Hd.out)
      have Hsc := Lib.hid hsc; clear hsc
      go_wp2_with fail
      go_ret
      exact ⟨ret_bytes (by rw [bl_append, Hsc.out]; exact HD.out), Hb.out.alloc Hb.out.size _⟩
theorem wrap_neg (n : Int) (h0 : -9223372036854775808 ≤ n) (h1 : n < 0) : IntKind.u64.wrap (-IntKind.u64.wrap n) = ((n.natAbs : Nat) : Int) := by
  simp only [IntKind.wrap_u64]; omega
theorem wrap_pos (n : Int) (h0 : 0 ≤ n) (h1 : n ≤ 9223372036854775807) : IntKind.u64.wrap n = ((n.toNat : Nat) : Int) := by
  simp only [IntKind.wrap_u64]; omega
theorem one_string (c : UInt8) (l : List UInt8) : bl (⟨#[c]⟩ ++ ⟨l.toArray⟩) = c :: l := by rw [bl_append]; rfl
theorem rDigits (n : Int) (h0 : -9223372036854775808 ≤ n) (h1 : n ≤ 9223372036854775807) (w : World) :
    Calls Tryz.prog 56 #[.int .i64 n] w fun e w' => e = .returned (.string ⟨(Lib.itoa n).toArray⟩) ∧ Below w.heap.size w w' := by
  by_cases hn : n < 0
  · have HI := Lib.hid (show Lib.itoa n = 45 :: Lib.decDigits n.natAbs by rw [Lib.itoa, if_pos hn])
    have HW := Lib.hid (wrap_neg n h0 hn)
    have hb : n.natAbs < 18446744073709551616 := by omega
    have HL := Lib.hid (dec_len _ hb)
    have HB := Lib.hid hb; clear hb h0 h1
    go_enter Tryz.func56, Tryz.ntmps56
    go_wp2_with fail
    rw [HW.out]
    refine (rdigits _ HB.out _).mono ?_
    rintro e w' ⟨rfl, hb⟩
    have Hb := Lib.hid hb; clear hb
    obtain ⟨l, hl⟩ : ∃ l, l = Lib.decDigits n.natAbs := ⟨_, rfl⟩
    rw [← hl]
    have hll : l.length ≤ 20 := by rw [hl]; exact HL.out
    have HLL := Lib.hid hl; clear hl
    go_wp2_with fail
    go_ret
    exact ⟨ret_bytes (by rw [one_string, HI.out, HLL.out]), Hb.out⟩
  · have HI := Lib.hid (show Lib.itoa n = Lib.decDigits n.toNat by rw [Lib.itoa, if_neg hn])
    have HW := Lib.hid (wrap_pos n (by omega) h1)
    have HB := Lib.hid (show n.toNat < 18446744073709551616 by omega)
    clear h0 h1
    go_enter Tryz.func56, Tryz.ntmps56
    go_wp2_with fail
    rw [HW.out]
    refine (rdigits _ HB.out _).mono ?_
    rintro e w' ⟨rfl, hb⟩
    have Hb := Lib.hid hb; clear hb
    go_wp2_with fail
    go_ret
    exact ⟨ret_str HI.out.symm, Hb.out⟩
end Go.Proofs.YtafjjececdhmjaaGreat

/- The contract of the reference's Quoted. Conditions: the text has at most 200 bytes. -/
namespace Go.Proofs.YtafjjececdhmjaaGreat
open Go.RowKit

/-- A slice of bytes that the call owns, turned into a string. -/
theorem own_string {B : Nat} {w : World} {v : Value} {l : List UInt8} (h : w.ownsRowF B 5 1 v l.length (Lib.byteCells l)) :
    (convert 205 9 v).run Tryz.prog w = .ok (.string ⟨l.toArray⟩) w := by
  rcases h.2 with ⟨rfl, h0⟩ | ⟨g, cap, cur, fz, rfl, hbg, hg, hfz, hnc, hcm, hcs, htake⟩
  · obtain rfl := List.eq_nil_of_length_eq_zero h0
    exact run_convert_bytes_nil (P := Tryz.prog) w 205 5 Tryz.underlying205 Tryz.underlying5 0 0 9 Tryz.underlying9
  · have h1 := run_convert_bytes_arg (P := Tryz.prog) w 205 5 Tryz.underlying205 Tryz.underlying5 g 0 l.length cap (l.map fun c => (c.toNat : Int)) (by simp) (fun i hi => by
      have h2 := h.cells (g := g) rfl i (.int .u8 (l[i]'hi).toNat) (by simp [Lib.byteCells, hi])
      have h3 : (⟨g, 0, none⟩ : Addr).add i = ⟨g, 0 + i, none⟩ := by unfold Addr.add; split <;> simp_all
      rw [h3] at h2
      rw [h2]
      simp [List.getD, hi]) 9 Tryz.underlying9
    rw [h1]
    have e1 : strOfNums (l.map fun c => (c.toNat : Int)) = ⟨l.toArray⟩ := by
      unfold strOfNums
      rw [List.map_map, show ((fun n : Int => UInt8.ofNat n.toNat) ∘ fun c : UInt8 => (c.toNat : Int)) = id from funext fun c => by simp, List.map_id]
    rw [e1]

/-- Cells of a new block. -/
theorem new_cells (w : World) (l : List Value) (t : TypeId) : ∀ j u, l[j]? = some u → (w.alloc (.cells l.toArray t)).cell? ((⟨w.heap.size, 0, none⟩ : Addr).add j) = some u := by
  intro j u hj
  have h3 : (⟨w.heap.size, 0, none⟩ : Addr).add j = ⟨w.heap.size, j, none⟩ := by unfold Addr.add; split <;> simp_all
  rw [h3, Lib.cell_of_heap (heap_alloc_new w _)]
  simpa using hj
theorem byteCells_one (l : List UInt8) : ∀ u ∈ Lib.byteCells l, u.oneCell' = true := by
  intro u hu
  simp only [Lib.byteCells, List.mem_map] at hu
  obtain ⟨b, _, rfl⟩ := hu
  rfl
theorem own_snoc {B : Nat} {w : World} {v : Value} {L N L' : List UInt8} {m : Nat} (h : w.ownsRowF B 5 1 v (L.length + m) (Lib.byteCells L ++ Lib.byteCells N)) (hm : N.length = m) (e : L' = L ++ N) :
    w.ownsRowF B 5 1 v L'.length (Lib.byteCells L') := by
  subst e; subst hm
  rw [List.length_append, Lib.byteCells_append]
  exact h
theorem own_drew {B : Nat} {w : World} {v : Value} {n : Nat} {xs : List Value} (h : w.ownsRowF B 5 1 v n xs) : w.drew.ownsRowF B 5 1 v n xs := h
theorem hex_cells (w : World) (a b : Nat) {ha : a < (⟨#[48, 49, 50, 51, 52, 53, 54, 55, 56, 57, 97, 98, 99, 100, 101, 102]⟩ : ByteArray).size} {hb : b < (⟨#[48, 49, 50, 51, 52, 53, 54, 55, 56, 57, 97, 98, 99, 100, 101, 102]⟩ : ByteArray).size} :
    ∀ j u, (Lib.byteCells [92, 120, hexD a, hexD b])[j]? = some u →
      (w.drew.alloc (.cells #[.int .u8 92, .int .u8 120, .int .u8 ((⟨#[48, 49, 50, 51, 52, 53, 54, 55, 56, 57, 97, 98, 99, 100, 101, 102]⟩ : ByteArray)[a]'ha).toNat, .int .u8 ((⟨#[48, 49, 50, 51, 52, 53, 54, 55, 56, 57, 97, 98, 99, 100, 101, 102]⟩ : ByteArray)[b]'hb).toNat] 5)).cell? ((⟨w.heap.size, 0, none⟩ : Addr).add j) = some u := by
  rw [hexLit, hexLit]
  exact new_cells w.drew (Lib.byteCells [92, 120, hexD a, hexD b]) 5
theorem wrap_u8 (n : Int) (h0 : 0 ≤ n) (h1 : n < 256) : IntKind.u8.wrap n = n := by
  simp [IntKind.wrap, IntKind.bits, IntKind.signed]; omega
end Go.Proofs.YtafjjececdhmjaaGreat

/- The program's tables, as a world holds them. Conditions: none. -/
namespace Go.Proofs.YtafjjececdhmjaaGreat
open Go.RowKit

def holdL : List Int := [4, 3, 1, 1, 2, 2, 2, 1, 4, 4, 4]
def signL : List ByteArray := [⟨#[]⟩, ⟨#[]⟩, ⟨#[43]⟩, ⟨#[45]⟩, ⟨#[42]⟩, ⟨#[47]⟩, ⟨#[37]⟩, ⟨#[38]⟩]
def wordL : List ByteArray := [⟨#[]⟩, ⟨#[]⟩, ⟨#[]⟩, ⟨#[]⟩, ⟨#[]⟩, ⟨#[]⟩, ⟨#[]⟩, ⟨#[]⟩, ⟨#[108, 101, 110]⟩, ⟨#[99, 104, 97, 114, 115]⟩, ⟨#[98, 97, 99, 107]⟩]
end Go.Proofs.YtafjjececdhmjaaGreat
