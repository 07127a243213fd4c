/- The contracts of the reference's Quoted. Conditions: the text has at most 200 bytes. -/
import Derived.Test.YtcigdlpljjkplaaDoorW7
import Derived.Laws.BytesArg
import Derived.Deep.RegionLaw
namespace Go.Proofs.YtcigdlpljjkplaaDoor
open Go.RowKit

/-- A slice of bytes that the call owns, turned into a string. -/
theorem own_string {B : Nat} {w : World} {v : Value} {l : List UInt8} (h : w.ownsRowF B 5 1 v l.length (Lib.byteCells l)) :
    (convert 54 9 v).run Tryd.prog w = .ok (.string ⟨l.toArray⟩) w := by
  rcases h.2 with ⟨rfl, h0⟩ | ⟨g, cap, cur, fz, rfl, hbg, hg, hfz, hnc, hcm, hcs, htake⟩
  · obtain rfl := List.eq_nil_of_length_eq_zero h0
    exact run_convert_bytes_nil (P := Tryd.prog) w 54 5 Tryd.underlying54 Tryd.underlying5 0 0 9 Tryd.underlying9
  · have h1 := run_convert_bytes_arg (P := Tryd.prog) w 54 5 Tryd.underlying54 Tryd.underlying5 g 0 l.length cap (l.map fun c => (c.toNat : Int)) (by simp) (fun i hi => by
      have h2 := h.cells (g := g) rfl i (.int .u8 (l[i]'hi).toNat) (by simp [Lib.byteCells, hi])
      have h3 : (⟨g, 0, none⟩ : Addr).add i = ⟨g, 0 + i, none⟩ := by unfold Addr.add; split <;> simp_all
      rw [h3] at h2
      rw [h2]
      simp [List.getD, hi]) 9 Tryd.underlying9
    rw [h1]
    have e1 : strOfNums (l.map fun c => (c.toNat : Int)) = ⟨l.toArray⟩ := by
      unfold strOfNums
      rw [List.map_map, show ((fun n : Int => UInt8.ofNat n.toNat) ∘ fun c : UInt8 => (c.toNat : Int)) = id from funext fun c => by simp, List.map_id]
    rw [e1]

/-- Cells of a new block. -/
theorem new_cells (w : World) (l : List Value) (t : TypeId) : ∀ j u, l[j]? = some u → (w.alloc (.cells l.toArray t)).cell? ((⟨w.heap.size, 0, none⟩ : Addr).add j) = some u := by
  intro j u hj
  have h3 : (⟨w.heap.size, 0, none⟩ : Addr).add j = ⟨w.heap.size, j, none⟩ := by unfold Addr.add; split <;> simp_all
  rw [h3, Lib.cell_of_heap (heap_alloc_new w _)]
  simpa using hj
theorem byteCells_one (l : List UInt8) : ∀ u ∈ Lib.byteCells l, u.oneCell' = true := by
  intro u hu
  simp only [Lib.byteCells, List.mem_map] at hu
  obtain ⟨b, _, rfl⟩ := hu
  rfl
theorem own_snoc {B : Nat} {w : World} {v : Value} {L N L' : List UInt8} {m : Nat} (h : w.ownsRowF B 5 1 v (L.length + m) (Lib.byteCells L ++ Lib.byteCells N)) (hm : N.length = m) (e : L' = L ++ N) :
    w.ownsRowF B 5 1 v L'.length (Lib.byteCells L') := by
  subst e; subst hm
  rw [List.length_append, Lib.byteCells_append]
  exact h
theorem own_drew {B : Nat} {w : World} {v : Value} {n : Nat} {xs : List Value} (h : w.ownsRowF B 5 1 v n xs) : w.drew.ownsRowF B 5 1 v n xs := h
theorem hex_cells (w : World) (a b : Nat) {ha : a < (⟨#[48, 49, 50, 51, 52, 53, 54, 55, 56, 57, 97, 98, 99, 100, 101, 102]⟩ : ByteArray).size} {hb : b < (⟨#[48, 49, 50, 51, 52, 53, 54, 55, 56, 57, 97, 98, 99, 100, 101, 102]⟩ : ByteArray).size} :
    ∀ j u, (Lib.byteCells [92, 120, hexD a, hexD b])[j]? = some u →
      (w.drew.alloc (.cells #[.int .u8 92, .int .u8 120, .int .u8 ((⟨#[48, 49, 50, 51, 52, 53, 54, 55, 56, 57, 97, 98, 99, 100, 101, 102]⟩ : ByteArray)[a]'ha).toNat, .int .u8 ((⟨#[48, 49, 50, 51, 52, 53, 54, 55, 56, 57, 97, 98, 99, 100, 101, 102]⟩ : ByteArray)[b]'hb).toNat] 5)).cell? ((⟨w.heap.size, 0, none⟩ : Addr).add j) = some u := by
  rw [hexLit, hexLit]
  exact new_cells w.drew (Lib.byteCells [92, 120, hexD a, hexD b]) 5
theorem wrap_u8 (n : Int) (h0 : 0 ≤ n) (h1 : n < 256) : IntKind.u8.wrap n = n := by
  simp [IntKind.wrap, IntKind.bits, IntKind.signed]; omega
set_option maxHeartbeats 2000000 in
set_option maxRecDepth 100000 in
theorem kQuoted (s : ByteArray) (w : World) (hs : s.size ≤ 200) :
    Calls Tryd.prog 39 #[.string s] w fun e w' => e = .returned (.string ⟨(quoteL (bl s)).toArray⟩) ∧ Below w.heap.size w w' := by
  obtain ⟨i0, hi, hz0, hz1, hz2⟩ := info_parts infoByte
  go_enter Tryd.func39, Tryd.ntmps39
  go_wp2_with fail
  go_loopw [4, 5] (fun v i wr => ∃ k : Nat, k ≤ s.size ∧ i = .int .i64 k ∧ wr.ownsRowF w.heap.size 5 1 v (34 :: escL ((bl s).take k)).length (Lib.byteCells (34 :: escL ((bl s).take k))) ∧ Below w.heap.size w wr) (fun _ i _ => s.size - (intOf i).toNat)
  case atStart => exact ⟨0, by omega, rfl, ⟨rfl, .inr ⟨w.heap.size, 1, #[.int .u8 34], (0, 0), rfl, Nat.le_refl _, heap_alloc_new w _, Nat.zero_le _, Nat.le_refl _, by unfold maxLen; omega, rfl, rfl⟩⟩, (Below.refl _ _).alloc (Nat.le_refl _) _⟩
  case round =>
    obtain ⟨k, hk, rfl, hown, hb⟩ := hrel
    have hln := esc_len s k hk
    have hL : (34 :: escL ((bl s).take k)).length ≤ 801 := by simp; omega
    have hsz := hb.size
    have Hb := Lib.hid hb; clear hb
    have HO := Lib.hid hown; clear hown
    by_cases hlt : k < s.size
    · have hes := Lib.hid (esc_snoc s k hlt)
      by_cases h10 : s[k].toNat = 10
      · have q10 : ((s[k].toNat : Int) == 10) = true := by simp [h10]
        have HE := Lib.hid (esc_10 h10)
        clear h10
        go_wp2_with (at_builtin; refine wpApp_row rfl _ _ 54 rfl w.heap.size 5 i0 (.int .u8 0) 1 1 Tryd.underlying54 hi hz0 hz1 hz2 rfl (by decide) _ _ _ rfl (HO.out.alloc _) ⟨wr.heap.size, 0, none⟩ 2 2 (Lib.byteCells [92, 110]) rfl rfl (new_cells wr (Lib.byteCells [92, 110]) 5) (byteCells_one _) (by unfold maxLen; omega) (by omega) (by simp; omega) ?_)
        intro v' w1 hown' hgrow _ _
        have HO' := Lib.hid hown'; clear hown'
        have HG := Lib.hid hgrow; clear hgrow
        go_wp2_with fail
        go_roundw
        case rel => exact ⟨k + 1, by omega, by go_num, own_snoc HO'.out rfl (by rw [hes.out, HE.out]; rfl), ((Hb.out.alloc hsz _).grown HG.out (by simp; omega) (fun g hg => (HO.out.lt g hg).1))⟩
        case measure => simp [intOf]; omega
      · have q10 : ((s[k].toNat : Int) == 10) = false := by simp; omega
        by_cases hq : s[k].toNat = 34 ∨ s[k].toNat = 92
        · have HE := Lib.hid (esc_q h10 hq)
          rcases hq with h34 | h92
          · have q34 : ((s[k].toNat : Int) == 34) = true := by simp [h34]
            clear h34 h10
            go_wp2_with (at_builtin; refine wpApp_row rfl _ _ 54 rfl w.heap.size 5 i0 (.int .u8 0) 1 1 Tryd.underlying54 hi hz0 hz1 hz2 rfl (by decide) _ _ _ rfl (HO.out.alloc _) ⟨wr.heap.size, 0, none⟩ 2 2 (Lib.byteCells [92, s[k]]) rfl rfl (new_cells wr (Lib.byteCells [92, s[k]]) 5) (byteCells_one _) (by unfold maxLen; omega) (by omega) (by simp; omega) ?_)
            intro v' w1 hown' hgrow _ _
            have HO' := Lib.hid hown'; clear hown'
            have HG := Lib.hid hgrow; clear hgrow
            go_wp2_with fail
            go_roundw
            case rel => exact ⟨k + 1, by omega, by go_num, own_snoc HO'.out rfl (by rw [hes.out, HE.out]; rfl), ((Hb.out.alloc hsz _).grown HG.out (by simp; omega) (fun g hg => (HO.out.lt g hg).1))⟩
            case measure => simp [intOf]; omega
          · have q34 : ((s[k].toNat : Int) == 34) = false := by simp; omega
            have q92 : ((s[k].toNat : Int) == 92) = true := by simp [h92]
            clear h92 h10
            go_wp2_with (at_builtin; refine wpApp_row rfl _ _ 54 rfl w.heap.size 5 i0 (.int .u8 0) 1 1 Tryd.underlying54 hi hz0 hz1 hz2 rfl (by decide) _ _ _ rfl (HO.out.alloc _) ⟨wr.heap.size, 0, none⟩ 2 2 (Lib.byteCells [92, s[k]]) rfl rfl (new_cells wr (Lib.byteCells [92, s[k]]) 5) (byteCells_one _) (by unfold maxLen; omega) (by omega) (by simp; omega) ?_)
            intro v' w1 hown' hgrow _ _
            have HO' := Lib.hid hown'; clear hown'
            have HG := Lib.hid hgrow; clear hgrow
            go_wp2_with fail
            go_roundw
            case rel => exact ⟨k + 1, by omega, by go_num, own_snoc HO'.out rfl (by rw [hes.out, HE.out]; rfl), ((Hb.out.alloc hsz _).grown HG.out (by simp; omega) (fun g hg => (HO.out.lt g hg).1))⟩
            case measure => simp [intOf]; omega
        · have q34 : ((s[k].toNat : Int) == 34) = false := by simp; omega
          have q92 : ((s[k].toNat : Int) == 92) = false := by simp; omega
          by_cases hp : 32 ≤ s[k].toNat ∧ s[k].toNat ≤ 126
          · have q1 : decide (32 ≤ (s[k].toNat : Int)) = true := decide_eq_true (by omega)
            have q2 : decide ((s[k].toNat : Int) ≤ 126) = true := decide_eq_true (by omega)
            have HE := Lib.hid (esc_p h10 (fun e => hq (.inl e)) (fun e => hq (.inr e)) hp)
            clear hq hp
            go_wp2_with (at_builtin; refine wpApp_row rfl _ _ 54 rfl w.heap.size 5 i0 (.int .u8 0) 1 1 Tryd.underlying54 hi hz0 hz1 hz2 rfl (by decide) _ _ _ rfl (HO.out.alloc _) ⟨wr.heap.size, 0, none⟩ 1 1 (Lib.byteCells [s[k]]) rfl rfl (new_cells wr (Lib.byteCells [s[k]]) 5) (byteCells_one _) (by unfold maxLen; omega) (by omega) (by simp; omega) ?_)
            intro v' w1 hown' hgrow _ _
            have HO' := Lib.hid hown'; clear hown'
            have HG := Lib.hid hgrow; clear hgrow
            go_wp2_with fail
            go_roundw
            case rel => exact ⟨k + 1, by omega, by go_num, own_snoc HO'.out rfl (by rw [hes.out, HE.out]; rfl), ((Hb.out.alloc hsz _).grown HG.out (by simp; omega) (fun g hg => (HO.out.lt g hg).1))⟩
            case measure => simp [intOf]; omega
          · have HE := Lib.hid (esc_x h10 (fun e => hq (.inl e)) (fun e => hq (.inr e)) hp)
            clear hq
            have hcb := s[k].toNat_lt
            go_wp2_with fail
            all_goals
              have w0 : ((s[k].toNat : Int)).tmod 16 = (s[k].toNat : Int) % 16 := Int.tmod_eq_emod_of_nonneg (by omega)
              have w1 : IntKind.u8.wrap ((s[k].toNat : Int) / 16) = (s[k].toNat : Int) / 16 := wrap_u8 _ (by omega) (by omega)
              have w2 : ((s[k].toNat : Int) / 16) < 16 := by omega
              have w3 : ((s[k].toNat : Int) / 16).toNat = s[k].toNat / 16 := by omega
              have w4 : ((s[k].toNat : Int) % 16) < 16 := by omega
              have w5 : ((s[k].toNat : Int) % 16).toNat = s[k].toNat % 16 := by omega
              have w6 : 0 ≤ ((s[k].toNat : Int) / 16) := by omega
              have w7 : 0 ≤ ((s[k].toNat : Int) % 16) := by omega
              go_region_law (refine stepApp_row rfl _ _ 54 rfl w.heap.size 5 i0 (.int .u8 0) 1 1 Tryd.underlying54 hi hz0 hz1 hz2 rfl (by decide) _ _ _ rfl ((own_drew HO.out).alloc _) ⟨wr.heap.size, 0, none⟩ 4 4 (Lib.byteCells [92, 120, hexD (s[k].toNat / 16), hexD (s[k].toNat % 16)]) (by rfl) rfl (by exact hex_cells wr _ _) (byteCells_one _) (by unfold maxLen; omega) (by omega) (by simp; omega) ?_; intro v' wz hown' hgrow _ _)
              all_goals
                have HO' := Lib.hid hown'; clear hown'
                have HG := Lib.hid hgrow; clear hgrow
                go_wp2_with fail
                go_roundw
                case rel => exact ⟨k + 1, by omega, by go_num, own_snoc HO'.out rfl (by rw [hes.out, HE.out]; rfl), ((Hb.out.drew.alloc hsz _).grown HG.out (by simp; omega) (fun g hg => (HO.out.lt g hg).1))⟩
                case measure => simp [intOf]; omega
    · obtain rfl : k = s.size := by omega
      have hta := Lib.hid (take_all s)
      go_wp2_with (at_builtin; refine wpApp_row rfl _ _ 54 rfl w.heap.size 5 i0 (.int .u8 0) 1 1 Tryd.underlying54 hi hz0 hz1 hz2 rfl (by decide) _ _ _ rfl (HO.out.alloc _) ⟨wr.heap.size, 0, none⟩ 1 1 (Lib.byteCells [34]) rfl rfl (new_cells wr (Lib.byteCells [34]) 5) (byteCells_one _) (by unfold maxLen; omega) (by omega) (by simp; omega) ?_)
      intro v' w1 hown' hgrow _ _
      have hcv := own_string (own_snoc hown' rfl (show quoteL (bl s) = _ ++ [34] by rw [hta.out]; exact (quote_eq _).symm))
      have HG := Lib.hid hgrow; clear hgrow hown'
      go_wp2_with fail
      go_ret
      exact ⟨rfl, ((Hb.out.alloc hsz _).grown HG.out (by simp; omega) (fun g hg => (HO.out.lt g hg).1))⟩
end Go.Proofs.YtcigdlpljjkplaaDoor
