/- Rules in rows that a call owns; a number counted round. The rules shuffled: what comes is a permutation of them, in a row of the call's own. Conditions: none. the rules and the numbers lie in memory as they are told; at most 2^20 rules. -/
import Derived.Test.YtafjjececdhmjaaGreatMKp
import Derived.Test.YtafjjececdhmjaaGreatMY30
import Derived.Deep.Cut
import Derived.Deep.CutRange
namespace Go.Proofs.YtafjjececdhmjaaGreat
open Go.RowKit

theorem infoRule : (Tryz.prog.info? 41).map (fun i => (i.zero, i.size, i.bytes)) = some (some (.agg #[.string ⟨#[]⟩, .slice none 0 0, .slice none 0 0]), 3, 64) := by kernel_rfl
theorem ru_len {d : Nat} (x : Ru d) : x.cells.length = 3 := rfl
def ruVs {d : Nat} (l : List (Ru d)) : List Value := l.flatMap Ru.cells
theorem ruVs_len {d : Nat} (l : List (Ru d)) : (ruVs l).length = l.length * 3 := by
  induction l with
  | nil => rfl
  | cons x r ih => unfold ruVs at *; rw [List.flatMap_cons, List.length_append, ih, List.length_cons]; simp [Ru.cells]; omega
theorem ruVs_app {d : Nat} (l k : List (Ru d)) : ruVs (l ++ k) = ruVs l ++ ruVs k := by simp [ruVs]
theorem ruVs_one {d : Nat} (l : List (Ru d)) : ∀ u ∈ ruVs l, u.oneCell' = true := by
  intro u hu
  obtain ⟨x, _, h⟩ := List.mem_flatMap.1 hu
  simp only [Ru.cells, List.mem_cons, List.not_mem_nil, or_false] at h
  rcases h with rfl | rfl | rfl <;> rfl
theorem ru_take {d : Nat} {w : World} {B n c g : Nat} {l : List (Ru d)} (h : w.ownsRow B 41 3 (.slice (some ⟨g, 0, none⟩) n c) n (ruVs l)) (k : Nat) :
    ∀ j u, (ruVs (l.take k))[j]? = some u → w.cell? ((⟨g, 0, none⟩ : Addr).add j) = some u := by
  intro j u hu
  refine h.cells rfl j u ?_
  rw [← List.take_append_drop k l, ruVs_app, List.getElem?_append_left]
  · exact hu
  · exact (List.getElem?_eq_some_iff.1 hu).1
theorem ru_drop {d : Nat} {w : World} {B n c g : Nat} {l : List (Ru d)} (h : w.ownsRow B 41 3 (.slice (some ⟨g, 0, none⟩) n c) n (ruVs l)) (k : Nat) (hk : k ≤ l.length) :
    ∀ j u, (ruVs (l.drop k))[j]? = some u → w.cell? ((⟨g, k * 3, none⟩ : Addr).add j) = some u := by
  intro j u hu
  have h1 := h.cells (g := g) rfl (k * 3 + j) u (by
    rw [← List.take_append_drop k l, ruVs_app, List.getElem?_append_right (by rw [ruVs_len, List.length_take]; omega)]
    have : k * 3 + j - (ruVs (l.take k)).length = j := by rw [ruVs_len, List.length_take]; omega
    rw [this]
    exact hu)
  have h2 : ((⟨g, 0, none⟩ : Addr).add (k * 3 + j)) = (⟨g, k * 3, none⟩ : Addr).add j := by unfold Addr.add; split <;> simp_all
  rw [← h2]
  exact h1
theorem ru_cell {d : Nat} {w : World} {B n c g : Nat} {l : List (Ru d)} (h : w.ownsRow B 41 3 (.slice (some ⟨g, 0, none⟩) n c) n (ruVs l)) (hn : l.length = n) (k : Nat) (hk : k < l.length) : RuCell w g (k * 3) l[k] := by
  subst hn
  rcases row_cells Ru.cells ru_len h with h0 | ⟨g', hp, _, _, hc⟩
  · omega
  · obtain rfl : g = g' := by simpa using hp
    exact ⟨hc k hk 0 (by omega), hc k hk 1 (by omega), hc k hk 2 (by omega)⟩
/-- Rows that stand side by side. -/
structure ShS {d : Nat} (xs : List (Ru d)) (w : World) (i : Nat) (vl vo : Value) (wr : World) : Prop where
  u_ : Below w.heap.size w wr
  ex : ∃ l o : List (Ru d), (o ++ l).Perm xs ∧ i + l.length = xs.length ∧ wr.ownsRow w.heap.size 41 3 vl l.length (ruVs l) ∧ wr.ownsRow w.heap.size 41 3 vo o.length (ruVs o) ∧ ∀ g, vl.ownBlock = some g → vo.ownBlock ≠ some g
theorem perm_pick {α : Type} {xs o l : List α} {k : Nat} (hk : k < l.length) (h : (o ++ l).Perm xs) : ((o ++ [l[k]]) ++ (l.take k ++ l.drop (k + 1))).Perm xs := by
  refine List.Perm.trans ?_ h
  rw [List.append_assoc]
  refine List.Perm.append_left o ?_
  have h1 : l = l.take k ++ (l[k] :: l.drop (k + 1)) := by rw [← List.drop_eq_getElem_cons hk, List.take_append_drop]
  conv => rhs; rw [h1]
  show (l[k] :: (l.take k ++ l.drop (k + 1))).Perm _
  exact List.perm_middle.symm
set_option maxHeartbeats 1000000 in
theorem tCount (k n : Int) (hn : 0 < n) (hn2 : n ≤ 1000000000) (w : World) :
    Calls Tryz.prog 25 #[.int .i64 k, .int .i64 n] w fun e w' => ∃ i : Nat, e = .returned (.int .i64 i) ∧ (i : Int) < n ∧ w' = w := by
  have h1 : k.tmod n < n := Int.tmod_lt_of_pos k hn
  have h2 : -n < k.tmod n := by
    have := Int.lt_tmod_of_pos k hn
    omega
  have h3 : IntKind.i64.wrap (k.tmod n) = k.tmod n := by rw [IntKind.wrap_i64]; omega
  have h4 : IntKind.i64.wrap (k.tmod n + n) = k.tmod n + n ∨ ¬ k.tmod n < 0 := by
    by_cases h : k.tmod n < 0
    · left; rw [IntKind.wrap_i64]; omega
    · exact .inr h
  have h5 : n ≠ 0 := by omega
  obtain ⟨m, hm⟩ : ∃ m, m = k.tmod n := ⟨_, rfl⟩
  rw [← hm] at h1 h2 h3 h4
  by_cases h0 : m < 0
  · have h6 : IntKind.i64.wrap (m + n) = m + n := by rcases h4 with h | h; exact h; omega
    have HE := Lib.hid (show ∃ i : Nat, m + n = (i : Int) from ⟨(m + n).toNat, by omega⟩)
    clear h4
    go_enter Tryz.func25, Tryz.ntmps25
    go_wp2_with fail
    go_ret
    obtain ⟨i, hi⟩ := HE.out
    exact ⟨i, by rw [← hm, hi]; rfl, by omega, rfl⟩
  · have HE := Lib.hid (show ∃ i : Nat, m = (i : Int) from ⟨m.toNat, by omega⟩)
    clear h4
    go_enter Tryz.func25, Tryz.ntmps25
    go_wp2_with fail
    go_ret
    obtain ⟨i, hi⟩ := HE.out
    exact ⟨i, by rw [← hm, hi]; rfl, by omega, rfl⟩
end Go.Proofs.YtafjjececdhmjaaGreat

namespace Go.Proofs.YtafjjececdhmjaaGreat
open Go.RowKit

/-- Numbers in a row of memory. -/
def IntsAt (w : World) (q : Option Addr) (n : Nat) : Prop := n = 0 ∨ ∃ a o, q = some ⟨a, o, none⟩ ∧ a < w.heap.size ∧ ∀ i, i < n → ∃ k : Int, w.cell? ⟨a, o + i, none⟩ = some (.int .i64 k) ∧ -9223372036854775808 ≤ k ∧ k ≤ 9223372036854775807
def ShPost {d : Nat} (xs : List (Ru d)) (w : World) (e : Ending) (w' : World) : Prop :=
  ∃ (p : Option Addr) (c : Nat) (o : List (Ru d)), e = .returned (.slice p o.length c) ∧ o.Perm xs ∧ w'.ownsRow w.heap.size 41 3 (.slice p o.length c) o.length (ruVs o) ∧ Below w.heap.size w w'
theorem ownR_cap {w : World} {B n k : Nat} {e : TypeId} {p : Option Addr} {c : Nat} {xs : List Value} (h : w.ownsRow B e k (.slice p n c) n xs) (hn : 0 < n) : ∃ g, p = some ⟨g, 0, none⟩ ∧ n ≤ c ∧ c ≤ maxLen ∧ g < w.heap.size := by
  rcases h.2 with ⟨_, h0⟩ | ⟨g, cap, cur, hv, _, hg, h1, h2, _⟩
  · omega
  · simp only [Value.slice.injEq, true_and] at hv
    obtain ⟨rfl, rfl⟩ := hv
    exact ⟨g, rfl, h1, h2, (Array.getElem?_eq_some_iff.1 hg).1⟩
theorem addr_add (a o j : Nat) : (⟨a, o, none⟩ : Addr).add j = ⟨a, o + j, none⟩ := by unfold Addr.add; split <;> simp_all
set_option maxRecDepth 100000 in
set_option maxHeartbeats 8000000 in
theorem tShuffled (d : Nat) (xs : List (Ru d)) (p : Option Addr) (cap : Nat) (q : Option Addr) (on oc : Nat) (w : World) (hx : RusAt w d p xs) (hn : xs.length ≤ 1048576) (ho : IntsAt w q on) :
    Calls Tryz.prog 7 #[.slice p xs.length cap, .slice q on oc] w (ShPost xs w) := by
  obtain ⟨i0, hi, hzz⟩ := Option.map_eq_some_iff.1 infoRule
  simp only [Prod.mk.injEq] at hzz
  obtain ⟨hz0, hz1, hz2⟩ := hzz
  have HI := Lib.hid hi; clear hi
  have HZ0 := Lib.hid hz0; clear hz0
  have HZ1 := Lib.hid hz1; clear hz1
  have HZ2 := Lib.hid hz2; clear hz2
  have HO := Lib.hid ho; clear ho
  rcases p with _ | ad
  · have h0 : xs.length = 0 := by
      rcases hx.1 with h | ⟨a, o, h, _⟩
      · exact h
      · cases h
    have hxs : xs = [] := List.eq_nil_of_length_eq_zero h0
    subst hxs
    clear hx hn h0
    go_enter Tryz.func7, Tryz.ntmps7
    go_wp2_with fail
    go_loopw [5, 6, 7, 8, 9] (fun vl vo i _ _ wr => vl = .slice none 0 0 ∧ vo = .slice none 0 0 ∧ i = .int .i64 0 ∧ wr = w) (fun _ _ _ _ _ _ => 0)
    case atStart => exact ⟨rfl, rfl, rfl, rfl⟩
    case round =>
      obtain ⟨rfl, rfl, rfl, rfl⟩ := hrel
      go_wp2_with fail
      go_ret
      exact ⟨none, 0, [], rfl, List.Perm.refl _, ownR_nil _ _ _ _, Below.refl _ _⟩
  · have hnews : ∀ j u, (ruVs xs)[j]? = some u → w.cell? (ad.add j) = some u := by
      rcases hx.1 with h0 | ⟨a, o, h, ha, hc⟩
      · rw [List.eq_nil_of_length_eq_zero h0]
        intro j u hu
        simp [ruVs] at hu
      · obtain rfl : ad = ⟨a, o, none⟩ := by simpa using h
        intro j u hu
        have hj : j < xs.length * 3 := by rw [← ruVs_len]; exact (List.getElem?_eq_some_iff.1 hu).1
        have hi : j / 3 < xs.length := by omega
        have hq : j % 3 < 3 := by omega
        have hjj : j = j / 3 * 3 + j % 3 := by omega
        have h1 : (ruVs xs)[j / 3 * 3 + j % 3]? = (xs[j / 3].cells)[j % 3]? := flat_at Ru.cells ru_len xs (j / 3) hi (j % 3) hq
        rw [← hjj, hu] at h1
        have h2 := hc (j / 3) hi
        rw [addr_add]
        have h3 : j % 3 = 0 ∨ j % 3 = 1 ∨ j % 3 = 2 := by omega
        rcases h3 with h3 | h3 | h3
        · rw [h3] at h1 hjj
          have h4 := h2.c0
          rw [show o + j = o + j / 3 * 3 by omega, h4]
          exact h1.symm
        · rw [h3] at h1 hjj
          have h4 := h2.c1
          rw [show o + j = o + j / 3 * 3 + 1 by omega, h4]
          exact h1.symm
        · rw [h3] at h1 hjj
          have h4 := h2.c2
          rw [show o + j = o + j / 3 * 3 + 2 by omega, h4]
          exact h1.symm
    clear hx
    have HNW := Lib.hid hnews; clear hnews
    go_enter Tryz.func7, Tryz.ntmps7
    go_wp2_with (at_builtin; (refine wpOwnR rfl _ _ 22 rfl w.heap.size 41 i0 _ 3 64 Tryz.underlying22 HI.out HZ0.out HZ1.out HZ2.out rfl (by decide) _ _ _ rfl (ownR_nil w w.heap.size 3 41) ad xs.length cap (ruVs xs) rfl (ruVs_len xs) HNW.out (ruVs_one xs) ?c2 ?c3 (Nat.le_refl _) ?_))
    case c2 => unfold maxLen; omega
    case c3 => omega
    intro v0 w1 hown hgrow _
    have HS0 := Lib.hid (show ShS xs w 0 v0 (.slice none 0 0) w1 from
      ⟨(Below.refl w.heap.size w).grown hgrow (Nat.le_refl _) (fun k hk => by cases hk), xs, [], by simp, by omega, by simpa using hown, ownR_nil _ _ _ _, fun g _ h => by cases h⟩)
    clear hown hgrow HNW
    go_wp2_with fail
    go_loopw [5, 6, 7, 8, 9] (fun vl vo i _ _ wr => ∃ k : Nat, i = .int .i64 k ∧ ShS xs w k vl vo wr) (fun _ _ i _ _ _ => xs.length - (intOf i).toNat)
    case atStart => exact ⟨0, rfl, HS0.out⟩
    case round =>
      clear HS0
      obtain ⟨k, rfl, hs⟩ := hrel
      obtain ⟨l, o, hpe, hlen, hrl, hro, hne⟩ := hs.ex
      have Hb := Lib.hid hs.u_
      rename World => wr
      clear hs
      have HPE := Lib.hid hpe; clear hpe
      have HNE := Lib.hid hne; clear hne
      obtain ⟨po, co, rfl⟩ := ownR_slice hro
      obtain ⟨pl, cl, rfl⟩ := ownR_slice hrl
      have HRO := Lib.hid hro; clear hro
      have hol : o.length + l.length = xs.length := by have := HPE.out.length_eq; rw [List.length_append] at this; exact this
      by_cases hl0 : 0 < l.length
      · obtain ⟨g, rfl, hcl, hcm, hgl⟩ := ownR_cap hrl hl0
        have HRL := Lib.hid hrl; clear hrl
        go_upto_if 21 with (fail)
        go_cut [8] from 18 to 46 (fun t8 wx => ∃ kk : Nat, t8 = .int .i64 kk ∧ kk < l.length ∧ wx = wr)
        case first =>
          by_cases hio : k < on
          · have hik : (k : Int) < (on : Int) := by omega
            have hk0 : (0 : Int) ≤ (k : Int) := by omega
            rcases HO.out with h0 | ⟨a, o', rfl, ha, hc⟩
            · omega
            · obtain ⟨z, hz, _⟩ := hc k hio
              have k0 := (Hb.out.cell (p := ⟨a, o' + k, none⟩) ha).trans hz
              clear hc hz
              go_wp2_with fail
              refine (tCount z l.length (by omega) (by omega) _).mono ?_
              rintro e w' ⟨kk, rfl, hkk, rfl⟩
              go_wp2_with fail
              go_meet
              exact ⟨kk, rfl, by omega, rfl⟩
          · have hik : ¬ (k : Int) < (on : Int) := by omega
            go_wp2_with fail
            go_meet
            exact ⟨0, rfl, hl0, rfl⟩
        case rest =>
          obtain ⟨kk, rfl, hkk, rfl⟩ := hcut
          have hk0 : (0 : Int) ≤ (kk : Int) := by omega
          have hki : (kk : Int) < (l.length : Int) := by omega
          have hkc : (kk : Int) ≤ (cl : Int) := by omega
          have hke : (kk : Int) + 1 ≤ (l.length : Int) := by omega
          have hlc : (l.length : Int) ≤ (cl : Int) := by omega
          have hwk : IntKind.i64.wrap ((kk : Int) + 1) = (kk : Int) + 1 := by rw [IntKind.wrap_i64]; omega
          have hck := ru_cell HRL.out rfl kk hkk
          have HPP := Lib.hid (perm_pick hkk HPE.out)
          have HRV := Lib.hid (show ruVs (o ++ [l[kk]]) = ruVs o ++ l[kk].cells by rw [ruVs_app]; simp [ruVs])
          obtain ⟨x, hx⟩ : ∃ x, x = l[kk] := ⟨_, rfl⟩
          rw [← hx] at hck HPP HRV
          clear hx
          obtain ⟨k0, k1, k2⟩ := hck
          go_wp2_with (at_builtin; (refine wpOwnR rfl _ _ 22 rfl w.heap.size 41 i0 _ 3 64 Tryz.underlying22 HI.out HZ0.out HZ1.out HZ2.out rfl (by decide) _ _ _ rfl (ownR_alloc HRO.out _) ⟨wc.heap.size, 0, none⟩ 1 1 x.cells rfl rfl ?c0 ?c1 ?c2 ?c3 ?c4 ?_))
          case c0 =>
            exact new_cells wc x.cells 41
          case c1 => exact fun u hu => ruVs_one [x] u (by simp [ruVs]; exact hu)
          case c2 => unfold maxLen; omega
          case c3 => omega
          case c4 => have := Hb.out.size; simp; omega
          intro v2 w2 hown2 hgrow2 hat2
          have HS2 := Lib.hid (show wc.heap.size + 1 ≤ w2.heap.size by have := hgrow2.size; simpa using this)
          have HL2 := Lib.hid (ownR_kept (ownR_alloc HRL.out _) hgrow2 (.inl fun h => HNE.out g rfl h.symm))
          have HO2 := Lib.hid (show w2.ownsRow w.heap.size 41 3 v2 (o ++ [x]).length (ruVs (o ++ [x])) by rw [HRV.out, List.length_append]; exact hown2)
          have HN2 := Lib.hid (show v2.ownBlock ≠ some g by
            rcases hat2 with h | ⟨h, _⟩
            · rw [h]; exact HNE.out g rfl
            · intro h9; have h8 : wc.heap.size + 1 ≤ g := by simpa using h g h9
              omega)
          have Hb2 := Lib.hid ((Hb.out.alloc Hb.out.size _).grown hgrow2 (by have := Hb.out.size; simp; omega) (fun a ha => (ownR_lt HRO.out ha).1))
          obtain ⟨p2, c2, rfl⟩ := ownR_slice hown2
          clear hown2 hgrow2 hat2 k0 k1 k2
          go_wp2_with (at_builtin; (refine wpOwnR rfl _ _ 22 rfl w.heap.size 41 i0 _ 3 64 Tryz.underlying22 HI.out HZ0.out HZ1.out HZ2.out rfl (by decide) _ _ _ rfl (ownR_nil _ _ _ _) ⟨g, 0, none⟩ kk cl (ruVs (l.take kk)) rfl (by rw [ruVs_len, List.length_take]; omega) (ru_take HL2.out kk) (ruVs_one _) ?d2 ?d3 ?d4 ?_))
          case d2 => unfold maxLen; omega
          case d3 => omega
          case d4 => have := Hb.out.size; have := HS2.out; omega
          intro v3 w3 hown3 hgrow3 hat3
          have HS3 := Lib.hid (show w2.heap.size ≤ w3.heap.size from hgrow3.size)
          have HL3 := Lib.hid (ownR_kept HL2.out hgrow3 (.inl (by simp [Value.ownBlock])))
          have HO3 := Lib.hid (ownR_kept HO2.out hgrow3 (by
            by_cases h : (Value.slice p2 (o.length + 1) c2).ownBlock = none
            · exact .inr h
            · exact .inl h))
          have HN3 := Lib.hid (show ∀ a, v3.ownBlock = some a → (Value.slice p2 (o.length + 1) c2).ownBlock ≠ some a by
            intro a ha h9
            rcases hat3 with h | ⟨h, _⟩
            · rw [h] at ha; cases ha
            · have h8 := h a ha
              have h7 := (ownR_lt HO2.out h9).2
              omega)
          have HN4 := Lib.hid (show ∀ a, v3.ownBlock = some a → w.heap.size ≤ a from fun a ha => (ownR_lt hown3 ha).1)
          have Hb3 := Lib.hid (Hb2.out.grown hgrow3 (by have := Hb.out.size; have := HS2.out; omega) (fun a ha => by cases ha))
          have HR3 := Lib.hid hown3
          obtain ⟨p3, c3, rfl⟩ := ownR_slice hown3
          clear hown3 hgrow3 hat3
          have HFIN := Lib.hid (show ∀ v4 w4, w4.ownsRow w.heap.size 41 3 v4 (kk + (l.length - (kk + 1))) (ruVs (l.take kk) ++ ruVs (l.drop (kk + 1))) → w3.grownBy w4 (Value.slice p3 kk c3).ownBlock →
              (v4.ownBlock = (Value.slice p3 kk c3).ownBlock ∨ ((∀ g, v4.ownBlock = some g → w3.heap.size ≤ g) ∧ ∀ k, k < w3.heap.size → w4.heap[k]? = w3.heap[k]?)) → ShS xs w (k + 1) v4 (.slice p2 (o.length + 1) c2) w4 by
            intro v4 w4 h1 h2 h3
            have hle : (l.take kk ++ l.drop (kk + 1)).length = kk + (l.length - (kk + 1)) := by rw [List.length_append, List.length_take, List.length_drop]; omega
            refine ⟨Hb3.out.grown h2 (by have := Hb.out.size; have := HS2.out; have := HS3.out; omega) HN4.out, l.take kk ++ l.drop (kk + 1), o ++ [x], HPP.out, by omega, by rw [hle, ruVs_app]; exact h1, ?_, ?_⟩
            · refine ownR_kept HO3.out h2 ?_
              by_cases h : (Value.slice p2 (o.length + 1) c2).ownBlock = none
              · exact .inr h
              · refine .inl fun h9 => ?_
                obtain ⟨a, ha⟩ := Option.ne_none_iff_exists'.1 h
                rw [ha] at h9
                exact HN3.out a h9.symm ha
            · intro a ha h9
              rcases h3 with h4 | ⟨h4, _⟩
              · rw [h4] at ha
                exact HN3.out a ha h9
              · have h8 := h4 a ha
                have h7 := (ownR_lt HO3.out h9).2
                omega)
          by_cases hce : cl = kk + 1
          · have HM0 := Lib.hid (show ([] : List Value).length = (l.length - (kk + 1)) * 3 by rw [show l.length - (kk + 1) = 0 by omega]; rfl)
            go_wp2_with (at_builtin; (refine wpOwnR rfl _ _ 22 rfl w.heap.size 41 i0 _ 3 64 Tryz.underlying22 HI.out HZ0.out HZ1.out HZ2.out rfl (by decide) _ _ _ rfl HR3.out ⟨g, 0, none⟩ (l.length - (kk + 1)) 0 [] rfl HM0.out (fun j u hu => by simp at hu) (fun u hu => by simp at hu) ?e2 ?e3 ?e4 ?_))
            case e2 => unfold maxLen; omega
            case e3 => omega
            case e4 => have := Hb.out.size; have := HS2.out; have := HS3.out; omega
            intro v4 w4 hown4 hgrow4 hat4
            have HF := Lib.hid (HFIN.out v4 w4 (by
              have h9 : l.drop (kk + 1) = [] := List.drop_eq_nil_of_le (by omega)
              have h8 : ruVs (l.take kk) ++ ruVs ([] : List (Ru d)) = ruVs (l.take kk) := List.append_nil _
              rw [h9, h8]
              exact hown4) hgrow4 hat4)
            clear hown4 hgrow4 hat4
            go_wp2_with fail
            go_roundw
            case rel => exact ⟨k + 1, by go_num, HF.out⟩
            case measure => simp [intOf]; omega
          · have HD := Lib.hid (ru_drop HL3.out (kk + 1) (by omega))
            go_wp2_with (at_builtin; (refine wpOwnR rfl _ _ 22 rfl w.heap.size 41 i0 _ 3 64 Tryz.underlying22 HI.out HZ0.out HZ1.out HZ2.out rfl (by decide) _ _ _ rfl HR3.out ⟨g, (kk + 1) * 3, none⟩ (l.length - (kk + 1)) (cl - (kk + 1)) (ruVs (l.drop (kk + 1))) rfl (by rw [ruVs_len, List.length_drop]) HD.out (ruVs_one _) ?e2 ?e3 ?e4 ?_))
            case e2 => unfold maxLen; omega
            case e3 => omega
            case e4 => have := Hb.out.size; have := HS2.out; have := HS3.out; omega
            intro v4 w4 hown4 hgrow4 hat4
            have HF := Lib.hid (HFIN.out v4 w4 hown4 hgrow4 hat4)
            clear hown4 hgrow4 hat4
            go_wp2_with fail
            go_roundw
            case rel => exact ⟨k + 1, by go_num, HF.out⟩
            case measure => simp [intOf]; omega
      · have hl1 : l.length = 0 := by omega
        have hl2 : l = [] := List.eq_nil_of_length_eq_zero hl1
        subst hl2
        have HPE2 := Lib.hid (show o.Perm xs by have := HPE.out; rwa [List.append_nil] at this)
        go_wp2_with fail
        go_ret
        exact ⟨po, co, o, rfl, HPE2.out, HRO.out, Hb.out⟩
end Go.Proofs.YtafjjececdhmjaaGreat
