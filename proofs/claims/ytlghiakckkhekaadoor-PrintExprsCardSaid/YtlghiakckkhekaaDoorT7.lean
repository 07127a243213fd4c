/- The contract of ExprParts. Conditions: the expression lies in memory as it is told; the number that it counts up to is at most 2^20. -/
import Derived.Test.YtlghiakckkhekaaDoorT2
namespace Go.Proofs.YtlghiakckkhekaaDoor
open Go.RowKit

/-- An expression's six cells. -/
def exCells (d : Nat) (e : Ex d) : List Value := [.int .i8 (exOp d e), .string (exTm d e).v, .int .i8 (exTm d e).x.k, .int .i64 (exTm d e).x.n, .string (exTm d e).x.t, exSl d e]
theorem exCells_len (d : Nat) (l : List (Ex d)) : (l.flatMap (exCells d)).length = l.length * 6 := by
  induction l with
  | nil => rfl
  | cons x r ih => simp [List.flatMap_cons, exCells, ih]; omega
theorem exCells_at (d : Nat) : ∀ (l : List (Ex d)) (i : Nat) (h : i < l.length) (q : Nat), q < 6 → (l.flatMap (exCells d))[i * 6 + q]? = (exCells d l[i])[q]?
  | x :: r, 0, h, q, hq => by
    rw [List.flatMap_cons, List.getElem?_append_left (by simp [exCells]; omega)]
    simp
  | x :: r, i + 1, h, q, hq => by
    rw [List.flatMap_cons, List.getElem?_append_right (by simp [exCells]; omega)]
    have h1 : (i + 1) * 6 + q - (exCells d x).length = i * 6 + q := by simp [exCells]; omega
    rw [h1, exCells_at d r i (by simp at h; omega) q hq]
    simp
/-- A row of expressions that a call owns, as a list's slice. -/
theorem own_ksl {w : World} {B d : Nat} {v : Value} {l : List (Ex d)} (h : w.ownsRowF B 36 6 v l.length (l.flatMap (exCells d))) (hk : ∀ k ∈ l, ExAt w d k) : ∃ p cap, v = .slice p l.length cap ∧ KSl w d p l := by
  rcases h.2 with ⟨hv, hn⟩ | ⟨g, cap, cur, fz, hv, _, hg, _, _, _, hcs, htake⟩
  · exact ⟨none, 0, by rw [hv, hn], .inl hn, hk⟩
  · refine ⟨_, cap, hv, .inr ⟨g, 0, rfl, (Array.getElem?_eq_some_iff.1 hg).1, fun i hi => ?_⟩, hk⟩
    have hc : ∀ q, q < 6 → cur[i * 6 + q]? = (exCells d l[i])[q]? := by
      intro q hq
      rw [← exCells_at d l i hi q hq, ← htake, List.getElem?_take_of_lt (by omega), Array.getElem?_toList]
    rw [Nat.zero_add]
    have e (q : Nat) (hq : q < 6) : w.cell? ⟨g, i * 6 + q, none⟩ = (exCells d l[i])[q]? := by
      rw [Lib.cell_of_heap hg]; exact hc q hq
    exact ⟨e 0 (by omega), e 1 (by omega), e 2 (by omega), e 3 (by omega), e 4 (by omega), e 5 (by omega)⟩
theorem own_slice {w : World} {B n : Nat} {v : Value} {xs : List Value} (h : w.ownsRowF B 36 6 v n xs) : ∃ p cap, v = .slice p n cap := by
  rcases h.2 with ⟨hv, hn⟩ | ⟨g, cap, cur, fz, hv, _⟩
  · exact ⟨none, 0, by rw [hv, hn]⟩
  · exact ⟨_, cap, hv⟩
theorem own_next {w : World} {B d : Nat} {v : Value} {N ks : List (Ex d)} {m : Nat} {news : List Value} (hm : m < ks.length) (hn : exCells d ks[m] = news) (h : w.ownsRowF B 36 6 v (N.length + m + 1) (N.flatMap (exCells d) ++ ((ks.take m).flatMap (exCells d) ++ news))) :
    w.ownsRowF B 36 6 v (N.length + (m + 1)) ((N ++ ks.take (m + 1)).flatMap (exCells d)) := by
  rw [← List.take_append_getElem hm, List.flatMap_append, List.flatMap_append, List.flatMap_cons, List.flatMap_nil, List.append_nil, hn]
  exact h
theorem KSl.up {w w' : World} {d : Nat} {p : Option Addr} {ks : List (Ex d)} (h : KSl w d p ks) (hb : Below w.heap.size w w') : KSl w' d p ks :=
  ⟨h.1.imp id fun ⟨a, o, hp, ha, hc⟩ => ⟨a, o, hp, Nat.lt_of_lt_of_le ha hb.size, fun i hi => (hc i hi).up hb ha⟩, fun k hk => ExAt.up hb d k (h.2 k hk)⟩
theorem exCells_one {d : Nat} {e : Ex d} {p : Option Addr} {l c : Nat} (h : exSl d e = .slice p l c) : ∀ u ∈ exCells d e, u.oneCell' = true := by
  intro u hu
  simp only [exCells, h, List.mem_cons, List.not_mem_nil, or_false] at hu
  rcases hu with rfl | rfl | rfl | rfl | rfl | rfl <;> rfl
/-- A count, up to a number. -/
def PartsPost (left : Int) (w : World) (r : Ending) (w' : World) : Prop := ∃ n : Int, r = .returned (.int .i64 n) ∧ 0 ≤ n ∧ n ≤ left + 1 ∧ Below w.heap.size w w'
/-- At the head of the rounds over the levels. -/
def LvRel (left : Int) (W : World) (n lv dp : Value) (wr : World) : Prop :=
  ∃ (dd : Nat) (L : List (Ex dd)) (x : Int) (k : Nat) (p : Option Addr) (cap : Nat), n = .int .i64 x ∧ 0 ≤ x ∧ x ≤ left ∧ lv = .slice p L.length cap ∧ L.length ≤ 1048576 ∧ dp = .int .i64 k ∧ k ≤ 65537 ∧ KSl wr dd p L ∧ (∀ y ∈ L, ExB dd y) ∧ Below W.heap.size W wr
/-- At the head of the rounds over a level. -/
def MidRel (left : Int) (d : Nat) (L : List (Ex (d + 1))) (x : Int) (w0 : World) (nx i : Value) (wm : World) : Prop :=
  ∃ (j : Nat) (N : List (Ex d)), i = .int .i64 j ∧ j ≤ L.length ∧ wm.ownsRowF w0.heap.size 36 6 nx N.length (N.flatMap (exCells d)) ∧ x + N.length ≤ left ∧ (∀ k ∈ N, ExAt w0 d k) ∧ (∀ k ∈ N, ExB d k) ∧ Below w0.heap.size w0 wm
/-- At the head of the rounds over an expression's kids. -/
def InRel (d : Nat) (N ks : List (Ex d)) (w0 : World) (nx k : Value) (wi : World) : Prop :=
  ∃ m : Nat, k = .int .i64 m ∧ m ≤ ks.length ∧ wi.ownsRowF w0.heap.size 36 6 nx (N.length + m) ((N ++ ks.take m).flatMap (exCells d)) ∧ Below w0.heap.size w0 wi
set_option maxHeartbeats 8000000 in
theorem parts (d : Nat) (e : Ex d) (left : Int) (w : World) (he : ExAt w d e) (heb : ExB d e) (hl0 : 0 ≤ left) (hl1 : left ≤ 1048576) :
    Calls Tryd.prog 32 #[.agg #[.int .i8 (exOp d e), .string (exTm d e).v, .int .i8 (exTm d e).x.k, .int .i64 (exTm d e).x.n, .string (exTm d e).x.t, exSl d e], .int .i64 left] w (PartsPost left w) := by
  obtain ⟨i0, hi, hzz⟩ := Option.map_eq_some_iff.1 infoEx
  simp only [Prod.mk.injEq] at hzz
  obtain ⟨hz0, hz1, hz2⟩ := hzz
  have HI := Lib.hid hi; clear hi
  have HZ0 := Lib.hid hz0; clear hz0
  have HZ1 := Lib.hid hz1; clear hz1
  have HZ2 := Lib.hid hz2; clear hz2
  obtain ⟨p, l, cp, hsl⟩ := ex_sl he
  have HE := Lib.hid he; clear he
  have HEB := Lib.hid heb; clear heb
  rw [hsl]
  have HSL := Lib.hid hsl; clear hsl
  obtain ⟨W, hW⟩ : ∃ W, W = (w.alloc (.cells #[.int .i8 (exOp d e), .string (exTm d e).v, .int .i8 (exTm d e).x.k, .int .i64 (exTm d e).x.n, .string (exTm d e).x.t, .slice p l cp] 36)).alloc (.cells #[.int .i8 (exOp d e), .string (exTm d e).v, .int .i8 (exTm d e).x.k, .int .i64 (exTm d e).x.n, .string (exTm d e).x.t, .slice p l cp] 36) := ⟨_, rfl⟩
  have HBW := Lib.hid (show Below w.heap.size w W by rw [hW]; exact (below_alloc _ _).trans ((below_alloc _ _).mono (by simp)))
  have hsW : W.heap.size = w.heap.size + 1 + 1 := by rw [hW]; simp
  have HBX := Lib.hid (show W.heap[w.heap.size + 1]? = some (.cells #[.int .i8 (exOp d e), .string (exTm d e).v, .int .i8 (exTm d e).x.k, .int .i64 (exTm d e).x.n, .string (exTm d e).x.t, .slice p l cp] 36 (0, 0)) by rw [hW]; simpa using heap_alloc_new (w.alloc _) _)
  go_enter Tryd.func32, Tryd.ntmps32
  go_wp2_with fail
  rw [← hW]
  clear hW
  go_loopw [5, 6, 7] (fun n lv dp wr => LvRel left W n lv dp wr) (fun _ _ dp _ => 65538 - (intOf dp).toNat)
  case atStart =>
    refine ⟨d, [e], 0, 0, some ⟨w.heap.size + 1, 0, none⟩, 1, rfl, by omega, by omega, rfl, by simp, rfl, by omega, ⟨.inr ⟨w.heap.size + 1, 0, rfl, by omega, fun i h => ?_⟩, fun k hk => ?_⟩, fun y hy => ?_, Below.refl _ _⟩
    · obtain rfl : i = 0 := by simp at h; omega
      obtain ⟨a0, a1, a2, a3, a4, a5⟩ := six HBX.out
      exact ⟨a0, a1, a2, a3, a4, by show W.cell? ⟨w.heap.size + 1, 5, none⟩ = some (exSl d e); rw [HSL.out]; exact a5⟩
    · obtain rfl := List.mem_singleton.1 hk
      exact ExAt.up HBW.out d _ HE.out
    · obtain rfl := List.mem_singleton.1 hy
      exact HEB.out
  case round =>
    obtain ⟨dd, L, x, k, p', cap', rfl, hx0, hx1, rfl, hL, rfl, hk, hks, hlb, hbe⟩ := hrel
    obtain ⟨w0, hw0⟩ : ∃ w0, w0 = wr := ⟨_, rfl⟩
    subst hw0
    have HLB := Lib.hid hlb; clear hlb
    have HKS := Lib.hid hks; clear hks
    have HBE := Lib.hid hbe; clear hbe
    by_cases hL0 : L.length = 0
    · have qL : decide (0 < L.length) = false := decide_eq_false (by omega)
      go_wp2_with fail
      go_ret
      exact ⟨x, rfl, hx0, by omega, HBW.out.trans (HBE.out.mono (by omega))⟩
    · cases dd with
      | zero =>
        cases L with
        | nil => exact absurd rfl hL0
        | cons y _ => exact nomatch y
      | succ d1 =>
        have qL : decide (0 < L.length) = true := decide_eq_true (by omega)
        by_cases h1 : left < x + L.length
        · have q1 : decide (left < x + (L.length : Int)) = true := decide_eq_true h1
          go_wp2_with fail
          go_ret
          exact ⟨left + 1, rfl, by omega, by omega, HBW.out.trans (HBE.out.mono (by omega))⟩
        · have q1 : decide (left < x + (L.length : Int)) = false := decide_eq_false h1
          by_cases h2 : 65536 < k
          · have q2 : decide ((65536 : Int) < (k : Int)) = true := decide_eq_true (by omega)
            go_wp2_with fail
            go_ret
            exact ⟨left + 1, rfl, by omega, by omega, HBW.out.trans (HBE.out.mono (by omega))⟩
          · have q2 : decide ((65536 : Int) < (k : Int)) = false := decide_eq_false (by omega)
            have hk' : k ≤ 65536 := by omega
            have hx' : x + (L.length : Int) ≤ left := by omega
            go_wp2_with fail
            go_loopw [8, 9] (fun nx i wm => MidRel left d1 L (x + L.length) w0 nx i wm) (fun _ i _ => L.length - (intOf i).toNat)
            case atStart => exact ⟨0, [], rfl, by omega, ⟨rfl, .inl ⟨rfl, rfl⟩⟩, by simpa using hx', fun k hk => by simp at hk, fun k hk => by simp at hk, Below.refl _ _⟩
            case round =>
              obtain ⟨j, N, rfl, hj, hown, hnl, hN, hNB, hb⟩ := hrel
              have HN := Lib.hid hN; clear hN
              have HNB := Lib.hid hNB; clear hNB
              have HB := Lib.hid hb; clear hb
              obtain ⟨pn, cn, rfl⟩ := own_slice hown
              have HO := Lib.hid hown; clear hown
              by_cases hlt : j < L.length
              · rcases HKS.out.1 with h0 | ⟨a, o, hp, ha, hc⟩
                · omega
                subst hp
                have c5 := (hc j hlt).c5
                clear hc
                have hej := HKS.out.2 L[j] (List.getElem_mem hlt)
                have hbj := HLB.out L[j] (List.getElem_mem hlt)
                obtain ⟨y, hy⟩ : ∃ y, y = L[j] := ⟨_, rfl⟩
                rw [← hy] at c5 hej hbj
                clear hy
                obtain ⟨op, tm, sl, ks⟩ := y
                obtain ⟨pk, ck, hsk, hmk, hsk2, hkk⟩ := hej
                obtain ⟨hbk, hbkk⟩ := hbj
                have hsk' : sl = .slice pk ks.length ck := hsk
                subst hsk'
                have HC5 := Lib.hid (show w0.cell? ⟨a, o + j * 6 + 5, none⟩ = some (.slice pk ks.length ck) from c5)
                have c5' := (HB.out.cell (p := ⟨a, o + j * 6 + 5, none⟩) ha).trans HC5.out
                have hb41 : ks.length ≤ 2199023255552 := hbk
                have HKK := Lib.hid (show KSl w0 d1 pk ks from ⟨hsk2, hkk⟩)
                have HBK := Lib.hid hbkk
                clear c5 hsk hmk hsk2 hkk hbk hbkk
                by_cases h3 : left < x + (L.length : Int) + (N.length : Int) + (ks.length : Int)
                · have q3 : decide (left < x + (L.length : Int) + (N.length : Int) + (ks.length : Int)) = true := decide_eq_true h3
                  go_wp2_with fail
                  go_ret
                  exact ⟨left + 1, rfl, by omega, by omega, HBW.out.trans ((HBE.out.trans (HB.out.mono HBE.out.size)).mono (by omega))⟩
                · have q3 : decide (left < x + (L.length : Int) + (N.length : Int) + (ks.length : Int)) = false := decide_eq_false h3
                  go_wp2_with fail
                  clear c5'
                  go_loopw [8, 10] (fun nx q wi => InRel d1 N ks w0 nx q wi) (fun _ q _ => ks.length - (intOf q).toNat)
                  case atStart => exact ⟨0, rfl, by omega, by simpa using HO.out, HB.out⟩
                  case round =>
                    obtain ⟨m, rfl, hm, hown, hb⟩ := hrel
                    have HB2 := Lib.hid hb; clear hb
                    have hsz2 := HB2.out.size
                    obtain ⟨pn2, cn2, rfl⟩ := own_slice hown
                    have HO2 := Lib.hid hown; clear hown
                    have c5' := (HB2.out.cell (p := ⟨a, o + j * 6 + 5, none⟩) ha).trans HC5.out
                    by_cases hm2 : m < ks.length
                    · rcases HKK.out.1 with h0 | ⟨b, o2, hp2, hb2, hc2⟩
                      · omega
                      subst hp2
                      have hck := (hc2 m hm2).up HB2.out hb2
                      clear hc2
                      have hez := HKK.out.2 ks[m] (List.getElem_mem hm2)
                      obtain ⟨z, hz⟩ : ∃ z, z = ks[m] := ⟨_, rfl⟩
                      rw [← hz] at hck hez
                      have HZ := Lib.hid hz; clear hz
                      obtain ⟨pz, lz, cz, hsz⟩ := ex_sl hez
                      obtain ⟨k0, k1, k2, k3, k4, k5⟩ := hck
                      rw [hsz] at k5
                      have HSZ := Lib.hid hsz; clear hsz hez
                      go_wp2_with (at_builtin; refine wpApp_row rfl _ _ 34 rfl w0.heap.size 36 i0 _ 6 80 Tryd.underlying34 HI.out HZ0.out HZ1.out HZ2.out rfl (by decide) _ _ _ rfl (HO2.out.alloc _) ⟨wr.heap.size, 0, none⟩ 1 1 [.int .i8 (exOp d1 z), .string (exTm d1 z).v, .int .i8 (exTm d1 z).x.k, .int .i64 (exTm d1 z).x.n, .string (exTm d1 z).x.t, .slice pz lz cz] rfl rfl (new_cells wr [.int .i8 (exOp d1 z), .string (exTm d1 z).v, .int .i8 (exTm d1 z).x.k, .int .i64 (exTm d1 z).x.n, .string (exTm d1 z).x.t, .slice pz lz cz] 36) ?c1 ?c2 ?c3 ?c4 ?_)
                      case c1 =>
                        have h1 := exCells_one HSZ.out
                        rw [exCells, HSZ.out] at h1
                        exact h1
                      case c2 => unfold maxLen; omega
                      case c3 => omega
                      case c4 => simp; omega
                      intro v' w1 hown' hgrow _ _
                      have HO' := Lib.hid hown'; clear hown'
                      have HG := Lib.hid hgrow; clear hgrow
                      clear k0 k1 k2 k3 k4 k5 c5'
                      go_wp2_with fail
                      exact ⟨⟨m + 1, rfl, by omega, own_next hm2 (by rw [exCells, ← HZ.out, HSZ.out]) HO'.out, (HB2.out.alloc hsz2 _).grown HG.out (by simp; omega) (fun g hg => (HO2.out.lt g hg).1)⟩, by simp [intOf]; omega⟩
                    · obtain rfl : m = ks.length := by omega
                      go_wp2_with fail
                      refine ⟨⟨j + 1, N ++ ks, rfl, by omega, ?_, by rw [List.length_append]; omega, fun k hk => ?_, fun k hk => ?_, HB2.out⟩, by simp [intOf]; omega⟩
                      · have h := HO2.out
                        rw [List.take_length] at h
                        rw [List.length_append]
                        exact h
                      · rcases List.mem_append.1 hk with h | h
                        · exact HN.out k h
                        · exact HKK.out.2 k h
                      · rcases List.mem_append.1 hk with h | h
                        · exact HNB.out k h
                        · exact HBK.out k h
              · obtain rfl : j = L.length := by omega
                go_wp2_with fail
                obtain ⟨p3, c3, hv3, hks3⟩ := own_ksl HO.out (fun k hk => ExAt.up HB.out d1 k (HN.out k hk))
                obtain ⟨rfl, _, rfl⟩ := by simpa using hv3
                refine ⟨⟨d1, N, x + L.length, k + 1, pn, cn, rfl, by omega, by omega, rfl, by omega, rfl, by omega, hks3, HNB.out, HBE.out.trans (HB.out.mono HBE.out.size)⟩, by simp [intOf]; omega⟩
end Go.Proofs.YtlghiakckkhekaaDoor
