/- The reference's In, vars, RuleVars, argument. Conditions: the rule lies in memory as it is told; at most 10000 terms. -/
import Derived.Test.YtdgbenadoaecoaaGreatDoorS12
namespace Go.Proofs.YtdgbenadoaecoaaGreatDoor
open Go.RowKit

def inB (l : List (List UInt8)) (s : ByteArray) : Bool := l.contains (bl s)
set_option maxHeartbeats 2000000 in
set_option maxRecDepth 100000 in
theorem rIn (s : ByteArray) (l : List (List UInt8)) (p : Option Addr) (c : Nat) (w : World) (hp : StrsAt w p l) (hn : l.length ≤ 10000) :
    Calls Tryz.prog 125 #[.string s, .slice p l.length c] w fun e w' => e = .returned (.bool (inB l s)) ∧ w = w' := by
  have HP := Lib.hid hp; clear hp
  go_enter Tryz.func125, Tryz.ntmps125
  go_wp2_with fail
  go_loop [5] (fun i => ∃ k : Nat, k ≤ l.length ∧ i = .int .i64 k ∧ (l.take k).contains (bl s) = false) (fun i => l.length - (intOf i).toNat)
  case atStart => exact ⟨0, by omega, rfl, by simp⟩
  case round =>
    obtain ⟨k, hk, rfl, hno⟩ := hrel
    have HNO := Lib.hid hno; clear hno
    by_cases hlt : k < l.length
    · rcases HP.out with h0 | ⟨a, o, rfl, hc⟩
      · omega
      · have hck := hc k hlt
        clear hc
        have hk0 : (0 : Int) ≤ (k : Int) := by omega
        have hki : (k : Int) < (l.length : Int) := by omega
        by_cases he : l[k] = bl s
        · have HE := Lib.hid (show inB l s = true by rw [inB]; rw [List.contains_iff_mem]; exact he ▸ List.getElem_mem hlt)
          rw [he, str_eta] at hck
          clear he
          go_wp2_with fail
          go_ret
          exact ⟨by rw [HE.out]; rfl, rfl⟩
        · have HE := Lib.hid (show (l.take (k + 1)).contains (bl s) = false by
            rw [List.take_succ_eq_append_getElem hlt]
            rw [← Bool.not_eq_true, List.contains_iff_mem, List.mem_append]
            rintro (h9 | h9)
            · have := HNO.out
              rw [← Bool.not_eq_true, List.contains_iff_mem] at this
              exact this h9
            · exact he (Eq.symm (by simpa using h9)))
          have q : ((⟨l[k].toArray⟩ : ByteArray).toList == s.toList) = false := by
            refine beq_eq_false_iff_ne.2 fun h9 => he ?_
            rw [ByteArray.toList_eq, ByteArray.toList_eq] at h9
            simpa [bl] using h9
          obtain ⟨X, hX⟩ : ∃ X, X = (⟨l[k].toArray⟩ : ByteArray) := ⟨_, rfl⟩
          rw [← hX] at hck q
          clear hX he
          go_wp2_with fail
          go_round
          case rel => exact ⟨k + 1, by omega, by go_num, HE.out⟩
          case measure => simp [intOf]; omega
    · obtain rfl : k = l.length := by omega
      have HE := Lib.hid (show inB l s = false by rw [inB]; have h9 := HNO.out; rwa [List.take_of_length_le (Nat.le_refl _)] at h9)
      go_wp2_with fail
      go_ret
      exact ⟨by rw [HE.out]; rfl, rfl⟩
theorem tmsC_len (l : List Tm) : (tmsC l).length = l.length * 4 := by
  induction l with
  | nil => rfl
  | cons x r ih =>
    have e : tmsC (x :: r) = x.cells ++ tmsC r := rfl
    rw [e, List.length_append, ih]
    simp [Tm.cells, Vl.cells]
    omega
theorem tmsC_at : ∀ (l : List Tm) (i : Nat) (h : i < l.length) (q : Nat), q < 4 → (tmsC l)[i * 4 + q]? = l[i].cells[q]?
  | x :: r, 0, _, q, hq => by
    have e : tmsC (x :: r) = x.cells ++ tmsC r := rfl
    rw [e, List.getElem?_append_left (by simp [Tm.cells, Vl.cells]; omega)]
    simp
  | x :: r, i + 1, h, q, hq => by
    have e : tmsC (x :: r) = x.cells ++ tmsC r := rfl
    rw [e, List.getElem?_append_right (by simp [Tm.cells, Vl.cells]; omega)]
    have e2 : (i + 1) * 4 + q - x.cells.length = i * 4 + q := by simp [Tm.cells, Vl.cells]; omega
    rw [e2]
    exact tmsC_at r i (by simpa using h) q hq
theorem row_sl {w : World} {B : Nat} {v : Value} {l : List Tm} (h : w.ownsRowF B 56 4 v l.length (tmsC l)) (hn : l.length ≤ 10000) : TmSl w v l := by
  have hc := fun g hg => h.cells (g := g) hg
  rcases h.2 with ⟨hv, h0⟩ | ⟨g, cap, cur, fz, hv, _, hg, _⟩
  · exact ⟨none, 0, by rw [hv, h0], by unfold maxLen; omega, .inl h0⟩
  · refine ⟨some ⟨g, 0, none⟩, cap, hv, by unfold maxLen; omega, .inr ⟨g, 0, rfl, (Array.getElem?_eq_some_iff.1 hg).1, fun i hi => ?_⟩⟩
    have hq : ∀ q, q < 4 → ∀ u, l[i].cells[q]? = some u → w.cell? ⟨g, 0 + i * 4 + q, none⟩ = some u := fun q hq u hu => by
      have h1 := hc g (by rw [hv]; rfl) (i * 4 + q) u (by rw [tmsC_at l i hi q hq]; exact hu)
      have h3 : (⟨g, 0, none⟩ : Addr).add (i * 4 + q) = ⟨g, i * 4 + q, none⟩ := by unfold Addr.add; split <;> simp_all
      rw [h3] at h1
      rw [Nat.zero_add]
      exact h1
    exact ⟨hq 0 (by omega) _ rfl, hq 1 (by omega) _ rfl, hq 2 (by omega) _ rfl, hq 3 (by omega) _ rfl⟩
theorem new_s1 (w : World) (v : ByteArray) : ∀ j u, [Value.string v][j]? = some u → (w.alloc (.cells #[.string v] 9)).cell? ((⟨w.heap.size, 0, none⟩ : Addr).add j) = some u := new_tm w [.string v] _
set_option maxHeartbeats 4000000 in
set_option maxRecDepth 100000 in
theorem rVars (ts : List Tm) (p : Option Addr) (c : Nat) (w : World) (hts : TmSl w (.slice p ts.length c) ts) (hn : ts.length ≤ 10000) :
    Calls Tryz.prog 100 #[.slice p ts.length c] w (RvPost (varsL ts).length w) := by
  obtain ⟨p', c', hv, hm, hat⟩ := hts
  obtain ⟨rfl, rfl⟩ : p = p' ∧ c = c' := by simpa using hv
  clear hv hm
  have HAT := Lib.hid hat; clear hat
  obtain ⟨i0, hi, hzz⟩ := Option.map_eq_some_iff.1 infoStr
  simp only [Prod.mk.injEq] at hzz
  obtain ⟨hz0, hz1, hz2⟩ := hzz
  have HI := Lib.hid hi; clear hi
  have HZ0 := Lib.hid hz0; clear hz0
  have HZ1 := Lib.hid hz1; clear hz1
  have HZ2 := Lib.hid hz2; clear hz2
  obtain ⟨n, hnn⟩ : ∃ n, n = (varsL ts).length := ⟨_, rfl⟩
  rw [← hnn]
  have HNN := Lib.hid hnn; clear hnn
  go_enter Tryz.func100, Tryz.ntmps100
  go_wp2_with fail
  go_loopw [3, 4, 5] (fun v i _ wr => ∃ (k : Nat) (acc : List (List UInt8)), k ≤ ts.length ∧ i = .int .i64 k ∧ acc = (ts.take k).foldl addV [] ∧ wr.ownsRowF w.heap.size 9 1 v acc.length (strVs acc) ∧ Below w.heap.size w wr) (fun _ i _ _ => ts.length - (intOf i).toNat)
  case atStart => exact ⟨0, [], by omega, rfl, rfl, World.ownsRowF_nil _ _ _ _, Below.refl _ _⟩
  case round =>
    obtain ⟨k, acc, hk, rfl, hacc, hrow, hb⟩ := hrel
    rename World => wr
    have hal : acc.length ≤ 10000 := by
      have h1 := (foldV_len (ts.take k) []).2
      rw [← hacc, List.length_take] at h1
      simp at h1
      omega
    have HACC := Lib.hid hacc; clear hacc
    obtain ⟨pr, cr, rfl, hst⟩ := own_strs hrow rfl
    have HRW := Lib.hid hrow; clear hrow
    have HST := Lib.hid hst; clear hst
    have Hb := Lib.hid hb; clear hb
    have hsz := Hb.out.size
    by_cases hlt : k < ts.length
    · rcases HAT.out with h0 | ⟨a2, o2, rfl, hta⟩
      · omega
      · have c0 := ((hta.at_ k hlt).up Hb.out hta.lt).c0
        clear hta
        have hst := take_add ts [] k hlt
        rw [← HACC.out] at hst
        obtain ⟨t, ht⟩ : ∃ t, t = ts[k] := ⟨_, rfl⟩
        rw [← ht] at c0 hst
        clear ht
        obtain ⟨v, tx⟩ := t
        simp only at c0
        have HSTP := Lib.hid hst; clear hst
        have hk0 : (0 : Int) ≤ (k : Int) := by omega
        have hki : (k : Int) < (ts.length : Int) := by omega
        by_cases h0 : v.toList.isEmpty = true
        · have HA := Lib.hid (show addV acc ⟨v, tx⟩ = acc by unfold addV; rw [if_neg]; simp [newV, bl, ← ByteArray.toList_eq, h0])
          go_wp2_with fail
          go_roundw
          case rel => exact ⟨k + 1, acc, by omega, by go_num, by rw [HSTP.out, HA.out], HRW.out, Hb.out⟩
          case measure => simp [intOf]; omega
        · have h0' : v.toList.isEmpty = false := by simpa using h0
          clear h0
          by_cases h95 : v.toList = [95]
          · have q95 : (v.toList == [95]) = true := by simp [h95]
            have HA := Lib.hid (show addV acc ⟨v, tx⟩ = acc by unfold addV; rw [if_neg]; simp [newV, bl, ← ByteArray.toList_eq, h95])
            clear h95
            go_wp2_with fail
            go_roundw
            case rel => exact ⟨k + 1, acc, by omega, by go_num, by rw [HSTP.out, HA.out], HRW.out, Hb.out⟩
            case measure => simp [intOf]; omega
          · have q95 : (v.toList == [95]) = false := by simpa using h95
            rcases hq : acc.contains (bl v) with _ | _
            · have HA := Lib.hid (show addV acc ⟨v, tx⟩ = acc ++ [bl v] by unfold addV; rw [if_pos]; simp only [newV, hq]; simp [bl, ← ByteArray.toList_eq, h95]; simpa using h0')
              have HQ := Lib.hid (show inB acc v = _ from hq); clear hq h95
              go_wp2_with fail
              refine (rIn v acc pr cr _ HST.out hal).mono ?_
              rintro e w1 ⟨rfl, rfl⟩
              rw [HQ.out]
              go_wp2_with (at_builtin; refine wpApp_row rfl _ _ 88 rfl w.heap.size 9 i0 _ 1 16 Tryz.underlying88 HI.out HZ0.out HZ1.out HZ2.out rfl (by decide) _ _ _ rfl (HRW.out.alloc _) ⟨wr.heap.size, 0, none⟩ 1 1 [.string v] rfl rfl (new_s1 wr v) ?c1 ?c2 ?c3 ?c4 ?_)
              case c1 => exact one_str v
              case c2 => unfold maxLen; omega
              case c3 => omega
              case c4 => first | omega | (simp; omega)
              intro v1 w2 hown hgrow _ hpl
              have HB2 := Lib.hid ((Hb.out.alloc hsz _).grown hgrow (by simp; omega) (fun g hg => (HRW.out.lt g hg).1))
              have HO2 := Lib.hid (show w2.ownsRowF w.heap.size 9 1 v1 (acc ++ [bl v]).length (strVs (acc ++ [bl v])) by
                have e : strVs (acc ++ [bl v]) = strVs acc ++ [.string v] := by simp [strVs]
                rw [e]
                simpa using hown)
              clear hown hgrow hpl c0
              obtain ⟨A2, hA2⟩ : ∃ A2, A2 = acc ++ [bl v] := ⟨_, rfl⟩
              rw [← hA2] at HO2 HA
              clear hA2
              obtain ⟨p2, c2, rfl⟩ := own_slice1 HO2.out
              go_wp2_with fail
              go_roundw
              case rel => exact ⟨k + 1, A2, by omega, by go_num, by rw [HSTP.out, HA.out], HO2.out, HB2.out⟩
              case measure => simp [intOf]; omega
            · have HA := Lib.hid (show addV acc ⟨v, tx⟩ = acc by unfold addV; rw [if_neg]; simp only [newV, hq]; simp)
              have HQ := Lib.hid (show inB acc v = _ from hq); clear hq h95
              go_wp2_with fail
              refine (rIn v acc pr cr _ HST.out hal).mono ?_
              rintro e w1 ⟨rfl, rfl⟩
              rw [HQ.out]
              go_wp2_with fail
              go_roundw
              case rel => exact ⟨k + 1, acc, by omega, by go_num, by rw [HSTP.out, HA.out], HRW.out, Hb.out⟩
              case measure => simp [intOf]; omega
    · obtain rfl : k = ts.length := by omega
      have HF := Lib.hid (show n = acc.length by rw [HNN.out, varsL, HACC.out, List.take_of_length_le (Nat.le_refl _)])
      go_wp2_with fail
      go_ret
      exact ⟨pr, cr, by rw [HF.out]; rfl, Hb.out⟩
end Go.Proofs.YtdgbenadoaecoaaGreatDoor
