/- The contract of term.CheckExpr. Conditions: the expression lies in memory as it is told; a text is no longer than the model lets any be. -/
import Derived.Test.YtlghiakckkhekaaDoorW19
import Derived.Deep.RegionWith
namespace Go.Proofs.YtlghiakckkhekaaDoor
open Go.RowKit

/-- An expression as a value. -/
def exVal (d : Nat) (e : Ex d) : Value := .agg #[.int .i8 (exOp d e), .string (exTm d e).v, .int .i8 (exTm d e).x.k, .int .i64 (exTm d e).x.n, .string (exTm d e).x.t, exSl d e]
/-- What deep is known to do at expressions of a depth up to d. -/
def DeepAt (d : Nat) : Prop := ∀ (e : Ex d) (n : Nat) (w : World), n ≤ 8 → ExAt w d e → ExR d e →
  Calls Tryd.prog 75 #[.agg #[.int .i8 (exOp d e), .string (exTm d e).v, .int .i8 (exTm d e).x.k, .int .i64 (exTm d e).x.n, .string (exTm d e).x.t, exSl d e], .int .i64 n] w fun r w' => r = .returned (.bool (exOk n d e)) ∧ Below w.heap.size w w'
def exBad (n d : Nat) (e : Ex d) : Bool := !exOk n d e
theorem deep1 (d : Nat) (ih : DeepAt d) (e : Ex d) (n c : Nat) (w : World) (hn : n + 1 ≤ 8) (he : ExAt w d e) (hr : ExR d e) (hc : w.cell? ⟨c, 0, none⟩ = some (.int .i64 (n + 1 : Nat))) :
    Calls Tryd.prog 112 #[.agg #[.int .i8 (exOp d e), .string (exTm d e).v, .int .i8 (exTm d e).x.k, .int .i64 (exTm d e).x.n, .string (exTm d e).x.t, exSl d e], .pointer (some ⟨c, 0, none⟩)] w fun r w' => r = .returned (.bool (exBad n d e)) ∧ Below w.heap.size w w' := by
  have HE := Lib.hid he; clear he
  have HR := Lib.hid hr; clear hr
  have IH := Lib.hid ih; clear ih
  have hcl : c < w.heap.size := by
    rcases Nat.lt_or_ge c w.heap.size with h | h
    · exact h
    · simp [World.cell?, Array.getElem?_eq_none h] at hc
  go_enter Tryd.func112, Tryd.ntmps112
  go_wp2_with fail
  refine (IH.out e n _ (by omega) (ExAt.up (below_alloc _ _) d e HE.out) HR.out).mono ?_
  rintro r w1 ⟨rfl, hb⟩
  have Hb := Lib.hid hb; clear hb
  go_wp2_with fail
  go_ret
  exact ⟨rfl, (below_alloc _ _).trans (Hb.out.mono (by simp))⟩
set_option maxHeartbeats 1000000 in
theorem idxKids (d : Nat) (ih : DeepAt d) (n c a o cap : Nat) (ks : List (Ex d)) (w : World) (hn : n + 1 ≤ 8) (hla : a < w.heap.size)
    (hts : ∀ i, (h : i < ks.length) → ExCell w a (o + i * 6) (exOp d ks[i]) (exTm d ks[i]) (exSl d ks[i])) (hat : ∀ k ∈ ks, ExAt w d k) (hr : ∀ k ∈ ks, ExR d k) (hm : ks.length ≤ maxLen)
    (hc : w.cell? ⟨c, 0, none⟩ = some (.int .i64 (n + 1 : Nat))) :
    Calls Tryd.prog 133 #[.slice (some ⟨a, o, none⟩) ks.length cap, .func (.func 112) #[] #[.pointer (some ⟨c, 0, none⟩)]] w (IdxPost (ks.any (exBad n d)) w) := by
  have HTS := Lib.hid hts; clear hts
  have HA := Lib.hid hat; clear hat
  have HR := Lib.hid hr; clear hr
  have IH := Lib.hid ih; clear ih
  have hcl : c < w.heap.size := by
    rcases Nat.lt_or_ge c w.heap.size with h | h
    · exact h
    · simp [World.cell?, Array.getElem?_eq_none h] at hc
  have HC := Lib.hid hc; clear hc
  unfold maxLen at hm
  go_enter Tryd.func133, Tryd.ntmps133
  go_wp2_with fail
  go_loopw [8] (fun i wr => ∃ k : Nat, k ≤ ks.length ∧ i = .int .i64 k ∧ (∀ j, (h : j < ks.length) → j < k → exBad n d ks[j] = false) ∧ Below w.heap.size w wr) (fun i _ => ks.length - (intOf i).toNat)
  case atStart => exact ⟨0, by omega, rfl, fun j _ h => by omega, Below.refl _ _⟩
  case round =>
    obtain ⟨k, hk, rfl, hok, hb⟩ := hrel
    have Hok := Lib.hid hok; clear hok
    have Hb := Lib.hid hb; clear hb
    by_cases hlt : k < ks.length
    · have hcs := (HTS.out k hlt).up Hb.out hla
      have HE := Lib.hid (ExAt.up Hb.out d _ (HA.out ks[k] (List.getElem_mem hlt)))
      have HRk := Lib.hid (HR.out ks[k] (List.getElem_mem hlt))
      obtain ⟨tk, htk⟩ : ∃ tk, tk = ks[k] := ⟨_, rfl⟩
      rw [← htk] at hcs HE HRk
      have HTK := Lib.hid htk; clear htk
      obtain ⟨c0, c1, c2, c3, c4, c5⟩ := hcs
      have HCW := Lib.hid ((Hb.out.cell (p := ⟨c, 0, none⟩) hcl).trans HC.out)
      rcases hx : exBad n d tk with _ | _
      all_goals have HX := Lib.hid hx
      all_goals clear hx
      · go_wp2_with fail
        refine (deep1 d IH.out tk n c _ hn HE.out HRk.out HCW.out).mono ?_
        rintro e w1 ⟨rfl, hb1⟩
        rw [HX.out]
        have Hb1 := Lib.hid hb1; clear hb1
        go_wp2_with fail
        go_roundw
        case rel => exact ⟨k + 1, by omega, by go_num, fun j hj hjk => by
                      by_cases e : j = k
                      · subst e; rw [← HTK.out]; exact HX.out
                      · exact Hok.out j hj (by omega), Hb.out.trans (Hb1.out.mono Hb.out.size)⟩
        case measure => simp [intOf]; omega
      · go_wp2_with fail
        refine (deep1 d IH.out tk n c _ hn HE.out HRk.out HCW.out).mono ?_
        rintro e w1 ⟨rfl, hb1⟩
        rw [HX.out]
        have Hb1 := Lib.hid hb1; clear hb1
        go_wp2_with fail
        go_ret
        exact ⟨k, rfl, ⟨fun _ => any_at _ ks k hlt (by rw [← HTK.out]; exact HX.out), fun _ => by omega⟩, Hb.out.trans (Hb1.out.mono Hb.out.size)⟩
    · go_wp2_with fail
      go_ret
      exact ⟨-1, rfl, ⟨fun h => by omega, fun h => by rw [any_take (exBad n d) ks (fun j hj => Hok.out j hj (by omega))] at h; cases h⟩, Hb.out⟩
theorem idxKids0 (p : Option Addr) (cap c : Nat) (w : World) :
    Calls Tryd.prog 133 #[.slice p 0 cap, .func (.func 112) #[] #[.pointer (some ⟨c, 0, none⟩)]] w (IdxPost false w) := by
  go_enter Tryd.func133, Tryd.ntmps133
  go_wp2_with fail
  go_loop [8] (fun i => i = .int .i64 0) (fun _ => 0)
  case atStart => rfl
  case round =>
    obtain rfl := hrel
    go_wp2_with fail
    go_ret
    exact ⟨-1, rfl, ⟨fun h => by omega, fun h => by cases h⟩, Below.refl _ _⟩
theorem idxKidsAny (d : Nat) (ih : DeepAt d) (n c : Nat) (e : Ex (d + 1)) (w : World) (hn : n + 1 ≤ 8) (he : ExAt w (d + 1) e) (hr : ExR (d + 1) e)
    (hc : w.cell? ⟨c, 0, none⟩ = some (.int .i64 (n + 1 : Nat))) :
    Calls Tryd.prog 133 #[exSl (d + 1) e, .func (.func 112) #[] #[.pointer (some ⟨c, 0, none⟩)]] w (IdxPost (e.2.2.2.any (exBad n d)) w) := by
  obtain ⟨op, tm, sl, ks⟩ := e
  obtain ⟨p, cap, h1, h2, h3, h4⟩ := he
  obtain ⟨r1, r2, r3⟩ := hr
  simp only at h1 h2 h3 h4 r3
  subst h1
  rcases h3 with h | ⟨a, o, rfl, ha, h⟩
  · obtain rfl := List.eq_nil_of_length_eq_zero h
    exact idxKids0 p cap c w
  · exact idxKids d ih n c a o cap ks w hn ha h h4 r3 h2 hc
theorem kidsBad (d : Nat) (ih : DeepAt d) (n c : Nat) (e : Ex (d + 1)) (w : World) (hn : n + 1 ≤ 8) (he : ExAt w (d + 1) e) (hr : ExR (d + 1) e)
    (hc : w.cell? ⟨c, 0, none⟩ = some (.int .i64 (n + 1 : Nat))) :
    Calls Tryd.prog 111 #[exSl (d + 1) e, .func (.func 112) #[] #[.pointer (some ⟨c, 0, none⟩)]] w fun r w' => r = .returned (.bool (e.2.2.2.any (exBad n d))) ∧ Below w.heap.size w w' := by
  have HE := Lib.hid he; clear he
  have HR := Lib.hid hr; clear hr
  have HC := Lib.hid hc; clear hc
  have IH := Lib.hid ih; clear ih
  go_enter Tryd.func111, Tryd.ntmps111
  go_wp2_with fail
  refine (idxKidsAny d IH.out n c e _ hn HE.out HR.out HC.out).mono ?_
  rintro e w1 ⟨r, rfl, hr, hb⟩
  have Hr := Lib.hid hr; clear hr
  have Hb := Lib.hid hb; clear hb
  go_wp2_with fail
  go_ret
  exact ⟨ret_bool (by rw [Bool.eq_iff_iff, ← Hr.out]; simp), Hb.out⟩
end Go.Proofs.YtlghiakckkhekaaDoor
