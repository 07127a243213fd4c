/- The contracts of term.CheckAtom and what it calls. Conditions: the terms lie in memory as they are told; a text is no longer than the model lets any be. -/
import Derived.Test.YtlghiakckkhekaaDoorW14
namespace Go.Proofs.YtlghiakckkhekaaDoor
open Go.RowKit

def tmBad (t : Tm) : Bool := !tmOk t
structure TmCell (w : World) (a o : Nat) (t : Tm) : Prop where
  c0 : w.cell? ⟨a, o, none⟩ = some (.string t.v)
  c1 : w.cell? ⟨a, o + 1, none⟩ = some (.int .i8 t.x.k)
  c2 : w.cell? ⟨a, o + 2, none⟩ = some (.int .i64 t.x.n)
  c3 : w.cell? ⟨a, o + 3, none⟩ = some (.string t.x.t)
/-- Terms in a row of memory. -/
structure TmsAt (w : World) (a o : Nat) (ts : List Tm) : Prop where
  lt : a < w.heap.size
  at_ : ∀ i, (h : i < ts.length) → TmCell w a (o + i * 4) ts[i]
theorem TmCell.up {w w' : World} {B a o : Nat} {t : Tm} (h : TmCell w a o t) (hb : Below B w w') (ha : a < B) : TmCell w' a o t :=
  ⟨(hb.cell (p := ⟨a, o, none⟩) ha).trans h.c0, (hb.cell (p := ⟨a, o + 1, none⟩) ha).trans h.c1, (hb.cell (p := ⟨a, o + 2, none⟩) ha).trans h.c2, (hb.cell (p := ⟨a, o + 3, none⟩) ha).trans h.c3⟩
theorem TmsAt.up {w w' : World} {B a o : Nat} {ts : List Tm} (h : TmsAt w a o ts) (hb : Below B w w') (ha : a < B) : TmsAt w' a o ts :=
  ⟨Nat.lt_of_lt_of_le h.lt hb.size, fun i hi => (h.at_ i hi).up hb ha⟩
/-- Terms within their bounds. -/
def TmsR (ts : List Tm) : Prop := ∀ t ∈ ts, TmR t.v t.x.k t.x.n t.x.t

theorem tTermBad (v : ByteArray) (k n : Int) (t : ByteArray) (w : World) (hv : v.size ≤ maxLen) :
    Calls Tryd.prog 105 #[.agg #[.string v, .int .i8 k, .int .i64 n, .string t]] w fun e w' => e = .returned (.bool (tmBad ⟨v, ⟨k, n, t⟩⟩)) ∧ Below w.heap.size w w' := by
  rcases hx : tmOk ⟨v, ⟨k, n, t⟩⟩ with _ | _
  all_goals have HX := Lib.hid hx
  all_goals have HB := Lib.hid (show tmBad ⟨v, ⟨k, n, t⟩⟩ = !tmOk ⟨v, ⟨k, n, t⟩⟩ from rfl)
  all_goals clear hx
  all_goals
    go_enter Tryd.func105, Tryd.ntmps105
    go_wp2_with fail
    refine (tCheckTerm v k n t _ hv).mono ?_
    rintro e w1 ⟨rfl, hb⟩
    have Hb := Lib.hid hb; clear hb
    rw [HX.out]
    first | rw [show okCode false 40 = 40 from rfl] | rw [show okCode true 40 = 0 from rfl]
    go_wp2_with fail
    go_ret
    exact ⟨ret_bool (by rw [HB.out, HX.out]; rfl), (below_alloc _ _).trans (Hb.out.mono (by simp))⟩
/-- Where the first that is bad stands, or -1. -/
def IdxPost (b : Bool) (w : World) (e : Ending) (w' : World) : Prop := ∃ r : Int, e = .returned (.int .i64 r) ∧ (0 ≤ r ↔ b = true) ∧ Below w.heap.size w w'
theorem any_take {α : Type} (p : α → Bool) (l : List α) (h : ∀ j, (h : j < l.length) → p l[j] = false) : l.any p = false := by
  rw [List.any_eq_false]
  intro x hx
  obtain ⟨j, hj, rfl⟩ := List.getElem_of_mem hx
  simp [h j hj]
theorem any_at {α : Type} (p : α → Bool) (l : List α) (j : Nat) (hj : j < l.length) (h : p l[j] = true) : l.any p = true := List.any_eq_true.2 ⟨_, List.getElem_mem hj, h⟩
set_option maxHeartbeats 1000000 in
theorem idxTerms (a o cap : Nat) (ts : List Tm) (w : World) (hts : TmsAt w a o ts) (hr : TmsR ts) (hn : ts.length ≤ maxLen) :
    Calls Tryd.prog 132 #[.slice (some ⟨a, o, none⟩) ts.length cap, .func (.func 105) #[] #[]] w (IdxPost (ts.any tmBad) w) := by
  have HTS := Lib.hid hts; clear hts
  have HR := Lib.hid hr; clear hr
  unfold maxLen at hn
  go_enter Tryd.func132, Tryd.ntmps132
  go_wp2_with fail
  go_loopw [8] (fun i wr => ∃ k : Nat, k ≤ ts.length ∧ i = .int .i64 k ∧ (∀ j, (h : j < ts.length) → j < k → tmBad ts[j] = false) ∧ Below w.heap.size w wr) (fun i _ => ts.length - (intOf i).toNat)
  case atStart => exact ⟨0, by omega, rfl, fun j _ h => by omega, Below.refl _ _⟩
  case round =>
    obtain ⟨k, hk, rfl, hok, hb⟩ := hrel
    have Hok := Lib.hid hok; clear hok
    have Hb := Lib.hid hb; clear hb
    by_cases hlt : k < ts.length
    · have hc := (HTS.out.at_ k hlt).up Hb.out HTS.out.lt
      have hvr := (HR.out ts[k] (List.getElem_mem hlt)).v0
      obtain ⟨tk, htk⟩ : ∃ tk, tk = ts[k] := ⟨_, rfl⟩
      rw [← htk] at hc hvr
      have HTK := Lib.hid htk; clear htk
      obtain ⟨v, x, n, t⟩ := tk
      obtain ⟨c0, c1, c2, c3⟩ := hc
      rcases hx : tmBad ⟨v, ⟨x, n, t⟩⟩ with _ | _
      · have HX := Lib.hid hx; clear hx
        go_wp2_with fail
        refine (tTermBad v x n t _ hvr).mono ?_
        rintro e w1 ⟨rfl, hb1⟩
        rw [HX.out]
        have Hb1 := Lib.hid hb1; clear hb1
        go_wp2_with fail
        go_roundw
        case rel => exact ⟨k + 1, by omega, by go_num, fun j hj hjk => by
                      by_cases e : j = k
                      · subst e; rw [← HTK.out]; exact HX.out
                      · exact Hok.out j hj (by omega), Hb.out.trans (Hb1.out.mono Hb.out.size)⟩
        case measure => simp [intOf]; omega
      · have HX := Lib.hid hx; clear hx
        go_wp2_with fail
        refine (tTermBad v x n t _ hvr).mono ?_
        rintro e w1 ⟨rfl, hb1⟩
        rw [HX.out]
        have Hb1 := Lib.hid hb1; clear hb1
        go_wp2_with fail
        go_ret
        exact ⟨k, rfl, ⟨fun _ => any_at _ ts k hlt (by rw [← HTK.out]; exact HX.out), fun _ => by omega⟩, Hb.out.trans (Hb1.out.mono Hb.out.size)⟩
    · go_wp2_with fail
      go_ret
      exact ⟨-1, rfl, ⟨fun h => by omega, fun h => by rw [any_take tmBad ts (fun j hj => Hok.out j hj (by omega))] at h; cases h⟩, Hb.out⟩
theorem idxTerms0 (p : Option Addr) (cap : Nat) (w : World) :
    Calls Tryd.prog 132 #[.slice p 0 cap, .func (.func 105) #[] #[]] w (IdxPost false w) := by
  go_enter Tryd.func132, Tryd.ntmps132
  go_wp2_with fail
  go_loop [8] (fun i => i = .int .i64 0) (fun _ => 0)
  case atStart => rfl
  case round =>
    obtain rfl := hrel
    go_wp2_with fail
    go_ret
    exact ⟨-1, rfl, ⟨fun h => by omega, fun h => by cases h⟩, Below.refl _ _⟩
/-- A slice value that reads as these terms. -/
def TmSl (w : World) (v : Value) (ts : List Tm) : Prop := ∃ p cap, v = .slice p ts.length cap ∧ ts.length ≤ maxLen ∧ (ts.length = 0 ∨ ∃ a o, p = some ⟨a, o, none⟩ ∧ TmsAt w a o ts)
theorem TmSl.up {w w' : World} {v : Value} {ts : List Tm} (h : TmSl w v ts) (hb : Below w.heap.size w w') : TmSl w' v ts := by
  obtain ⟨p, cap, hv, hm, h⟩ := h
  refine ⟨p, cap, hv, hm, ?_⟩
  rcases h with h | ⟨a, o, hp, h⟩
  · exact .inl h
  · exact .inr ⟨a, o, hp, h.up hb h.lt⟩
theorem idxAny (sv : Value) (ts : List Tm) (w : World) (hts : TmSl w sv ts) (hr : TmsR ts) :
    Calls Tryd.prog 132 #[sv, .func (.func 105) #[] #[]] w (IdxPost (ts.any tmBad) w) := by
  obtain ⟨p, cap, rfl, hm, h⟩ := hts
  rcases h with h | ⟨a, o, rfl, h⟩
  · obtain rfl := List.eq_nil_of_length_eq_zero h
    exact idxTerms0 p cap w
  · exact idxTerms a o cap ts w h hr hm
theorem hasBad (sv : Value) (ts : List Tm) (w : World) (hts : TmSl w sv ts) (hr : TmsR ts) :
    Calls Tryd.prog 104 #[sv, .func (.func 105) #[] #[]] w fun e w' => e = .returned (.bool (ts.any tmBad)) ∧ Below w.heap.size w w' := by
  have HTS := Lib.hid hts; clear hts
  have HR := Lib.hid hr; clear hr
  go_enter Tryd.func104, Tryd.ntmps104
  go_wp2_with fail
  refine (idxAny sv ts _ HTS.out HR.out).mono ?_
  rintro e w1 ⟨r, rfl, hr, hb⟩
  have Hr := Lib.hid hr; clear hr
  have Hb := Lib.hid hb; clear hb
  go_wp2_with fail
  go_ret
  exact ⟨ret_bool (by rw [Bool.eq_iff_iff, ← Hr.out]; simp), Hb.out⟩
/-- An atom that may be. -/
def atOk (p : ByteArray) (ts : List Tm) : Bool := nameB (bl p) && decide (ts.length ≤ 24) && !ts.any tmBad
set_option maxHeartbeats 1000000 in
theorem tCheckAtom (p : ByteArray) (sv : Value) (ts : List Tm) (w : World) (hp : p.size ≤ maxLen) (hts : TmSl w sv ts) (hr : TmsR ts) :
    Calls Tryd.prog 67 #[.agg #[.string p, sv]] w fun e w' => e = .returned (.int .i64 (okCode (atOk p ts) 40)) ∧ Below w.heap.size w w' := by
  have HTS := Lib.hid hts
  have HR := Lib.hid hr; clear hr
  obtain ⟨q, cap, rfl, hm, _⟩ := hts
  rcases hn : nameB (bl p) with _ | _
  · have HE := Lib.hid (show atOk p ts = false by simp [atOk, hn])
    have HN := Lib.hid hn; clear hn
    go_enter Tryd.func67, Tryd.ntmps67
    go_wp2_with fail
    refine (tName p _ hp).mono ?_
    rintro e w1 ⟨rfl, hb⟩
    have Hb := Lib.hid hb; clear hb
    rw [HN.out]
    go_wp2_with fail
    refine (tCode _ _).mono ?_
    rintro e w2 ⟨rfl, rfl⟩
    go_wp2_with fail
    go_ret
    exact ⟨ret_int (by rw [HE.out]), (below_alloc _ _).trans (Hb.out.mono (by simp))⟩
  · by_cases h24 : ts.length ≤ 24
    · have HE := Lib.hid (show atOk p ts = !ts.any tmBad by simp [atOk, hn, h24])
      have HN := Lib.hid hn; clear hn
      have d24 : decide ((ts.length : Int) ≤ 24) = true := decide_eq_true (by omega)
      go_enter Tryd.func67, Tryd.ntmps67
      go_wp2_with fail
      refine (tName p _ hp).mono ?_
      rintro e w1 ⟨rfl, hb⟩
      obtain ⟨hc, hf⟩ := bcell hb
      have Hb := Lib.hid hb; clear hb
      have hsz1 : w.heap.size < w1.heap.size := by have := Hb.out.size; simp at this; omega
      rw [HN.out]
      go_wp2_with fail
      refine (hasBad _ ts _ ((HTS.out.up (below_alloc _ _)).up Hb.out) HR.out).mono ?_
      rintro e w2 ⟨rfl, hb2⟩
      have Hb2 := Lib.hid hb2; clear hb2
      clear hc hf
      obtain ⟨y, hy⟩ : ∃ y, y = ts.any tmBad := ⟨_, rfl⟩
      rw [← hy] at HE
      rw [← hy]
      clear hy
      go_wp2_with fail
      refine (tCode _ _).mono ?_
      rintro e w3 ⟨rfl, rfl⟩
      go_wp2_with fail
      go_ret
      exact ⟨ret_int (by rw [HE.out]), ((below_alloc _ _).trans (Hb.out.mono (by simp))).trans (Hb2.out.mono (by omega))⟩
    · have HE := Lib.hid (show atOk p ts = false by simp [atOk, h24])
      have HN := Lib.hid hn; clear hn
      have d24 : decide ((ts.length : Int) ≤ 24) = false := decide_eq_false (by omega)
      go_enter Tryd.func67, Tryd.ntmps67
      go_wp2_with fail
      refine (tName p _ hp).mono ?_
      rintro e w1 ⟨rfl, hb⟩
      obtain ⟨hc, hf⟩ := bcell hb
      have Hb := Lib.hid hb; clear hb
      have hsz1 : w.heap.size < w1.heap.size := by have := Hb.out.size; simp at this; omega
      rw [HN.out]
      go_wp2_with fail
      refine (tCode _ _).mono ?_
      rintro e w3 ⟨rfl, rfl⟩
      go_wp2_with fail
      go_ret
      exact ⟨ret_int (by rw [HE.out]), (below_alloc _ _).trans (Hb.out.mono (by simp))⟩
end Go.Proofs.YtlghiakckkhekaaDoor
