/- The contracts of SameValues, SameTerms and SameArgs at any lists. The contracts of SameExpr, SameAtom and SameFacts at any two. The contracts of SameAtom, SameFacts, SameLiterals and SameRule at any two. Facts and queries: two have one text just if they are the same; the contract of print.Query. Conditions: the lists lie in memory as they are told. they lie in memory as they are told. they are as they may be; they lie in memory as they are told. -/
import Derived.Test.YtdgbenadoaecoaaDoorD2
import Derived.Test.YtdgbenadoaecoaaDoorD9
import Derived.BigQuiet
import Derived.Laws.StructEq
import Derived.Deep.RegionHeld3
namespace Go.Proofs.YtdgbenadoaecoaaDoor
open Go.RowKit

def baSame (s t : ByteArray) : Bool := decide (s.toList = t.toList)
theorem baSame_iff (s t : ByteArray) : baSame s t = true ↔ s = t := by
  unfold baSame
  rw [decide_eq_true_eq]
  constructor
  · intro h
    rw [ByteArray.toList_eq, ByteArray.toList_eq] at h
    exact bl_eq h
  · intro h
    rw [h]
def vlSame (x y : Vl) : Bool := decide (x.k = y.k) && (decide (x.n = y.n) && baSame x.t y.t)
def tmSame (t u : Tm) : Bool := baSame t.v u.v && vlSame t.x u.x
def agSame (a b : Ag) : Bool := decide (a.g = b.g) && tmSame a.t b.t
theorem vlSame_iff (x y : Vl) : vlSame x y = true ↔ x = y := by
  obtain ⟨k, n, t⟩ := x
  obtain ⟨k', n', t'⟩ := y
  simp [vlSame, baSame_iff]
theorem tmSame_iff (x y : Tm) : tmSame x y = true ↔ x = y := by
  obtain ⟨v, x⟩ := x
  obtain ⟨v', y⟩ := y
  simp [tmSame, vlSame_iff, baSame_iff]
theorem agSame_iff (x y : Ag) : agSame x y = true ↔ x = y := by
  obtain ⟨v, x⟩ := x
  obtain ⟨v', y⟩ := y
  simp [agSame, tmSame_iff]
theorem eqv_run (d : Nat) (k n : Int) (t : ByteArray) (k' n' : Int) (t' : ByteArray) (W : World) : (Op.equalIn (d + 2) 50 (.agg #[.int .i8 k, .int .i64 n, .string t]) (.agg #[.int .i8 k', .int .i64 n', .string t'])).run Tryd.prog W = .ok (vlSame ⟨k, n, t⟩ ⟨k', n', t'⟩) W := by
  have hS : Tryd.prog.underlying 50 = some (.struct (Tryd.prog.fieldsOf 50)) := by kernel_rfl
  have hp : Tryd.prog.stoodInHeld 50 = false := by kernel_rfl
  rw [run_equalIn_agg W (d + 1) 50 _ _ hS hp]
  simp only [Program.fieldsOf, Tryd.underlying50]
  go_simp
  unfold vlSame baSame
  by_cases h1 : k = k' <;> by_cases h2 : n = n' <;> by_cases h3 : t.toList = t'.toList <;> simp [h1, h2, h3]
theorem eqt_run (d : Nat) (v : ByteArray) (k n : Int) (t v' : ByteArray) (k' n' : Int) (t' : ByteArray) (W : World) : (Op.equalIn (d + 3) 52 (.agg #[.string v, .int .i8 k, .int .i64 n, .string t]) (.agg #[.string v', .int .i8 k', .int .i64 n', .string t'])).run Tryd.prog W = .ok (tmSame ⟨v, ⟨k, n, t⟩⟩ ⟨v', ⟨k', n', t'⟩⟩) W := by
  have hS : Tryd.prog.underlying 52 = some (.struct (Tryd.prog.fieldsOf 52)) := by kernel_rfl
  have hp : Tryd.prog.stoodInHeld 52 = false := by kernel_rfl
  have hv := eqv_run d k n t k' n' t'
  rw [run_equalIn_agg W (d + 2) 52 _ _ hS hp]
  simp only [Program.fieldsOf, Tryd.underlying52]
  go_simp
  unfold tmSame baSame
  by_cases h1 : v.toList = v'.toList <;> cases h2 : vlSame ⟨k, n, t⟩ ⟨k', n', t'⟩ <;> simp [h1]
theorem eqa_run (d : Nat) (g : Int) (v : ByteArray) (k n : Int) (t : ByteArray) (g' : Int) (v' : ByteArray) (k' n' : Int) (t' : ByteArray) (W : World) : (Op.equalIn (d + 4) 55 (.agg #[.int .i8 g, .string v, .int .i8 k, .int .i64 n, .string t]) (.agg #[.int .i8 g', .string v', .int .i8 k', .int .i64 n', .string t'])).run Tryd.prog W = .ok (agSame ⟨g, ⟨v, ⟨k, n, t⟩⟩⟩ ⟨g', ⟨v', ⟨k', n', t'⟩⟩⟩) W := by
  have hS : Tryd.prog.underlying 55 = some (.struct (Tryd.prog.fieldsOf 55)) := by kernel_rfl
  have hp : Tryd.prog.stoodInHeld 55 = false := by kernel_rfl
  have hv := eqt_run d v k n t v' k' n' t'
  rw [run_equalIn_agg W (d + 3) 55 _ _ hS hp]
  simp only [Program.fieldsOf, Tryd.underlying55]
  go_simp
  unfold agSame
  by_cases h1 : g = g' <;> cases h2 : tmSame ⟨v, ⟨k, n, t⟩⟩ ⟨v', ⟨k', n', t'⟩⟩ <;> simp [h1]
theorem neq_vl (x y : Vl) (b : Bool) (h : vlSame x y = b) (W : World) : (binOp .neq 50 (.agg #[.int .i8 x.k, .int .i64 x.n, .string x.t]) (.agg #[.int .i8 y.k, .int .i64 y.n, .string y.t])).run Tryd.prog W = .ok (.bool (!b)) W := by
  rw [run_neq_struct, show (10000 : Nat) = 9998 + 2 from rfl, eqv_run, ← h]
  rfl
theorem neq_tm (x y : Tm) (b : Bool) (h : tmSame x y = b) (W : World) : (binOp .neq 52 (.agg #[.string x.v, .int .i8 x.x.k, .int .i64 x.x.n, .string x.x.t]) (.agg #[.string y.v, .int .i8 y.x.k, .int .i64 y.x.n, .string y.x.t])).run Tryd.prog W = .ok (.bool (!b)) W := by
  rw [run_neq_struct, show (10000 : Nat) = 9997 + 3 from rfl, eqt_run, ← h]
  rfl
theorem eql_tm (x y : Tm) (b : Bool) (h : tmSame x y = b) (W : World) : (binOp .eql 52 (.agg #[.string x.v, .int .i8 x.x.k, .int .i64 x.x.n, .string x.x.t]) (.agg #[.string y.v, .int .i8 y.x.k, .int .i64 y.x.n, .string y.x.t])).run Tryd.prog W = .ok (.bool b) W := by
  rw [run_eql_struct, show (10000 : Nat) = 9997 + 3 from rfl, eqt_run, ← h]
  rfl
theorem neq_ag (x y : Ag) (b : Bool) (h : agSame x y = b) (W : World) : (binOp .neq 55 (.agg #[.int .i8 x.g, .string x.t.v, .int .i8 x.t.x.k, .int .i64 x.t.x.n, .string x.t.x.t]) (.agg #[.int .i8 y.g, .string y.t.v, .int .i8 y.t.x.k, .int .i64 y.t.x.n, .string y.t.x.t])).run Tryd.prog W = .ok (.bool (!b)) W := by
  rw [run_neq_struct, show (10000 : Nat) = 9996 + 4 from rfl, eqa_run, ← h]
  rfl
/-- What a call leaves that says whether two things are the same. -/
def SamePost (P : Prop) (w : World) (r : Ending) (w' : World) : Prop := ∃ b : Bool, r = .returned (.bool b) ∧ (b = true ↔ P) ∧ Below w.heap.size w w'
set_option maxHeartbeats 2000000 in
theorem gSameValues (xs ys : List Vl) (sv tv : Value) (w : World) (hx : VlSl w sv xs) (hy : VlSl w tv ys) :
    Calls Tryd.prog 54 #[sv, tv] w (SamePost (xs = ys) w) := by
  obtain ⟨q, cap, rfl, hm, hs⟩ := hx
  obtain ⟨q2, cap2, rfl, hm2, hs2⟩ := hy
  have HS := Lib.hid hs; clear hs
  have HT := Lib.hid hs2; clear hs2
  unfold maxLen at hm hm2
  by_cases hlen : xs.length = ys.length
  · have hlen' : ((xs.length : Int) != (ys.length : Int)) = false := by simp [hlen]
    go_enter Tryd.func54, Tryd.ntmps54
    go_wp2_with fail
    clear hlen'
    go_loopw [5] (fun i wr => ∃ j : Nat, j ≤ xs.length ∧ i = .int .i64 j ∧ (∀ m, (h : m < xs.length) → (h' : m < ys.length) → m < j → xs[m] = ys[m]) ∧ Below w.heap.size w wr) (fun i _ => xs.length - (intOf i).toNat)
    case atStart => exact ⟨0, by omega, rfl, fun m _ _ h => by omega, Below.refl _ _⟩
    case round =>
      obtain ⟨j, hj, rfl, hal, hbe⟩ := hrel
      have HAL := Lib.hid hal; clear hal
      have HBE := Lib.hid hbe; clear hbe
      by_cases hlt : j < xs.length
      · have hlt2 : j < ys.length := by omega
        rcases HS.out with h0 | ⟨b, o, hp, hat⟩
        · omega
        rcases HT.out with h0 | ⟨b2, o2, hp2, hat2⟩
        · omega
        subst hp hp2
        have hck := (hat.at_ j hlt).up HBE.out hat.lt
        have hct := (hat2.at_ j hlt2).up HBE.out hat2.lt
        clear hat hat2
        obtain ⟨x, hxx⟩ : ∃ x, x = xs[j] := ⟨_, rfl⟩
        obtain ⟨y, hyy⟩ : ∃ y, y = ys[j] := ⟨_, rfl⟩
        rw [← hxx] at hck
        rw [← hyy] at hct
        have HXX := Lib.hid hxx; clear hxx
        have HYY := Lib.hid hyy; clear hyy
        obtain ⟨c0, c1, c2⟩ := hck
        obtain ⟨d0, d1, d2⟩ := hct
        rcases hb : vlSame x y with _ | _
        · have HNE := Lib.hid (show ¬ xs = ys from fun h => by
            have h1 : x = y := by rw [HXX.out, HYY.out]; simp only [h]
            rw [(vlSame_iff x y).2 h1] at hb
            cases hb)
          have hq := neq_vl x y false hb
          clear hb
          go_wp2_with fail
          go_quiet (fail)
          go_wp2_with fail
          go_ret
          exact ⟨false, rfl, ⟨(fun h => nomatch h), fun h => absurd h HNE.out⟩, below_drewN HBE.out _⟩
        · have HEQ := Lib.hid ((vlSame_iff x y).1 hb)
          have hq := neq_vl x y true hb
          clear hb
          go_wp2_with fail
          go_quiet (fail)
          go_wp2_with fail
          go_roundw
          case rel => exact ⟨j + 1, by omega, by go_num, fun m hm hm' hmj => by
                        by_cases e : m = j
                        · subst e; rw [← HXX.out, ← HYY.out]; exact HEQ.out
                        · exact HAL.out m hm hm' (by omega), below_drewN HBE.out _⟩
          case measure => simp [intOf]; omega
      · go_wp2_with fail
        go_ret
        exact ⟨true, rfl, ⟨fun _ => List.ext_getElem hlen fun m h1 h2 => HAL.out m h1 h2 (by omega), fun _ => rfl⟩, HBE.out⟩
  · have hlen' : ((xs.length : Int) != (ys.length : Int)) = true := by simp; omega
    go_enter Tryd.func54, Tryd.ntmps54
    go_wp2_with fail
    go_ret
    exact ⟨false, rfl, ⟨(fun h => nomatch h), fun h => absurd (congrArg List.length h) hlen⟩, Below.refl _ _⟩
set_option maxHeartbeats 2000000 in
theorem gSameTerms (xs ys : List Tm) (sv tv : Value) (w : World) (hx : TmSl w sv xs) (hy : TmSl w tv ys) :
    Calls Tryd.prog 33 #[sv, tv] w (SamePost (xs = ys) w) := by
  obtain ⟨q, cap, rfl, hm, hs⟩ := hx
  obtain ⟨q2, cap2, rfl, hm2, hs2⟩ := hy
  have HS := Lib.hid hs; clear hs
  have HT := Lib.hid hs2; clear hs2
  unfold maxLen at hm hm2
  by_cases hlen : xs.length = ys.length
  · have hlen' : ((xs.length : Int) != (ys.length : Int)) = false := by simp [hlen]
    go_enter Tryd.func33, Tryd.ntmps33
    go_wp2_with fail
    clear hlen'
    go_loopw [5] (fun i wr => ∃ j : Nat, j ≤ xs.length ∧ i = .int .i64 j ∧ (∀ m, (h : m < xs.length) → (h' : m < ys.length) → m < j → xs[m] = ys[m]) ∧ Below w.heap.size w wr) (fun i _ => xs.length - (intOf i).toNat)
    case atStart => exact ⟨0, by omega, rfl, fun m _ _ h => by omega, Below.refl _ _⟩
    case round =>
      obtain ⟨j, hj, rfl, hal, hbe⟩ := hrel
      have HAL := Lib.hid hal; clear hal
      have HBE := Lib.hid hbe; clear hbe
      by_cases hlt : j < xs.length
      · have hlt2 : j < ys.length := by omega
        rcases HS.out with h0 | ⟨b, o, hp, hat⟩
        · omega
        rcases HT.out with h0 | ⟨b2, o2, hp2, hat2⟩
        · omega
        subst hp hp2
        have hck := (hat.at_ j hlt).up HBE.out hat.lt
        have hct := (hat2.at_ j hlt2).up HBE.out hat2.lt
        clear hat hat2
        obtain ⟨x, hxx⟩ : ∃ x, x = xs[j] := ⟨_, rfl⟩
        obtain ⟨y, hyy⟩ : ∃ y, y = ys[j] := ⟨_, rfl⟩
        rw [← hxx] at hck
        rw [← hyy] at hct
        have HXX := Lib.hid hxx; clear hxx
        have HYY := Lib.hid hyy; clear hyy
        obtain ⟨c0, c1, c2, c3⟩ := hck
        obtain ⟨d0, d1, d2, d3⟩ := hct
        rcases hb : tmSame x y with _ | _
        · have HNE := Lib.hid (show ¬ xs = ys from fun h => by
            have h1 : x = y := by rw [HXX.out, HYY.out]; simp only [h]
            rw [(tmSame_iff x y).2 h1] at hb
            cases hb)
          have hq := neq_tm x y false hb
          clear hb
          go_wp2_with fail
          go_quiet (fail)
          go_wp2_with fail
          go_ret
          exact ⟨false, rfl, ⟨(fun h => nomatch h), fun h => absurd h HNE.out⟩, below_drewN HBE.out _⟩
        · have HEQ := Lib.hid ((tmSame_iff x y).1 hb)
          have hq := neq_tm x y true hb
          clear hb
          go_wp2_with fail
          go_quiet (fail)
          go_wp2_with fail
          go_roundw
          case rel => exact ⟨j + 1, by omega, by go_num, fun m hm hm' hmj => by
                        by_cases e : m = j
                        · subst e; rw [← HXX.out, ← HYY.out]; exact HEQ.out
                        · exact HAL.out m hm hm' (by omega), below_drewN HBE.out _⟩
          case measure => simp [intOf]; omega
      · go_wp2_with fail
        go_ret
        exact ⟨true, rfl, ⟨fun _ => List.ext_getElem hlen fun m h1 h2 => HAL.out m h1 h2 (by omega), fun _ => rfl⟩, HBE.out⟩
  · have hlen' : ((xs.length : Int) != (ys.length : Int)) = true := by simp; omega
    go_enter Tryd.func33, Tryd.ntmps33
    go_wp2_with fail
    go_ret
    exact ⟨false, rfl, ⟨(fun h => nomatch h), fun h => absurd (congrArg List.length h) hlen⟩, Below.refl _ _⟩
set_option maxHeartbeats 2000000 in
theorem gSameArgs (xs ys : List Ag) (q q2 : Option Addr) (cap cap2 : Nat) (w : World) (hx : AgsAt w q xs) (hy : AgsAt w q2 ys) (hm : xs.length ≤ 9223372036854775807) :
    Calls Tryd.prog 30 #[.slice q xs.length cap, .slice q2 ys.length cap2] w (SamePost (xs = ys) w) := by
  have HS := Lib.hid hx; clear hx
  have HT := Lib.hid hy; clear hy
  by_cases hlen : xs.length = ys.length
  · have hlen' : ((xs.length : Int) != (ys.length : Int)) = false := by simp [hlen]
    go_enter Tryd.func30, Tryd.ntmps30
    go_wp2_with fail
    clear hlen'
    go_loopw [5] (fun i wr => ∃ j : Nat, j ≤ xs.length ∧ i = .int .i64 j ∧ (∀ m, (h : m < xs.length) → (h' : m < ys.length) → m < j → xs[m] = ys[m]) ∧ Below w.heap.size w wr) (fun i _ => xs.length - (intOf i).toNat)
    case atStart => exact ⟨0, by omega, rfl, fun m _ _ h => by omega, Below.refl _ _⟩
    case round =>
      obtain ⟨j, hj, rfl, hal, hbe⟩ := hrel
      have HAL := Lib.hid hal; clear hal
      have HBE := Lib.hid hbe; clear hbe
      by_cases hlt : j < xs.length
      · have hlt2 : j < ys.length := by omega
        rcases HS.out with h0 | ⟨b, o, hp, ha, hat⟩
        · omega
        rcases HT.out with h0 | ⟨b2, o2, hp2, ha2, hat2⟩
        · omega
        subst hp hp2
        obtain ⟨e0, e1⟩ := hat j hlt
        have hck := And.intro ((HBE.out.cell (p := ⟨b, o + j * 5, none⟩) ha).trans e0) (e1.up HBE.out ha)
        obtain ⟨f0, f1⟩ := hat2 j hlt2
        have hct := And.intro ((HBE.out.cell (p := ⟨b2, o2 + j * 5, none⟩) ha2).trans f0) (f1.up HBE.out ha2)
        clear hat hat2 e0 e1 f0 f1
        obtain ⟨x, hxx⟩ : ∃ x, x = xs[j] := ⟨_, rfl⟩
        obtain ⟨y, hyy⟩ : ∃ y, y = ys[j] := ⟨_, rfl⟩
        rw [← hxx] at hck
        rw [← hyy] at hct
        have HXX := Lib.hid hxx; clear hxx
        have HYY := Lib.hid hyy; clear hyy
        obtain ⟨c0, c1, c2, c3, c4⟩ := hck
        obtain ⟨d0, d1, d2, d3, d4⟩ := hct
        rcases hb : agSame x y with _ | _
        · have HNE := Lib.hid (show ¬ xs = ys from fun h => by
            have h1 : x = y := by rw [HXX.out, HYY.out]; simp only [h]
            rw [(agSame_iff x y).2 h1] at hb
            cases hb)
          have hq := neq_ag x y false hb
          clear hb
          go_wp2_with fail
          go_quiet (fail)
          go_wp2_with fail
          go_ret
          exact ⟨false, rfl, ⟨(fun h => nomatch h), fun h => absurd h HNE.out⟩, below_drewN HBE.out _⟩
        · have HEQ := Lib.hid ((agSame_iff x y).1 hb)
          have hq := neq_ag x y true hb
          clear hb
          go_wp2_with fail
          go_quiet (fail)
          go_wp2_with fail
          go_roundw
          case rel => exact ⟨j + 1, by omega, by go_num, fun m hm hm' hmj => by
                        by_cases e : m = j
                        · subst e; rw [← HXX.out, ← HYY.out]; exact HEQ.out
                        · exact HAL.out m hm hm' (by omega), below_drewN HBE.out _⟩
          case measure => simp [intOf]; omega
      · go_wp2_with fail
        go_ret
        exact ⟨true, rfl, ⟨fun _ => List.ext_getElem hlen fun m h1 h2 => HAL.out m h1 h2 (by omega), fun _ => rfl⟩, HBE.out⟩
  · have hlen' : ((xs.length : Int) != (ys.length : Int)) = true := by simp; omega
    go_enter Tryd.func30, Tryd.ntmps30
    go_wp2_with fail
    go_ret
    exact ⟨false, rfl, ⟨(fun h => nomatch h), fun h => absurd (congrArg List.length h) hlen⟩, Below.refl _ _⟩
open Go.RowKit

theorem SamePost.yes {P : Prop} (h : P) {w : World} {r : Ending} {w' : World} (hp : SamePost P w r w') : r = .returned (.bool true) ∧ Below w.heap.size w w' := by
  obtain ⟨b, rfl, hb, hbe⟩ := hp
  rw [hb.2 h]
  exact ⟨rfl, hbe⟩
theorem SamePost.no {P : Prop} (h : ¬ P) {w : World} {r : Ending} {w' : World} (hp : SamePost P w r w') : r = .returned (.bool false) ∧ Below w.heap.size w w' := by
  obtain ⟨b, rfl, hb, hbe⟩ := hp
  cases b
  · exact ⟨rfl, hbe⟩
  · exact absurd (hb.1 rfl) h
def SameAll (d : Nat) : Prop := ∀ (e f : Ex d) (w : World), ExAt w d e → ExAt w d f →
  Calls Tryd.prog 76 #[.agg #[.int .i8 (exOp d e), .string (exTm d e).v, .int .i8 (exTm d e).x.k, .int .i64 (exTm d e).x.n, .string (exTm d e).x.t, exSl d e],
    .agg #[.int .i8 (exOp d f), .string (exTm d f).v, .int .i8 (exTm d f).x.k, .int .i64 (exTm d f).x.n, .string (exTm d f).x.t, exSl d f]] w (SamePost (Alike d e f) w)
def KsAl (d : Nat) (ks ts : List (Ex d)) : Prop := ks.length = ts.length ∧ ∀ i, (h : i < ks.length) → (h' : i < ts.length) → Alike d ks[i] ts[i]
set_option maxHeartbeats 8000000 in
theorem sames (d : Nat) (ih : SameAll d) (ks ts : List (Ex d)) (p p2 : Option Addr) (cap cap2 : Nat) (w : World) (hs : KSl w d p ks) (hs2 : KSl w d p2 ts) (hm : ks.length ≤ maxLen) :
    Calls Tryd.prog 87 #[.slice p ks.length cap, .slice p2 ts.length cap2] w (SamePost (KsAl d ks ts) w) := by
  have IH := Lib.hid ih; clear ih
  have HS := Lib.hid hs; clear hs
  have HT := Lib.hid hs2; clear hs2
  unfold maxLen at hm
  by_cases hlen : ks.length = ts.length
  · have hlen' : ((ks.length : Int) != (ts.length : Int)) = false := by simp [hlen]
    go_enter Tryd.func87, Tryd.ntmps87
    go_wp2_with fail
    clear hlen'
    have HLEN := Lib.hid hlen; clear hlen
    go_loopw [5] (fun i wr => ∃ j : Nat, j ≤ ks.length ∧ i = .int .i64 j ∧ (∀ m, (h : m < ks.length) → (h' : m < ts.length) → m < j → Alike d ks[m] ts[m]) ∧ Below w.heap.size w wr) (fun i _ => ks.length - (intOf i).toNat)
    case atStart => exact ⟨0, by omega, rfl, fun m _ _ h => by omega, Below.refl _ _⟩
    case round =>
      obtain ⟨j, hj, rfl, hal, hbe⟩ := hrel
      have HAL := Lib.hid hal; clear hal
      have HBE := Lib.hid hbe; clear hbe
      by_cases hlt : j < ks.length
      · have hlt2 : j < ts.length := by have := HLEN.out; omega
        rcases HS.out.1 with h0 | ⟨b, o, hp, hb, hc⟩
        · omega
        rcases HT.out.1 with h0 | ⟨a, o2, hp2, ha, hc2⟩
        · omega
        subst hp hp2
        have hbr : b < wr.heap.size := Nat.lt_of_lt_of_le hb HBE.out.size
        have har : a < wr.heap.size := Nat.lt_of_lt_of_le ha HBE.out.size
        have hck := (hc j hlt).up HBE.out hb
        have hct := (hc2 j hlt2).up HBE.out ha
        clear hc hc2
        have HE := Lib.hid (ExAt.up HBE.out d _ (HS.out.2 ks[j] (List.getElem_mem hlt)))
        have HF := Lib.hid (ExAt.up HBE.out d _ (HT.out.2 ts[j] (List.getElem_mem hlt2)))
        have HST := Lib.hid (show Alike d ks[j] ts[j] → ∀ m, (h : m < ks.length) → (h' : m < ts.length) → m < j + 1 → Alike d ks[m] ts[m] from fun h9 m hm1 hm2 hmj => by
          by_cases e : m = j
          · subst e; exact h9
          · exact HAL.out m hm1 hm2 (by omega))
        have HNO := Lib.hid (show ¬ Alike d ks[j] ts[j] → ¬ KsAl d ks ts from fun h9 h8 => h9 (h8.2 j hlt hlt2))
        obtain ⟨x, hx⟩ : ∃ x, x = ks[j] := ⟨_, rfl⟩
        obtain ⟨y, hy⟩ : ∃ y, y = ts[j] := ⟨_, rfl⟩
        rw [← hx] at hck HE HST HNO
        rw [← hy] at hct HF HST HNO
        clear hx hy
        obtain ⟨c0, c1, c2, c3, c4, c5⟩ := hck
        obtain ⟨d0, d1, d2, d3, d4, d5⟩ := hct
        by_cases hal : Alike d x y
        · have HCALL := Lib.hid (fun w' h1 h2 => (IH.out x y w' h1 h2).mono fun _ _ h => h.yes hal)
          have HST2 := Lib.hid (HST.out hal)
          clear hal
          go_wp2_with fail
          go_region_held3 (fun w' => w'.cell? ⟨a, o2 + j * 6, none⟩ = wr.cell? ⟨a, o2 + j * 6, none⟩ ∧ w'.cell? ⟨a, o2 + j * 6 + 1, none⟩ = wr.cell? ⟨a, o2 + j * 6 + 1, none⟩ ∧ w'.cell? ⟨a, o2 + j * 6 + 2, none⟩ = wr.cell? ⟨a, o2 + j * 6 + 2, none⟩ ∧ w'.cell? ⟨a, o2 + j * 6 + 3, none⟩ = wr.cell? ⟨a, o2 + j * 6 + 3, none⟩ ∧ w'.cell? ⟨a, o2 + j * 6 + 4, none⟩ = wr.cell? ⟨a, o2 + j * 6 + 4, none⟩ ∧ w'.cell? ⟨a, o2 + j * 6 + 5, none⟩ = wr.cell? ⟨a, o2 + j * 6 + 5, none⟩ ∧ w'.cell? ⟨b, o + j * 6, none⟩ = wr.cell? ⟨b, o + j * 6, none⟩ ∧ w'.cell? ⟨b, o + j * 6 + 1, none⟩ = wr.cell? ⟨b, o + j * 6 + 1, none⟩ ∧ w'.cell? ⟨b, o + j * 6 + 2, none⟩ = wr.cell? ⟨b, o + j * 6 + 2, none⟩ ∧ w'.cell? ⟨b, o + j * 6 + 3, none⟩ = wr.cell? ⟨b, o + j * 6 + 3, none⟩ ∧ w'.cell? ⟨b, o + j * 6 + 4, none⟩ = wr.cell? ⟨b, o + j * 6 + 4, none⟩ ∧ w'.cell? ⟨b, o + j * 6 + 5, none⟩ = wr.cell? ⟨b, o + j * 6 + 5, none⟩)
            (first | exact ⟨rfl, rfl, rfl, rfl, rfl, rfl, rfl, rfl, rfl, rfl, rfl, rfl⟩ | exact ⟨Hb.out.cell har, Hb.out.cell har, Hb.out.cell har, Hb.out.cell har, Hb.out.cell har, Hb.out.cell har, Hb.out.cell hbr, Hb.out.cell hbr, Hb.out.cell hbr, Hb.out.cell hbr, Hb.out.cell hbr, Hb.out.cell hbr⟩)
            (first
              | (go_at_call 76
                 refine (HCALL.out _ ?_ ?_).mono ?_
                 · exact ExAt.up (Below.refl _ wr).drew d _ HE.out
                 · exact ExAt.up (Below.refl _ wr).drew d _ HF.out
                 rintro r w1 ⟨rfl, hb⟩
                 have Hb := Lib.hid (show Below wr.heap.size wr w1 from ⟨hb.os, hb.tape, hb.output, hb.size, hb.block⟩)
                 clear hb))
          all_goals
            clear c0 c1 c2 c3 c4 c5 d0 d1 d2 d3 d4 d5
            go_wp2_with fail
            go_roundw
            case rel =>
              exact ⟨j + 1, by omega, by go_num, HST2.out, HBE.out.trans (Hb.out.mono HBE.out.size)⟩
            case measure => simp [intOf]; omega
        · have HCALL := Lib.hid (fun w' h1 h2 => (IH.out x y w' h1 h2).mono fun _ _ h => h.no hal)
          have HNO2 := Lib.hid (HNO.out hal)
          clear hal
          go_wp2_with fail
          go_region_held3 (fun w' => w'.cell? ⟨a, o2 + j * 6, none⟩ = wr.cell? ⟨a, o2 + j * 6, none⟩ ∧ w'.cell? ⟨a, o2 + j * 6 + 1, none⟩ = wr.cell? ⟨a, o2 + j * 6 + 1, none⟩ ∧ w'.cell? ⟨a, o2 + j * 6 + 2, none⟩ = wr.cell? ⟨a, o2 + j * 6 + 2, none⟩ ∧ w'.cell? ⟨a, o2 + j * 6 + 3, none⟩ = wr.cell? ⟨a, o2 + j * 6 + 3, none⟩ ∧ w'.cell? ⟨a, o2 + j * 6 + 4, none⟩ = wr.cell? ⟨a, o2 + j * 6 + 4, none⟩ ∧ w'.cell? ⟨a, o2 + j * 6 + 5, none⟩ = wr.cell? ⟨a, o2 + j * 6 + 5, none⟩ ∧ w'.cell? ⟨b, o + j * 6, none⟩ = wr.cell? ⟨b, o + j * 6, none⟩ ∧ w'.cell? ⟨b, o + j * 6 + 1, none⟩ = wr.cell? ⟨b, o + j * 6 + 1, none⟩ ∧ w'.cell? ⟨b, o + j * 6 + 2, none⟩ = wr.cell? ⟨b, o + j * 6 + 2, none⟩ ∧ w'.cell? ⟨b, o + j * 6 + 3, none⟩ = wr.cell? ⟨b, o + j * 6 + 3, none⟩ ∧ w'.cell? ⟨b, o + j * 6 + 4, none⟩ = wr.cell? ⟨b, o + j * 6 + 4, none⟩ ∧ w'.cell? ⟨b, o + j * 6 + 5, none⟩ = wr.cell? ⟨b, o + j * 6 + 5, none⟩)
            (first | exact ⟨rfl, rfl, rfl, rfl, rfl, rfl, rfl, rfl, rfl, rfl, rfl, rfl⟩ | exact ⟨Hb.out.cell har, Hb.out.cell har, Hb.out.cell har, Hb.out.cell har, Hb.out.cell har, Hb.out.cell har, Hb.out.cell hbr, Hb.out.cell hbr, Hb.out.cell hbr, Hb.out.cell hbr, Hb.out.cell hbr, Hb.out.cell hbr⟩)
            (first
              | (go_at_call 76
                 refine (HCALL.out _ ?_ ?_).mono ?_
                 · exact ExAt.up (Below.refl _ wr).drew d _ HE.out
                 · exact ExAt.up (Below.refl _ wr).drew d _ HF.out
                 rintro r w1 ⟨rfl, hb⟩
                 have Hb := Lib.hid (show Below wr.heap.size wr w1 from ⟨hb.os, hb.tape, hb.output, hb.size, hb.block⟩)
                 clear hb))
          all_goals
            clear c0 c1 c2 c3 c4 c5 d0 d1 d2 d3 d4 d5
            go_wp2_with fail
            go_ret
            exact ⟨false, rfl, ⟨(fun h => nomatch h), fun h => absurd h HNO2.out⟩, HBE.out.trans (Hb.out.mono HBE.out.size)⟩
      · go_wp2_with fail
        go_ret
        exact ⟨true, rfl, ⟨fun _ => ⟨HLEN.out, fun m h1 h2 => HAL.out m h1 h2 (by omega)⟩, fun _ => rfl⟩, HBE.out⟩
  · have hlen' : ((ks.length : Int) != (ts.length : Int)) = true := by simp; omega
    go_enter Tryd.func87, Tryd.ntmps87
    go_wp2_with fail
    go_ret
    exact ⟨false, rfl, ⟨(fun h => nomatch h), fun h => absurd h.1 hlen⟩, Below.refl _ _⟩
set_option maxHeartbeats 4000000 in
theorem same_step (d : Nat) (ih : SameAll d) : SameAll (d + 1) := by
  intro e f w he hf
  obtain ⟨op, tm, sl, ks⟩ := e
  obtain ⟨op', tm', sl', ts⟩ := f
  obtain ⟨p, cap, h1, hm, hs, hk⟩ := he
  obtain ⟨p2, cap2, h2, hm2, hs2, hk2⟩ := hf
  have h1' : sl = .slice p ks.length cap := h1
  have h2' : sl' = .slice p2 ts.length cap2 := h2
  clear h1 h2 hm2
  subst h1' h2'
  have HKS := Lib.hid (show KSl w d p ks from ⟨hs, hk⟩); clear hs hk
  have HTS := Lib.hid (show KSl w d p2 ts from ⟨hs2, hk2⟩); clear hs2 hk2
  have HCALL := Lib.hid (fun w' h1 h2 => sames d ih ks ts p p2 cap cap2 w' h1 h2 hm)
  clear ih hm
  obtain ⟨P, hP⟩ : ∃ P : Prop, P = Alike (d + 1) (op, tm, .slice p ks.length cap, ks) (op', tm', .slice p2 ts.length cap2, ts) := ⟨_, rfl⟩
  have HP := Lib.hid (show P ↔ op = op' ∧ tm = tm' ∧ KsAl d ks ts by rw [hP]; exact Iff.rfl)
  rw [← hP]
  clear hP
  obtain ⟨W, hW⟩ : ∃ W, W = (w.alloc (.cells #[.int .i8 op, .string tm.v, .int .i8 tm.x.k, .int .i64 tm.x.n, .string tm.x.t, .slice p ks.length cap] 83)).alloc (.cells #[.int .i8 op', .string tm'.v, .int .i8 tm'.x.k, .int .i64 tm'.x.n, .string tm'.x.t, .slice p2 ts.length cap2] 83) := ⟨_, rfl⟩
  have HBW := Lib.hid (show Below w.heap.size w W by rw [hW]; exact (below_alloc _ _).trans ((below_alloc _ _).mono (by simp)))
  change Calls _ _ #[.agg #[.int .i8 op, .string tm.v, .int .i8 tm.x.k, .int .i64 tm.x.n, .string tm.x.t, .slice p ks.length cap], .agg #[.int .i8 op', .string tm'.v, .int .i8 tm'.x.k, .int .i64 tm'.x.n, .string tm'.x.t, .slice p2 ts.length cap2]] w _
  by_cases ho : op = op'
  · subst ho
    rcases hb : tmSame tm tm' with _ | _
    · have HNE := Lib.hid (show ¬ P from fun h => by
        have h1 := (tmSame_iff tm tm').2 (HP.out.1 h).2.1
        rw [h1] at hb
        cases hb)
      have hq := eql_tm tm tm' false hb
      clear hb
      go_enter Tryd.func76, Tryd.ntmps76
      go_wp2_with fail
      rw [← hW]
      go_ret
      exact ⟨false, rfl, ⟨(fun h => nomatch h), fun h => absurd h HNE.out⟩, HBW.out⟩
    · have HFIN := Lib.hid (show ∀ b : Bool, (b = true ↔ KsAl d ks ts) → (b = true ↔ P) from fun b h9 => by
        have heq := (tmSame_iff tm tm').1 hb
        rw [h9, HP.out]
        exact ⟨fun h => ⟨rfl, heq, h⟩, fun h => h.2.2⟩)
      have hq := eql_tm tm tm' true hb
      clear hb
      go_enter Tryd.func76, Tryd.ntmps76
      go_wp2_with fail
      rw [← hW]
      clear hW hq
      refine (HCALL.out _ (HKS.out.up HBW.out) (HTS.out.up HBW.out)).mono ?_
      rintro r w1 ⟨b, rfl, hb, hbe⟩
      have HB := Lib.hid hb; clear hb
      have Hbe := Lib.hid hbe; clear hbe
      go_wp2_with fail
      go_ret
      exact ⟨b, rfl, HFIN.out b HB.out, HBW.out.trans (Hbe.out.mono HBW.out.size)⟩
  · have q1 : (op == op') = false := beq_eq_false_iff_ne.2 ho
    have HNE := Lib.hid (show ¬ P from fun h => ho (HP.out.1 h).1)
    go_enter Tryd.func76, Tryd.ntmps76
    go_wp2_with fail
    rw [← hW]
    go_ret
    exact ⟨false, rfl, ⟨(fun h => nomatch h), fun h => absurd h HNE.out⟩, HBW.out⟩
theorem same_all : ∀ d, SameAll d
  | 0 => fun e => nomatch e
  | d + 1 => same_step d (same_all d)
open Go.RowKit

theorem no_eq {p q : ByteArray} (h : ¬ p = q) : (p == q) = false ∧ (p.toList == q.toList) = false ∧ ¬ p.toList = q.toList := by
  have h1 : ¬ p.toList = q.toList := fun e => h (by
    rw [ByteArray.toList_eq, ByteArray.toList_eq] at e
    exact bl_eq e)
  refine ⟨?_, beq_eq_false_iff_ne.2 h1, h1⟩
  cases hb : p == q with
  | false => rfl
  | true =>
    exfalso
    refine h (bl_eq ?_)
    have h2 : (p.data == q.data) = true := hb
    show p.data.toList = q.data.toList
    rw [show p.data = q.data from by simpa using h2]
set_option maxHeartbeats 2000000 in
theorem gSameAtom (p q : ByteArray) (xs ys : List Tm) (sv tv : Value) (w : World) (hx : TmSl w sv xs) (hy : TmSl w tv ys) :
    Calls Tryd.prog 16 #[.agg #[.string p, sv], .agg #[.string q, tv]] w (SamePost (p = q ∧ xs = ys) w) := by
  have HX := Lib.hid hx
  have HY := Lib.hid hy
  obtain ⟨p1, c1, rfl, _, _⟩ := hx
  obtain ⟨p2, c2, rfl, _, _⟩ := hy
  obtain ⟨W, hW⟩ : ∃ W, W = (w.alloc (.cells #[.string p, .slice p1 xs.length c1] 29)).alloc (.cells #[.string q, .slice p2 ys.length c2] 29) := ⟨_, rfl⟩
  have HBW := Lib.hid (show Below w.heap.size w W by rw [hW]; exact (below_alloc _ _).trans ((below_alloc _ _).mono (by simp)))
  by_cases hp : p = q
  · subst hp
    go_enter Tryd.func16, Tryd.ntmps16
    go_wp2_with fail
    rw [← hW]
    clear hW
    refine (gSameTerms xs ys _ _ _ (HX.out.up HBW.out) (HY.out.up HBW.out)).mono ?_
    rintro r w1 ⟨b, rfl, hb, hbe⟩
    have HB := Lib.hid hb; clear hb
    have Hbe := Lib.hid hbe; clear hbe
    go_wp2_with fail
    go_ret
    exact ⟨b, rfl, ⟨fun h => ⟨by first | exact rfl | trivial, HB.out.1 h⟩, fun h => HB.out.2 h.2⟩, HBW.out.trans (Hbe.out.mono HBW.out.size)⟩
  · obtain ⟨q1, q2, q3⟩ := no_eq hp
    have HNP := Lib.hid hp; clear hp
    go_enter Tryd.func16, Tryd.ntmps16
    go_wp2_with fail
    rw [← hW]
    go_ret
    exact ⟨false, rfl, ⟨(fun h => nomatch h), fun h => absurd h.1 HNP.out⟩, HBW.out⟩
set_option maxHeartbeats 2000000 in
theorem gSameFact (p q : ByteArray) (xs ys : List Vl) (sv tv : Value) (w : World) (hx : VlSl w sv xs) (hy : VlSl w tv ys) :
    Calls Tryd.prog 32 #[.agg #[.string p, sv], .agg #[.string q, tv]] w (SamePost (p = q ∧ xs = ys) w) := by
  have HX := Lib.hid hx
  have HY := Lib.hid hy
  obtain ⟨p1, c1, rfl, _, _⟩ := hx
  obtain ⟨p2, c2, rfl, _, _⟩ := hy
  obtain ⟨W, hW⟩ : ∃ W, W = (w.alloc (.cells #[.string p, .slice p1 xs.length c1] 46)).alloc (.cells #[.string q, .slice p2 ys.length c2] 46) := ⟨_, rfl⟩
  have HBW := Lib.hid (show Below w.heap.size w W by rw [hW]; exact (below_alloc _ _).trans ((below_alloc _ _).mono (by simp)))
  by_cases hp : p = q
  · subst hp
    go_enter Tryd.func32, Tryd.ntmps32
    go_wp2_with fail
    rw [← hW]
    clear hW
    refine (gSameValues xs ys _ _ _ (HX.out.up HBW.out) (HY.out.up HBW.out)).mono ?_
    rintro r w1 ⟨b, rfl, hb, hbe⟩
    have HB := Lib.hid hb; clear hb
    have Hbe := Lib.hid hbe; clear hbe
    go_wp2_with fail
    go_ret
    exact ⟨b, rfl, ⟨fun h => ⟨by first | exact rfl | trivial, HB.out.1 h⟩, fun h => HB.out.2 h.2⟩, HBW.out.trans (Hbe.out.mono HBW.out.size)⟩
  · obtain ⟨q1, q2, q3⟩ := no_eq hp
    have HNP := Lib.hid hp; clear hp
    go_enter Tryd.func32, Tryd.ntmps32
    go_wp2_with fail
    rw [← hW]
    go_ret
    exact ⟨false, rfl, ⟨(fun h => nomatch h), fun h => absurd h.1 HNP.out⟩, HBW.out⟩
def FcSame (f g : Fc) : Prop := f.p = g.p ∧ f.xs = g.xs
def FsSame (fs gs : List Fc) : Prop := gs.length = fs.length ∧ ∀ i, (h : i < fs.length) → (h' : i < gs.length) → FcSame fs[i] gs[i]
set_option maxHeartbeats 8000000 in
set_option maxRecDepth 100000 in
theorem gSameFacts (ks ts : List Fc) (p p2 : Option Addr) (cap cap2 : Nat) (w : World) (hs : FcsAt w p ks) (hs2 : FcsAt w p2 ts) (hm : ks.length ≤ 4398046511104) :
    Calls Tryd.prog 14 #[.slice p ks.length cap, .slice p2 ts.length cap2] w (SamePost (FsSame ks ts) w) := by
  have HS := Lib.hid hs; clear hs
  have HT := Lib.hid hs2; clear hs2
  by_cases hlen : ks.length = ts.length
  · have hlen' : ((ks.length : Int) != (ts.length : Int)) = false := by simp [hlen]
    go_enter Tryd.func14, Tryd.ntmps14
    go_wp2_with fail
    clear hlen'
    have HLEN := Lib.hid hlen; clear hlen
    go_loopw [5] (fun i wr => ∃ j : Nat, j ≤ ks.length ∧ i = .int .i64 j ∧ (∀ m, (h : m < ks.length) → (h' : m < ts.length) → m < j → FcSame ks[m] ts[m]) ∧ Below w.heap.size w wr) (fun i _ => ks.length - (intOf i).toNat)
    case atStart => exact ⟨0, by omega, rfl, fun m _ _ h => by omega, Below.refl _ _⟩
    case round =>
      obtain ⟨j, hj, rfl, hal, hbe⟩ := hrel
      have HAL := Lib.hid hal; clear hal
      have HBE := Lib.hid hbe; clear hbe
      by_cases hlt : j < ks.length
      · have hlt2 : j < ts.length := by have := HLEN.out; omega
        rcases HS.out.1 with h0 | ⟨b, o, hp, hb, hc⟩
        · omega
        rcases HT.out.1 with h0 | ⟨a, o2, hp2, ha, hc2⟩
        · omega
        subst hp hp2
        have hbr : b < wr.heap.size := Nat.lt_of_lt_of_le hb HBE.out.size
        have har : a < wr.heap.size := Nat.lt_of_lt_of_le ha HBE.out.size
        have hck := (hc j hlt).up HBE.out hb
        have hct := (hc2 j hlt2).up HBE.out ha
        clear hc hc2
        have HE := Lib.hid ((HS.out.2 ks[j] (List.getElem_mem hlt)).up HBE.out)
        have HF := Lib.hid ((HT.out.2 ts[j] (List.getElem_mem hlt2)).up HBE.out)
        have HST := Lib.hid (show FcSame ks[j] ts[j] → ∀ m, (h : m < ks.length) → (h' : m < ts.length) → m < j + 1 → FcSame ks[m] ts[m] from fun h9 m hm1 hm2 hmj => by
          by_cases e : m = j
          · subst e; exact h9
          · exact HAL.out m hm1 hm2 (by omega))
        have HNO := Lib.hid (show ¬ FcSame ks[j] ts[j] → ¬ FsSame ks ts from fun h9 h8 => h9 (h8.2 j hlt hlt2))
        obtain ⟨x, hx⟩ : ∃ x, x = ks[j] := ⟨_, rfl⟩
        obtain ⟨y, hy⟩ : ∃ y, y = ts[j] := ⟨_, rfl⟩
        rw [← hx] at hck HE HST HNO
        rw [← hy] at hct HF HST HNO
        clear hx hy
        obtain ⟨c0, c1⟩ := hck
        obtain ⟨d0, d1⟩ := hct
        have hcall := fun w' h1 h2 => gSameFact x.p y.p x.xs y.xs x.sv y.sv w' h1 h2
        obtain ⟨q, cp, hsv, _, _⟩ := HE.out
        obtain ⟨q', cp', hsv', _, _⟩ := HF.out
        rw [hsv] at c1 hcall
        rw [hsv'] at d1 hcall
        rw [hsv] at HE
        rw [hsv'] at HF
        clear hsv hsv'
        by_cases hal : FcSame x y
        · have HCALL := Lib.hid (fun w' h1 h2 => (hcall w' h1 h2).mono fun _ _ h => SamePost.yes hal h)
          have HST2 := Lib.hid (HST.out hal)
          clear hal hcall
          go_wp2_with fail
          go_region_held3 (fun w' => w'.cell? ⟨a, o2 + j * 2, none⟩ = wr.cell? ⟨a, o2 + j * 2, none⟩ ∧ w'.cell? ⟨a, o2 + j * 2 + 1, none⟩ = wr.cell? ⟨a, o2 + j * 2 + 1, none⟩ ∧ w'.cell? ⟨b, o + j * 2, none⟩ = wr.cell? ⟨b, o + j * 2, none⟩ ∧ w'.cell? ⟨b, o + j * 2 + 1, none⟩ = wr.cell? ⟨b, o + j * 2 + 1, none⟩)
            (first | exact ⟨rfl, rfl, rfl, rfl⟩ | exact ⟨Hb.out.cell har, Hb.out.cell har, Hb.out.cell hbr, Hb.out.cell hbr⟩)
            (first
              | (go_at_call 32
                 refine (HCALL.out _ ?_ ?_).mono ?_
                 · exact HE.out.up (Below.refl _ wr).drew
                 · exact HF.out.up (Below.refl _ wr).drew
                 rintro r w1 ⟨rfl, hb⟩
                 have Hb := Lib.hid (show Below wr.heap.size wr w1 from ⟨hb.os, hb.tape, hb.output, hb.size, hb.block⟩)
                 clear hb))
          all_goals
            clear c0 c1 d0 d1
            go_wp2_with fail
            go_roundw
            case rel => exact ⟨j + 1, by omega, by go_num, HST2.out, HBE.out.trans (Hb.out.mono HBE.out.size)⟩
            case measure => simp [intOf]; omega
        · have HCALL := Lib.hid (fun w' h1 h2 => (hcall w' h1 h2).mono fun _ _ h => SamePost.no hal h)
          have HNO2 := Lib.hid (HNO.out hal)
          clear hal hcall
          go_wp2_with fail
          go_region_held3 (fun w' => w'.cell? ⟨a, o2 + j * 2, none⟩ = wr.cell? ⟨a, o2 + j * 2, none⟩ ∧ w'.cell? ⟨a, o2 + j * 2 + 1, none⟩ = wr.cell? ⟨a, o2 + j * 2 + 1, none⟩ ∧ w'.cell? ⟨b, o + j * 2, none⟩ = wr.cell? ⟨b, o + j * 2, none⟩ ∧ w'.cell? ⟨b, o + j * 2 + 1, none⟩ = wr.cell? ⟨b, o + j * 2 + 1, none⟩)
            (first | exact ⟨rfl, rfl, rfl, rfl⟩ | exact ⟨Hb.out.cell har, Hb.out.cell har, Hb.out.cell hbr, Hb.out.cell hbr⟩)
            (first
              | (go_at_call 32
                 refine (HCALL.out _ ?_ ?_).mono ?_
                 · exact HE.out.up (Below.refl _ wr).drew
                 · exact HF.out.up (Below.refl _ wr).drew
                 rintro r w1 ⟨rfl, hb⟩
                 have Hb := Lib.hid (show Below wr.heap.size wr w1 from ⟨hb.os, hb.tape, hb.output, hb.size, hb.block⟩)
                 clear hb))
          all_goals
            clear c0 c1 d0 d1
            go_wp2_with fail
            go_ret
            exact ⟨false, rfl, ⟨(fun h => nomatch h), fun h => absurd h HNO2.out⟩, HBE.out.trans (Hb.out.mono HBE.out.size)⟩
      · go_wp2_with fail
        go_ret
        exact ⟨true, rfl, ⟨fun _ => ⟨HLEN.out.symm, fun m h1 h2 => HAL.out m h1 h2 (by omega)⟩, fun _ => rfl⟩, HBE.out⟩
  · have hlen' : ((ks.length : Int) != (ts.length : Int)) = true := by simp; omega
    go_enter Tryd.func14, Tryd.ntmps14
    go_wp2_with fail
    go_ret
    exact ⟨false, rfl, ⟨(fun h => nomatch h), fun h => absurd h.1.symm hlen⟩, Below.refl _ _⟩
set_option maxHeartbeats 8000000 in
set_option maxRecDepth 100000 in
theorem gSameLit (d : Nat) (x y : Lt d) (w : World) (hx : LtAt w x) (hy : LtAt w y) :
    Calls Tryd.prog 53 #[.agg #[.int .i8 x.k, .string x.p, x.sv, .int .i8 x.r, .int .i8 (exOp d x.l), .string (exTm d x.l).v, .int .i8 (exTm d x.l).x.k, .int .i64 (exTm d x.l).x.n, .string (exTm d x.l).x.t, exSl d x.l, .int .i8 (exOp d x.g), .string (exTm d x.g).v, .int .i8 (exTm d x.g).x.k, .int .i64 (exTm d x.g).x.n, .string (exTm d x.g).x.t, exSl d x.g], .agg #[.int .i8 y.k, .string y.p, y.sv, .int .i8 y.r, .int .i8 (exOp d y.l), .string (exTm d y.l).v, .int .i8 (exTm d y.l).x.k, .int .i64 (exTm d y.l).x.n, .string (exTm d y.l).x.t, exSl d y.l, .int .i8 (exOp d y.g), .string (exTm d y.g).v, .int .i8 (exTm d y.g).x.k, .int .i64 (exTm d y.g).x.n, .string (exTm d y.g).x.t, exSl d y.g]] w (SamePost (LtLike x y) w) := by
  have HX := Lib.hid hx
  have HY := Lib.hid hy
  have hA := fun w' h1 h2 => gSameAtom x.p y.p x.ts y.ts x.sv y.sv w' h1 h2
  have hL := fun w' h1 h2 => same_all d x.l y.l w' h1 h2
  have hG := fun w' h1 h2 => same_all d x.g y.g w' h1 h2
  have UA := Lib.hid (fun w' (hb : Below w.heap.size w w') => And.intro (hx.up hb).at_ (hy.up hb).at_)
  have UL := Lib.hid (fun w' (hb : Below w.heap.size w w') => And.intro (hx.up hb).l_ (hy.up hb).l_)
  have UG := Lib.hid (fun w' (hb : Below w.heap.size w w') => And.intro (hx.up hb).g_ (hy.up hb).g_)
  obtain ⟨q, qc, hsv, _, _⟩ := hx.at_
  obtain ⟨pl, cl, hsl⟩ := ex_sl2 hx.l_
  obtain ⟨pg, cg, hsg⟩ := ex_sl2 hx.g_
  obtain ⟨q', qc', hsv', _, _⟩ := hy.at_
  obtain ⟨pl', cl', hsl'⟩ := ex_sl2 hy.l_
  obtain ⟨pg', cg', hsg'⟩ := ex_sl2 hy.g_
  rw [hsv, hsv'] at hA UA
  rw [hsl, hsl'] at hL
  rw [hsg, hsg'] at hG
  rw [hsv, hsv', hsl, hsl', hsg, hsg']
  have HA := Lib.hid hA; clear hA
  have HL := Lib.hid hL; clear hL
  have HG := Lib.hid hG; clear hG
  clear hsv hsv' hsl hsl' hsg hsg' hx hy HX HY
  obtain ⟨W, hW⟩ : ∃ W, W = (w.alloc (.cells #[.int .i8 x.k, .string x.p, .slice q x.ts.length qc, .int .i8 x.r, .int .i8 (exOp d x.l), .string (exTm d x.l).v, .int .i8 (exTm d x.l).x.k, .int .i64 (exTm d x.l).x.n, .string (exTm d x.l).x.t, .slice pl (exLen d x.l) cl, .int .i8 (exOp d x.g), .string (exTm d x.g).v, .int .i8 (exTm d x.g).x.k, .int .i64 (exTm d x.g).x.n, .string (exTm d x.g).x.t, .slice pg (exLen d x.g) cg] 94)).alloc (.cells #[.int .i8 y.k, .string y.p, .slice q' y.ts.length qc', .int .i8 y.r, .int .i8 (exOp d y.l), .string (exTm d y.l).v, .int .i8 (exTm d y.l).x.k, .int .i64 (exTm d y.l).x.n, .string (exTm d y.l).x.t, .slice pl' (exLen d y.l) cl', .int .i8 (exOp d y.g), .string (exTm d y.g).v, .int .i8 (exTm d y.g).x.k, .int .i64 (exTm d y.g).x.n, .string (exTm d y.g).x.t, .slice pg' (exLen d y.g) cg'] 94) := ⟨_, rfl⟩
  have HBW := Lib.hid (show Below w.heap.size w W by rw [hW]; exact (below_alloc _ _).trans ((below_alloc _ _).mono (by simp)))
  have hsW : W.heap.size = w.heap.size + 1 + 1 := by rw [hW]; simp
  have HBX := Lib.hid (show W.heap[w.heap.size]? = some (.cells #[.int .i8 x.k, .string x.p, .slice q x.ts.length qc, .int .i8 x.r, .int .i8 (exOp d x.l), .string (exTm d x.l).v, .int .i8 (exTm d x.l).x.k, .int .i64 (exTm d x.l).x.n, .string (exTm d x.l).x.t, .slice pl (exLen d x.l) cl, .int .i8 (exOp d x.g), .string (exTm d x.g).v, .int .i8 (exTm d x.g).x.k, .int .i64 (exTm d x.g).x.n, .string (exTm d x.g).x.t, .slice pg (exLen d x.g) cg] 94 (0, 0)) by rw [hW, Lib.alloc_old _ _ _ (by simp)]; exact heap_alloc_new w _)
  have HBY := Lib.hid (show W.heap[w.heap.size + 1]? = some (.cells #[.int .i8 y.k, .string y.p, .slice q' y.ts.length qc', .int .i8 y.r, .int .i8 (exOp d y.l), .string (exTm d y.l).v, .int .i8 (exTm d y.l).x.k, .int .i64 (exTm d y.l).x.n, .string (exTm d y.l).x.t, .slice pl' (exLen d y.l) cl', .int .i8 (exOp d y.g), .string (exTm d y.g).v, .int .i8 (exTm d y.g).x.k, .int .i64 (exTm d y.g).x.n, .string (exTm d y.g).x.t, .slice pg' (exLen d y.g) cg'] 94 (0, 0)) by rw [hW]; simpa using heap_alloc_new (w.alloc _) _)
  by_cases hk : x.k = y.k
  · by_cases hr : x.r = y.r
    · have HKR := Lib.hid (And.intro hk hr)
      have q1 : (x.k == y.k) = true := beq_iff_eq.2 hk
      have q2 : (x.r == y.r) = true := beq_iff_eq.2 hr
      clear hk hr
      go_enter Tryd.func53, Tryd.ntmps53
      go_wp2_with fail
      rw [← hW]
      clear hW q1 q2
      refine (HA.out _ (UA.out _ HBW.out).1 (UA.out _ HBW.out).2).mono ?_
      rintro r w1 ⟨b1, rfl, hb1, hbe⟩
      have HB := Lib.hid hbe; clear hbe
      have HB1 := Lib.hid hb1; clear hb1
      have HBA := Lib.hid (HBW.out.trans (HB.out.mono HBW.out.size))
      obtain ⟨x0, x1, x2, x3, x4, x5, x6, x7, x8, x9, x10, x11, x12, x13, x14, x15⟩ := sixteen ((HB.out.block w.heap.size (by omega)).trans HBX.out)
      obtain ⟨y0, y1, y2, y3, y4, y5, y6, y7, y8, y9, y10, y11, y12, y13, y14, y15⟩ := sixteen ((HB.out.block (w.heap.size + 1) (by omega)).trans HBY.out)
      cases b1
      case false =>
        go_wp2_with fail
        go_ret
        exact ⟨false, rfl, ⟨(fun h => nomatch h), fun h => nomatch HB1.out.2 ⟨h.p_, h.ts_⟩⟩, HBA.out⟩
      case true =>
        go_wp2_with fail
        refine (HL.out _ (UL.out _ HBA.out).1 (UL.out _ HBA.out).2).mono ?_
        rintro r w2 ⟨b2, rfl, hb2, hbe⟩
        clear x0 x1 x2 x3 x4 x5 x6 x7 x8 x9 x10 x11 x12 x13 x14 x15 y0 y1 y2 y3 y4 y5 y6 y7 y8 y9 y10 y11 y12 y13 y14 y15
        have HB' := Lib.hid (HB.out.trans (hbe.mono HB.out.size)); clear hbe
        have HB2 := Lib.hid hb2; clear hb2
        have HBL := Lib.hid (HBW.out.trans (HB'.out.mono HBW.out.size))
        obtain ⟨x0, x1, x2, x3, x4, x5, x6, x7, x8, x9, x10, x11, x12, x13, x14, x15⟩ := sixteen ((HB'.out.block w.heap.size (by omega)).trans HBX.out)
        obtain ⟨y0, y1, y2, y3, y4, y5, y6, y7, y8, y9, y10, y11, y12, y13, y14, y15⟩ := sixteen ((HB'.out.block (w.heap.size + 1) (by omega)).trans HBY.out)
        cases b2
        case false =>
          go_wp2_with fail
          go_ret
          exact ⟨false, rfl, ⟨(fun h => nomatch h), fun h => nomatch HB2.out.2 h.l_⟩, HBL.out⟩
        case true =>
          go_wp2_with fail
          refine (HG.out _ (UG.out _ HBL.out).1 (UG.out _ HBL.out).2).mono ?_
          rintro r w3 ⟨b3, rfl, hb3, hbe⟩
          clear x0 x1 x2 x3 x4 x5 x6 x7 x8 x9 x10 x11 x12 x13 x14 x15 y0 y1 y2 y3 y4 y5 y6 y7 y8 y9 y10 y11 y12 y13 y14 y15
          have HBG := Lib.hid (HBL.out.trans (hbe.mono HBL.out.size)); clear hbe
          have HB3 := Lib.hid hb3; clear hb3
          go_wp2_with fail
          go_ret
          exact ⟨b3, rfl, ⟨fun h => ⟨HKR.out.1, (HB1.out.1 (by first | exact rfl | trivial)).1, (HB1.out.1 (by first | exact rfl | trivial)).2, HKR.out.2, HB2.out.1 (by first | exact rfl | trivial), HB3.out.1 h⟩, fun h => HB3.out.2 h.g_⟩, HBG.out⟩
    · have q1 : (x.k == y.k) = true := beq_iff_eq.2 hk
      have q2 : (x.r == y.r) = false := beq_eq_false_iff_ne.2 hr
      have HNE := Lib.hid (show ¬ LtLike x y from fun h => hr h.r_)
      clear hk hr
      go_enter Tryd.func53, Tryd.ntmps53
      go_wp2_with fail
      rw [← hW]
      go_ret
      exact ⟨false, rfl, ⟨(fun h => nomatch h), fun h => absurd h HNE.out⟩, HBW.out⟩
  · have q1 : (x.k == y.k) = false := beq_eq_false_iff_ne.2 hk
    have HNE := Lib.hid (show ¬ LtLike x y from fun h => hk h.k_)
    clear hk
    go_enter Tryd.func53, Tryd.ntmps53
    go_wp2_with fail
    rw [← hW]
    go_ret
    exact ⟨false, rfl, ⟨(fun h => nomatch h), fun h => absurd h HNE.out⟩, HBW.out⟩
set_option maxHeartbeats 8000000 in
set_option maxRecDepth 100000 in
theorem gSameLits (d : Nat) (ks ts : List (Lt d)) (p p2 : Option Addr) (cap cap2 : Nat) (w : World) (hs : LtsAt w d p ks) (hs2 : LtsAt w d p2 ts) (hm : ks.length ≤ 1000000000000) :
    Calls Tryd.prog 31 #[.slice p ks.length cap, .slice p2 ts.length cap2] w (SamePost (LsLike ks ts) w) := by
  have HS := Lib.hid hs; clear hs
  have HT := Lib.hid hs2; clear hs2
  by_cases hlen : ks.length = ts.length
  · have hlen' : ((ks.length : Int) != (ts.length : Int)) = false := by simp [hlen]
    go_enter Tryd.func31, Tryd.ntmps31
    go_wp2_with fail
    clear hlen'
    have HLEN := Lib.hid hlen; clear hlen
    go_loopw [5] (fun i wr => ∃ j : Nat, j ≤ ks.length ∧ i = .int .i64 j ∧ (∀ m, (h : m < ks.length) → (h' : m < ts.length) → m < j → LtLike ks[m] ts[m]) ∧ Below w.heap.size w wr) (fun i _ => ks.length - (intOf i).toNat)
    case atStart => exact ⟨0, by omega, rfl, fun m _ _ h => by omega, Below.refl _ _⟩
    case round =>
      obtain ⟨j, hj, rfl, hal, hbe⟩ := hrel
      have HAL := Lib.hid hal; clear hal
      have HBE := Lib.hid hbe; clear hbe
      by_cases hlt : j < ks.length
      · have hlt2 : j < ts.length := by have := HLEN.out; omega
        rcases HS.out.1 with h0 | ⟨b, o, hp, hb, hc⟩
        · omega
        rcases HT.out.1 with h0 | ⟨a, o2, hp2, ha, hc2⟩
        · omega
        subst hp hp2
        have hbr : b < wr.heap.size := Nat.lt_of_lt_of_le hb HBE.out.size
        have har : a < wr.heap.size := Nat.lt_of_lt_of_le ha HBE.out.size
        have hck := (hc j hlt).up HBE.out hb
        have hct := (hc2 j hlt2).up HBE.out ha
        clear hc hc2
        have HE := Lib.hid ((HS.out.2 ks[j] (List.getElem_mem hlt)).up HBE.out)
        have HF := Lib.hid ((HT.out.2 ts[j] (List.getElem_mem hlt2)).up HBE.out)
        have HST := Lib.hid (show LtLike ks[j] ts[j] → ∀ m, (h : m < ks.length) → (h' : m < ts.length) → m < j + 1 → LtLike ks[m] ts[m] from fun h9 m hm1 hm2 hmj => by
          by_cases e : m = j
          · subst e; exact h9
          · exact HAL.out m hm1 hm2 (by omega))
        have HNO := Lib.hid (show ¬ LtLike ks[j] ts[j] → ¬ LsLike ks ts from fun h9 h8 => h9 (h8.2 j hlt hlt2))
        obtain ⟨x, hx⟩ : ∃ x, x = ks[j] := ⟨_, rfl⟩
        obtain ⟨y, hy⟩ : ∃ y, y = ts[j] := ⟨_, rfl⟩
        rw [← hx] at hck HE HST HNO
        rw [← hy] at hct HF HST HNO
        clear hx hy
        obtain ⟨c0, c1, c2, c3, c4, c5, c6, c7, c8, c9, c10, c11, c12, c13, c14, c15⟩ := hck
        obtain ⟨d0, d1, d2, d3, d4, d5, d6, d7, d8, d9, d10, d11, d12, d13, d14, d15⟩ := hct
        have hcall := fun w' h1 h2 => gSameLit d x y w' h1 h2
        have hE2 := HE.out
        have hF2 := HF.out
        obtain ⟨q, qc, hsv, _, _⟩ := hE2.at_
        obtain ⟨pl, cl, hsl⟩ := ex_sl2 hE2.l_
        obtain ⟨pg, cg, hsg⟩ := ex_sl2 hE2.g_
        obtain ⟨q', qc', hsv', _, _⟩ := hF2.at_
        obtain ⟨pl', cl', hsl'⟩ := ex_sl2 hF2.l_
        obtain ⟨pg', cg', hsg'⟩ := ex_sl2 hF2.g_
        rw [hsv] at c2
        rw [hsl] at c9
        rw [hsg] at c15
        rw [hsv'] at d2
        rw [hsl'] at d9
        rw [hsg'] at d15
        rw [hsv, hsv', hsl, hsl', hsg, hsg'] at hcall
        clear hsv hsv' hsl hsl' hsg hsg' hE2 hF2
        by_cases hal : LtLike x y
        · have HCALL := Lib.hid (fun w' h1 h2 => (hcall w' h1 h2).mono fun _ _ h => SamePost.yes hal h)
          have HST2 := Lib.hid (HST.out hal)
          clear hal hcall
          go_wp2_with fail
          go_region_held3 (fun w' => w'.cell? ⟨a, o2 + j * 16, none⟩ = wr.cell? ⟨a, o2 + j * 16, none⟩ ∧ w'.cell? ⟨a, o2 + j * 16 + 1, none⟩ = wr.cell? ⟨a, o2 + j * 16 + 1, none⟩ ∧ w'.cell? ⟨a, o2 + j * 16 + 2, none⟩ = wr.cell? ⟨a, o2 + j * 16 + 2, none⟩ ∧ w'.cell? ⟨a, o2 + j * 16 + 3, none⟩ = wr.cell? ⟨a, o2 + j * 16 + 3, none⟩ ∧ w'.cell? ⟨a, o2 + j * 16 + 4, none⟩ = wr.cell? ⟨a, o2 + j * 16 + 4, none⟩ ∧ w'.cell? ⟨a, o2 + j * 16 + 5, none⟩ = wr.cell? ⟨a, o2 + j * 16 + 5, none⟩ ∧ w'.cell? ⟨a, o2 + j * 16 + 6, none⟩ = wr.cell? ⟨a, o2 + j * 16 + 6, none⟩ ∧ w'.cell? ⟨a, o2 + j * 16 + 7, none⟩ = wr.cell? ⟨a, o2 + j * 16 + 7, none⟩ ∧ w'.cell? ⟨a, o2 + j * 16 + 8, none⟩ = wr.cell? ⟨a, o2 + j * 16 + 8, none⟩ ∧ w'.cell? ⟨a, o2 + j * 16 + 9, none⟩ = wr.cell? ⟨a, o2 + j * 16 + 9, none⟩ ∧ w'.cell? ⟨a, o2 + j * 16 + 10, none⟩ = wr.cell? ⟨a, o2 + j * 16 + 10, none⟩ ∧ w'.cell? ⟨a, o2 + j * 16 + 11, none⟩ = wr.cell? ⟨a, o2 + j * 16 + 11, none⟩ ∧ w'.cell? ⟨a, o2 + j * 16 + 12, none⟩ = wr.cell? ⟨a, o2 + j * 16 + 12, none⟩ ∧ w'.cell? ⟨a, o2 + j * 16 + 13, none⟩ = wr.cell? ⟨a, o2 + j * 16 + 13, none⟩ ∧ w'.cell? ⟨a, o2 + j * 16 + 14, none⟩ = wr.cell? ⟨a, o2 + j * 16 + 14, none⟩ ∧ w'.cell? ⟨a, o2 + j * 16 + 15, none⟩ = wr.cell? ⟨a, o2 + j * 16 + 15, none⟩ ∧ w'.cell? ⟨b, o + j * 16, none⟩ = wr.cell? ⟨b, o + j * 16, none⟩ ∧ w'.cell? ⟨b, o + j * 16 + 1, none⟩ = wr.cell? ⟨b, o + j * 16 + 1, none⟩ ∧ w'.cell? ⟨b, o + j * 16 + 2, none⟩ = wr.cell? ⟨b, o + j * 16 + 2, none⟩ ∧ w'.cell? ⟨b, o + j * 16 + 3, none⟩ = wr.cell? ⟨b, o + j * 16 + 3, none⟩ ∧ w'.cell? ⟨b, o + j * 16 + 4, none⟩ = wr.cell? ⟨b, o + j * 16 + 4, none⟩ ∧ w'.cell? ⟨b, o + j * 16 + 5, none⟩ = wr.cell? ⟨b, o + j * 16 + 5, none⟩ ∧ w'.cell? ⟨b, o + j * 16 + 6, none⟩ = wr.cell? ⟨b, o + j * 16 + 6, none⟩ ∧ w'.cell? ⟨b, o + j * 16 + 7, none⟩ = wr.cell? ⟨b, o + j * 16 + 7, none⟩ ∧ w'.cell? ⟨b, o + j * 16 + 8, none⟩ = wr.cell? ⟨b, o + j * 16 + 8, none⟩ ∧ w'.cell? ⟨b, o + j * 16 + 9, none⟩ = wr.cell? ⟨b, o + j * 16 + 9, none⟩ ∧ w'.cell? ⟨b, o + j * 16 + 10, none⟩ = wr.cell? ⟨b, o + j * 16 + 10, none⟩ ∧ w'.cell? ⟨b, o + j * 16 + 11, none⟩ = wr.cell? ⟨b, o + j * 16 + 11, none⟩ ∧ w'.cell? ⟨b, o + j * 16 + 12, none⟩ = wr.cell? ⟨b, o + j * 16 + 12, none⟩ ∧ w'.cell? ⟨b, o + j * 16 + 13, none⟩ = wr.cell? ⟨b, o + j * 16 + 13, none⟩ ∧ w'.cell? ⟨b, o + j * 16 + 14, none⟩ = wr.cell? ⟨b, o + j * 16 + 14, none⟩ ∧ w'.cell? ⟨b, o + j * 16 + 15, none⟩ = wr.cell? ⟨b, o + j * 16 + 15, none⟩)
            (first | exact ⟨rfl, rfl, rfl, rfl, rfl, rfl, rfl, rfl, rfl, rfl, rfl, rfl, rfl, rfl, rfl, rfl, rfl, rfl, rfl, rfl, rfl, rfl, rfl, rfl, rfl, rfl, rfl, rfl, rfl, rfl, rfl, rfl⟩ | exact ⟨Hb.out.cell har, Hb.out.cell har, Hb.out.cell har, Hb.out.cell har, Hb.out.cell har, Hb.out.cell har, Hb.out.cell har, Hb.out.cell har, Hb.out.cell har, Hb.out.cell har, Hb.out.cell har, Hb.out.cell har, Hb.out.cell har, Hb.out.cell har, Hb.out.cell har, Hb.out.cell har, Hb.out.cell hbr, Hb.out.cell hbr, Hb.out.cell hbr, Hb.out.cell hbr, Hb.out.cell hbr, Hb.out.cell hbr, Hb.out.cell hbr, Hb.out.cell hbr, Hb.out.cell hbr, Hb.out.cell hbr, Hb.out.cell hbr, Hb.out.cell hbr, Hb.out.cell hbr, Hb.out.cell hbr, Hb.out.cell hbr, Hb.out.cell hbr⟩)
            (first
              | (go_at_call 53
                 refine (HCALL.out _ ?_ ?_).mono ?_
                 · exact HE.out.up (Below.refl _ wr).drew
                 · exact HF.out.up (Below.refl _ wr).drew
                 rintro r w1 ⟨rfl, hb⟩
                 have Hb := Lib.hid (show Below wr.heap.size wr w1 from ⟨hb.os, hb.tape, hb.output, hb.size, hb.block⟩)
                 clear hb))
          all_goals
            clear c0 c1 c2 c3 c4 c5 c6 c7 c8 c9 c10 c11 c12 c13 c14 c15 d0 d1 d2 d3 d4 d5 d6 d7 d8 d9 d10 d11 d12 d13 d14 d15
            go_wp2_with fail
            go_roundw
            case rel => exact ⟨j + 1, by omega, by go_num, HST2.out, HBE.out.trans (Hb.out.mono HBE.out.size)⟩
            case measure => simp [intOf]; omega
        · have HCALL := Lib.hid (fun w' h1 h2 => (hcall w' h1 h2).mono fun _ _ h => SamePost.no hal h)
          have HNO2 := Lib.hid (HNO.out hal)
          clear hal hcall
          go_wp2_with fail
          go_region_held3 (fun w' => w'.cell? ⟨a, o2 + j * 16, none⟩ = wr.cell? ⟨a, o2 + j * 16, none⟩ ∧ w'.cell? ⟨a, o2 + j * 16 + 1, none⟩ = wr.cell? ⟨a, o2 + j * 16 + 1, none⟩ ∧ w'.cell? ⟨a, o2 + j * 16 + 2, none⟩ = wr.cell? ⟨a, o2 + j * 16 + 2, none⟩ ∧ w'.cell? ⟨a, o2 + j * 16 + 3, none⟩ = wr.cell? ⟨a, o2 + j * 16 + 3, none⟩ ∧ w'.cell? ⟨a, o2 + j * 16 + 4, none⟩ = wr.cell? ⟨a, o2 + j * 16 + 4, none⟩ ∧ w'.cell? ⟨a, o2 + j * 16 + 5, none⟩ = wr.cell? ⟨a, o2 + j * 16 + 5, none⟩ ∧ w'.cell? ⟨a, o2 + j * 16 + 6, none⟩ = wr.cell? ⟨a, o2 + j * 16 + 6, none⟩ ∧ w'.cell? ⟨a, o2 + j * 16 + 7, none⟩ = wr.cell? ⟨a, o2 + j * 16 + 7, none⟩ ∧ w'.cell? ⟨a, o2 + j * 16 + 8, none⟩ = wr.cell? ⟨a, o2 + j * 16 + 8, none⟩ ∧ w'.cell? ⟨a, o2 + j * 16 + 9, none⟩ = wr.cell? ⟨a, o2 + j * 16 + 9, none⟩ ∧ w'.cell? ⟨a, o2 + j * 16 + 10, none⟩ = wr.cell? ⟨a, o2 + j * 16 + 10, none⟩ ∧ w'.cell? ⟨a, o2 + j * 16 + 11, none⟩ = wr.cell? ⟨a, o2 + j * 16 + 11, none⟩ ∧ w'.cell? ⟨a, o2 + j * 16 + 12, none⟩ = wr.cell? ⟨a, o2 + j * 16 + 12, none⟩ ∧ w'.cell? ⟨a, o2 + j * 16 + 13, none⟩ = wr.cell? ⟨a, o2 + j * 16 + 13, none⟩ ∧ w'.cell? ⟨a, o2 + j * 16 + 14, none⟩ = wr.cell? ⟨a, o2 + j * 16 + 14, none⟩ ∧ w'.cell? ⟨a, o2 + j * 16 + 15, none⟩ = wr.cell? ⟨a, o2 + j * 16 + 15, none⟩ ∧ w'.cell? ⟨b, o + j * 16, none⟩ = wr.cell? ⟨b, o + j * 16, none⟩ ∧ w'.cell? ⟨b, o + j * 16 + 1, none⟩ = wr.cell? ⟨b, o + j * 16 + 1, none⟩ ∧ w'.cell? ⟨b, o + j * 16 + 2, none⟩ = wr.cell? ⟨b, o + j * 16 + 2, none⟩ ∧ w'.cell? ⟨b, o + j * 16 + 3, none⟩ = wr.cell? ⟨b, o + j * 16 + 3, none⟩ ∧ w'.cell? ⟨b, o + j * 16 + 4, none⟩ = wr.cell? ⟨b, o + j * 16 + 4, none⟩ ∧ w'.cell? ⟨b, o + j * 16 + 5, none⟩ = wr.cell? ⟨b, o + j * 16 + 5, none⟩ ∧ w'.cell? ⟨b, o + j * 16 + 6, none⟩ = wr.cell? ⟨b, o + j * 16 + 6, none⟩ ∧ w'.cell? ⟨b, o + j * 16 + 7, none⟩ = wr.cell? ⟨b, o + j * 16 + 7, none⟩ ∧ w'.cell? ⟨b, o + j * 16 + 8, none⟩ = wr.cell? ⟨b, o + j * 16 + 8, none⟩ ∧ w'.cell? ⟨b, o + j * 16 + 9, none⟩ = wr.cell? ⟨b, o + j * 16 + 9, none⟩ ∧ w'.cell? ⟨b, o + j * 16 + 10, none⟩ = wr.cell? ⟨b, o + j * 16 + 10, none⟩ ∧ w'.cell? ⟨b, o + j * 16 + 11, none⟩ = wr.cell? ⟨b, o + j * 16 + 11, none⟩ ∧ w'.cell? ⟨b, o + j * 16 + 12, none⟩ = wr.cell? ⟨b, o + j * 16 + 12, none⟩ ∧ w'.cell? ⟨b, o + j * 16 + 13, none⟩ = wr.cell? ⟨b, o + j * 16 + 13, none⟩ ∧ w'.cell? ⟨b, o + j * 16 + 14, none⟩ = wr.cell? ⟨b, o + j * 16 + 14, none⟩ ∧ w'.cell? ⟨b, o + j * 16 + 15, none⟩ = wr.cell? ⟨b, o + j * 16 + 15, none⟩)
            (first | exact ⟨rfl, rfl, rfl, rfl, rfl, rfl, rfl, rfl, rfl, rfl, rfl, rfl, rfl, rfl, rfl, rfl, rfl, rfl, rfl, rfl, rfl, rfl, rfl, rfl, rfl, rfl, rfl, rfl, rfl, rfl, rfl, rfl⟩ | exact ⟨Hb.out.cell har, Hb.out.cell har, Hb.out.cell har, Hb.out.cell har, Hb.out.cell har, Hb.out.cell har, Hb.out.cell har, Hb.out.cell har, Hb.out.cell har, Hb.out.cell har, Hb.out.cell har, Hb.out.cell har, Hb.out.cell har, Hb.out.cell har, Hb.out.cell har, Hb.out.cell har, Hb.out.cell hbr, Hb.out.cell hbr, Hb.out.cell hbr, Hb.out.cell hbr, Hb.out.cell hbr, Hb.out.cell hbr, Hb.out.cell hbr, Hb.out.cell hbr, Hb.out.cell hbr, Hb.out.cell hbr, Hb.out.cell hbr, Hb.out.cell hbr, Hb.out.cell hbr, Hb.out.cell hbr, Hb.out.cell hbr, Hb.out.cell hbr⟩)
            (first
              | (go_at_call 53
                 refine (HCALL.out _ ?_ ?_).mono ?_
                 · exact HE.out.up (Below.refl _ wr).drew
                 · exact HF.out.up (Below.refl _ wr).drew
                 rintro r w1 ⟨rfl, hb⟩
                 have Hb := Lib.hid (show Below wr.heap.size wr w1 from ⟨hb.os, hb.tape, hb.output, hb.size, hb.block⟩)
                 clear hb))
          all_goals
            clear c0 c1 c2 c3 c4 c5 c6 c7 c8 c9 c10 c11 c12 c13 c14 c15 d0 d1 d2 d3 d4 d5 d6 d7 d8 d9 d10 d11 d12 d13 d14 d15
            go_wp2_with fail
            go_ret
            exact ⟨false, rfl, ⟨(fun h => nomatch h), fun h => absurd h HNO2.out⟩, HBE.out.trans (Hb.out.mono HBE.out.size)⟩
      · go_wp2_with fail
        go_ret
        exact ⟨true, rfl, ⟨fun _ => ⟨HLEN.out.symm, fun m h1 h2 => HAL.out m h1 h2 (by omega)⟩, fun _ => rfl⟩, HBE.out⟩
  · have hlen' : ((ks.length : Int) != (ts.length : Int)) = true := by simp; omega
    go_enter Tryd.func31, Tryd.ntmps31
    go_wp2_with fail
    go_ret
    exact ⟨false, rfl, ⟨(fun h => nomatch h), fun h => absurd h.1.symm hlen⟩, Below.refl _ _⟩
set_option maxHeartbeats 4000000 in
theorem gSameRule (d : Nat) (x y : Ru d) (w : World) (hx : RuAt w x) (hy : RuAt w y) (hm : RuB x) :
    Calls Tryd.prog 13 #[.agg #[.string x.p, .slice x.hp x.hs.length x.hc, .slice x.bp x.bs.length x.bc], .agg #[.string y.p, .slice y.hp y.hs.length y.hc, .slice y.bp y.bs.length y.bc]] w (SamePost (x.p = y.p ∧ x.hs = y.hs ∧ LsLike x.bs y.bs) w) := by
  have UH := Lib.hid (fun w' (hb : Below w.heap.size w w') => And.intro (hx.up hb).h_ (hy.up hb).h_)
  have UB := Lib.hid (fun w' (hb : Below w.heap.size w w') => And.intro (hx.up hb).b_ (hy.up hb).b_)
  have HA := Lib.hid (fun w' h1 h2 => gSameArgs x.hs y.hs x.hp y.hp x.hc y.hc w' h1 h2 (by have := hm.hn; omega))
  have HL := Lib.hid (fun w' h1 h2 => gSameLits d x.bs y.bs x.bp y.bp x.bc y.bc w' h1 h2 hm.bn)
  clear hx hy hm
  obtain ⟨W, hW⟩ : ∃ W, W = (w.alloc (.cells #[.string x.p, .slice x.hp x.hs.length x.hc, .slice x.bp x.bs.length x.bc] 25)).alloc (.cells #[.string y.p, .slice y.hp y.hs.length y.hc, .slice y.bp y.bs.length y.bc] 25) := ⟨_, rfl⟩
  have HBW := Lib.hid (show Below w.heap.size w W by rw [hW]; exact (below_alloc _ _).trans ((below_alloc _ _).mono (by simp)))
  have hsW : W.heap.size = w.heap.size + 1 + 1 := by rw [hW]; simp
  have HBX := Lib.hid (show W.heap[w.heap.size]? = some (.cells #[.string x.p, .slice x.hp x.hs.length x.hc, .slice x.bp x.bs.length x.bc] 25 (0, 0)) by rw [hW, Lib.alloc_old _ _ _ (by simp)]; exact heap_alloc_new w _)
  have HBY := Lib.hid (show W.heap[w.heap.size + 1]? = some (.cells #[.string y.p, .slice y.hp y.hs.length y.hc, .slice y.bp y.bs.length y.bc] 25 (0, 0)) by rw [hW]; simpa using heap_alloc_new (w.alloc _) _)
  by_cases hp : x.p = y.p
  · have HPE := Lib.hid hp
    rw [hp] at hW HBX ⊢
    clear hp
    go_enter Tryd.func13, Tryd.ntmps13
    go_wp2_with fail
    rw [← hW]
    clear hW
    refine (HA.out _ (UH.out _ HBW.out).1 (UH.out _ HBW.out).2).mono ?_
    rintro r w1 ⟨b1, rfl, hb1, hbe⟩
    have HB := Lib.hid hbe; clear hbe
    have HB1 := Lib.hid hb1; clear hb1
    have HBA := Lib.hid (HBW.out.trans (HB.out.mono HBW.out.size))
    obtain ⟨x0, x1, x2⟩ := three ((HB.out.block w.heap.size (by omega)).trans HBX.out)
    obtain ⟨y0, y1, y2⟩ := three ((HB.out.block (w.heap.size + 1) (by omega)).trans HBY.out)
    cases b1
    case false =>
      go_wp2_with fail
      go_ret
      exact ⟨false, rfl, ⟨(fun h => nomatch h), fun h => nomatch HB1.out.2 h.2.1⟩, HBA.out⟩
    case true =>
      go_wp2_with fail
      refine (HL.out _ (UB.out _ HBA.out).1 (UB.out _ HBA.out).2).mono ?_
      rintro r w2 ⟨b2, rfl, hb2, hbe⟩
      clear x0 x1 x2 y0 y1 y2
      have HBL := Lib.hid (HBA.out.trans (hbe.mono HBA.out.size)); clear hbe
      have HB2 := Lib.hid hb2; clear hb2
      go_wp2_with fail
      go_ret
      exact ⟨b2, rfl, ⟨fun h => ⟨by first | exact rfl | trivial, HB1.out.1 (by first | exact rfl | trivial), HB2.out.1 h⟩, fun h => HB2.out.2 h.2.2⟩, HBL.out⟩
  · obtain ⟨q1, q2, q3⟩ := no_eq hp
    have HNP := Lib.hid hp; clear hp
    go_enter Tryd.func13, Tryd.ntmps13
    go_wp2_with fail
    rw [← hW]
    go_ret
    exact ⟨false, rfl, ⟨(fun h => nomatch h), fun h => absurd h.1 HNP.out⟩, HBW.out⟩
open Go.RowKit

theorem show_inj {x y : Vl} {r s : List UInt8} (hx : vlOk x = true) (hy : vlOk y = true) (hr : stopB r = true) (hs : stopB s = true) (h : showL x ++ r = showL y ++ s) : x = y ∧ r = s := by
  obtain ⟨h1, h2⟩ := term_inj (t := ⟨⟨#[]⟩, x⟩) (u := ⟨⟨#[]⟩, y⟩) (show tmOk ⟨⟨#[]⟩, x⟩ = true from hx) (show tmOk ⟨⟨#[]⟩, y⟩ = true from hy) hr hs h
  exact ⟨(Tm.mk.inj h1).2, h2⟩
theorem fc_ok {f : Fc} (h : fcOk f = true) : nameB (bl f.p) = true ∧ ∀ x ∈ f.xs, vlOk x = true := by
  simp only [fcOk, Bool.and_eq_true, List.all_eq_true] at h
  exact ⟨h.1.1, h.2⟩
theorem fact_inj {f g : Fc} {r s : List UInt8} (hf : fcOk f = true) (hg : fcOk g = true) (hr : endB r = true) (hs : endB s = true) (h : factL f ++ r = factL g ++ s) : FcSame f g ∧ r = s := by
  obtain ⟨e1, e2, e3⟩ := cols_inj showL (fun x => vlOk x = true) (fun x y r s hx hy hr hs h => show_inj hx hy hr hs h) (fc_ok hf).1 (fc_ok hg).1 (fc_ok hf).2 (fc_ok hg).2 hr hs h
  exact ⟨⟨bl_eq e1, e2⟩, e3⟩
theorem factsL_cons (f : Fc) (l : List Fc) : factsL (f :: l) = factL f ++ (46 :: 10 :: factsL l) := rfl
theorem facts_inj : ∀ (fs gs : List Fc), (∀ f ∈ fs, fcOk f = true) → (∀ g ∈ gs, fcOk g = true) → factsL fs = factsL gs → FsSame fs gs
  | [], [], _, _, _ => ⟨rfl, fun i hi => by simp at hi⟩
  | [], g :: gs, _, _, h => by
    rw [factsL_cons] at h
    have h1 := congrArg List.length h
    simp [factsL] at h1
  | f :: fs, [], _, _, h => by
    rw [factsL_cons] at h
    have h1 := congrArg List.length h
    simp [factsL] at h1
  | f :: fs, g :: gs, hf, hg, h => by
    rw [factsL_cons, factsL_cons] at h
    obtain ⟨h1, h2⟩ := fact_inj (hf f (by simp)) (hg g (by simp)) rfl rfl h
    simp only [List.cons.injEq, true_and] at h2
    obtain ⟨h3, h4⟩ := facts_inj fs gs (fun x hx => hf x (by simp [hx])) (fun x hx => hg x (by simp [hx])) h2
    refine ⟨by simp [h3], fun i hi hi' => ?_⟩
    match i with
    | 0 => exact h1
    | i + 1 => exact h4 i (by simpa using hi) (by simpa using hi')
theorem facts_same {fs gs : List Fc} (h : FsSame fs gs) : factsL fs = factsL gs := by
  have h1 : ∀ l : List Fc, factsL l = ((l.map fun f => (f.p, f.xs)).map fun k => colsL (bl k.1) (showTs k.2) ++ [46, 10]).flatten := by
    intro l
    induction l with
    | nil => rfl
    | cons x r ih => simp [factsL, ih, factL]
  rw [h1, h1]
  have h2 : fs.map (fun f => (f.p, f.xs)) = gs.map (fun f => (f.p, f.xs)) := List.ext_getElem (by simp [h.1]) fun i a b => by
    have h3 := h.2 i (by simpa using a) (by simpa using b)
    simp [h3.1, h3.2]
  rw [h2]
theorem query_inj {p q : ByteArray} {ts us : List Tm} (h1 : atOk p ts = true) (h2 : atOk q us = true) (h : atomL p ts ++ [63] = atomL q us ++ [63]) : p = q ∧ ts = us := by
  obtain ⟨e1, e2, _⟩ := atom_inj h1 h2 rfl rfl h
  exact ⟨e1, e2⟩
def mk (l : List UInt8) : ByteArray := ⟨l.toArray⟩
theorem mk_inj {l m : List UInt8} (h : mk l = mk m) : l = m := congrArg bl h
/-- What two texts say, where there are both. -/
theorem rules_say {d : Nat} {x y : Ru d} (hx : x.ok = true) (hy : y.ok = true) : mk (txt x.ok x.l) = mk (txt y.ok y.l) ↔ (x.p = y.p ∧ x.hs = y.hs ∧ LsLike x.bs y.bs) := by
  rw [hx, hy]
  constructor
  · intro h
    exact rule_inj hx hy (mk_inj h)
  · rintro ⟨h1, h2, h3⟩
    show mk (ruL x.p x.hs x.bs) = mk (ruL y.p y.hs y.bs)
    rw [h1, h2, rule_same y.p y.hs h3]
theorem facts_say {fs gs : List Fc} (hf : fs.all fcOk = true) (hg : gs.all fcOk = true) : mk (txt (fs.all fcOk) (factsL fs)) = mk (txt (gs.all fcOk) (factsL gs)) ↔ FsSame fs gs := by
  have h1 := List.all_eq_true.1 hf
  have h2 := List.all_eq_true.1 hg
  rw [hf, hg]
  constructor
  · intro h
    exact facts_inj fs gs h1 h2 (mk_inj h)
  · intro h
    show mk (factsL fs) = mk (factsL gs)
    rw [facts_same h]
theorem queries_say {p q : ByteArray} {ts us : List Tm} (h1 : atOk p ts = true) (h2 : atOk q us = true) : mk (txt (atOk p ts) (atomL p ts ++ [63])) = mk (txt (atOk q us) (atomL q us ++ [63])) ↔ (p = q ∧ ts = us) := by
  rw [h1, h2]
  constructor
  · intro h
    exact query_inj h1 h2 (mk_inj h)
  · rintro ⟨rfl, rfl⟩
    rfl
set_option maxHeartbeats 2000000 in
theorem pQueryU (p : ByteArray) (sv : Value) (ts : List Tm) (w : World) (hp : p.size ≤ maxLen) (hts : TmSl w sv ts) (hr : TmsR ts) (hT : Tabs w) :
    Calls Tryd.prog 15 #[.agg #[.string p, sv]] w (TextPost (atOk p ts) (atomL p ts ++ [63]) w) := by
  have HTS := Lib.hid hts
  have HR := Lib.hid hr; clear hr
  have HT := Lib.hid hT; clear hT
  obtain ⟨q, cap, rfl, _, _⟩ := hts
  rcases hx : atOk p ts with _ | _
  all_goals have HX := Lib.hid hx
  all_goals rw [← hx]
  all_goals clear hx
  · go_enter Tryd.func15, Tryd.ntmps15
    go_wp2_with fail
    refine (pAtomT p _ ts _ hp (HTS.out.up (below_alloc _ _)) HR.out (HT.out.alloc _)).mono ?_
    rintro e w1 ⟨rfl, hb⟩
    have Hb := Lib.hid hb; clear hb
    rw [HX.out, show okCode false 40 = 40 from rfl, show txt false (atomL p ts) = [] from rfl]
    go_wp2_with fail
    go_ret2
    exact ⟨ret_no HX.out, (below_alloc _ _).trans (Hb.out.mono (by simp))⟩
  · have HL := Lib.hid (atomL_le HR.out HX.out)
    go_enter Tryd.func15, Tryd.ntmps15
    go_wp2_with fail
    refine (pAtomT p _ ts _ hp (HTS.out.up (below_alloc _ _)) HR.out (HT.out.alloc _)).mono ?_
    rintro e w1 ⟨rfl, hb⟩
    have Hb := Lib.hid hb; clear hb
    rw [HX.out, show okCode true 40 = 0 from rfl, show txt true (atomL p ts) = atomL p ts from rfl]
    obtain ⟨s, hs⟩ : ∃ s : ByteArray, s = ⟨(atomL p ts).toArray⟩ := ⟨_, rfl⟩
    have hsz : s.size ≤ 20000 := by rw [hs]; simpa [ByteArray.size] using HL.out
    have HSB := Lib.hid (show bl s = atomL p ts by rw [hs])
    rw [← hs]
    clear hs
    go_wp2_with fail
    go_ret2
    exact ⟨ret_yesB HX.out (by rw [bl_app, HSB.out]), (below_alloc _ _).trans (Hb.out.mono (by simp))⟩
end Go.Proofs.YtdgbenadoaecoaaDoor
