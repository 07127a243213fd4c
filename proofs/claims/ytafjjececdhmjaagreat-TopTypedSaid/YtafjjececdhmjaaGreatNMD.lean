/- Expressions; the contracts of their check. Conditions: each part says its own. -/
import Derived.Test.YtafjjececdhmjaaGreatNMC
import Derived.Deep.RegionWith
/- Expressions, as trees with the slices that hold their kids; what the functions on them compute; no program in sight. Conditions: none. -/
namespace Go.Proofs.YtafjjececdhmjaaGreat
open Go.RowKit

/-- An expression of a depth up to a number: its operation, its term, the slice of its kids, its kids. -/
def Ex : Nat → Type
  | 0 => Empty
  | d + 1 => Int × Tm × Value × List (Ex d)
def exOp : (d : Nat) → Ex d → Int
  | 0, e => nomatch e
  | _ + 1, e => e.1
def exTm : (d : Nat) → Ex d → Tm
  | 0, e => nomatch e
  | _ + 1, e => e.2.1
def exSl : (d : Nat) → Ex d → Value
  | 0, e => nomatch e
  | _ + 1, e => e.2.2.1
def tmZero (t : Tm) : Bool := (bl t.v).isEmpty && vlZero t.x
/-- term.arity -/
def arityI (op : Int) : Int := if op = 1 ∨ op = 8 ∨ op = 9 ∨ op = 10 then 1 else if 2 ≤ op ∧ op ≤ 7 then 2 else -1
/-- term.solid -/
def solidB (t : Tm) : Bool := !(bl t.v == [95]) && tmOk t
/-- term.deep -/
def exOk : Nat → (d : Nat) → Ex d → Bool
  | _, 0, e => nomatch e
  | 0, _ + 1, _ => false
  | n + 1, d + 1, e => if e.1 = 0 then e.2.2.2.isEmpty && solidB e.2.1 else tmZero e.2.1 && decide ((e.2.2.2.length : Int) = arityI e.1) && e.2.2.2.all (exOk n d)
/-- The six cells of an expression. -/
structure ExCell (w : World) (a o : Nat) (op : Int) (t : Tm) (s : Value) : Prop where
  c0 : w.cell? ⟨a, o, none⟩ = some (.int .i8 op)
  c1 : w.cell? ⟨a, o + 1, none⟩ = some (.string t.v)
  c2 : w.cell? ⟨a, o + 2, none⟩ = some (.int .i8 t.x.k)
  c3 : w.cell? ⟨a, o + 3, none⟩ = some (.int .i64 t.x.n)
  c4 : w.cell? ⟨a, o + 4, none⟩ = some (.string t.x.t)
  c5 : w.cell? ⟨a, o + 5, none⟩ = some s
theorem ExCell.up {w w' : World} {B a o : Nat} {op : Int} {t : Tm} {s : Value} (h : ExCell w a o op t s) (hb : Below B w w') (ha : a < B) : ExCell w' a o op t s :=
  ⟨(hb.cell (p := ⟨a, o, none⟩) ha).trans h.c0, (hb.cell (p := ⟨a, o + 1, none⟩) ha).trans h.c1, (hb.cell (p := ⟨a, o + 2, none⟩) ha).trans h.c2, (hb.cell (p := ⟨a, o + 3, none⟩) ha).trans h.c3,
    (hb.cell (p := ⟨a, o + 4, none⟩) ha).trans h.c4, (hb.cell (p := ⟨a, o + 5, none⟩) ha).trans h.c5⟩
/-- How an expression lies in memory: its kids' slice, and what lies there. -/
def ExAt (w : World) : (d : Nat) → Ex d → Prop
  | 0, _ => True
  | d + 1, e => ∃ p cap, e.2.2.1 = .slice p e.2.2.2.length cap ∧ e.2.2.2.length ≤ maxLen ∧
      (e.2.2.2.length = 0 ∨ ∃ a o, p = some ⟨a, o, none⟩ ∧ a < w.heap.size ∧ ∀ i, (h : i < e.2.2.2.length) → ExCell w a (o + i * 6) (exOp d e.2.2.2[i]) (exTm d e.2.2.2[i]) (exSl d e.2.2.2[i])) ∧
      ∀ k ∈ e.2.2.2, ExAt w d k
theorem ExAt.up {w w' : World} (hb : Below w.heap.size w w') : ∀ (d : Nat) (e : Ex d), ExAt w d e → ExAt w' d e
  | 0, _, _ => trivial
  | d + 1, _, ⟨p, cap, h1, h2, h3, h4⟩ => ⟨p, cap, h1, h2, h3.imp id fun ⟨a, o, hp, ha, hc⟩ => ⟨a, o, hp, Nat.lt_of_lt_of_le ha hb.size, fun i hi => (hc i hi).up hb ha⟩, fun k hk => ExAt.up hb d k (h4 k hk)⟩
/-- An expression within its types' bounds. -/
def ExR : (d : Nat) → Ex d → Prop
  | 0, _ => True
  | d + 1, e => (-128 ≤ e.1 ∧ e.1 ≤ 127) ∧ TmR e.2.1.v e.2.1.x.k e.2.1.x.n e.2.1.x.t ∧ ∀ k ∈ e.2.2.2, ExR d k
end Go.Proofs.YtafjjececdhmjaaGreat

/- The contracts of term.none, arity and solid, and of the reference's kids. Conditions: a text is no longer than the model lets any be. -/
namespace Go.Proofs.YtafjjececdhmjaaGreat
open Go.RowKit

theorem tm_eq0 (v : ByteArray) (k n : Int) (t : ByteArray) (w : World) :
    (binOp .eql 93 (.agg #[.string v, .int .i8 k, .int .i64 n, .string t]) (.agg #[.string ⟨#[]⟩, .int .i8 0, .int .i64 0, .string ⟨#[]⟩])).run Tryz.prog w = .ok (.bool (tmZero ⟨v, ⟨k, n, t⟩⟩)) w := by
  by_cases hv : v.toList = []
  · by_cases hk : k = 0
    · by_cases hn : n = 0
      · subst hk; subst hn
        go_simp
        by_cases ht : t.toList = [] <;> simp [tmZero, vlZero, bl, ← ByteArray.toList_eq, ht, hv]
      · subst hk
        go_simp
        simp [tmZero, vlZero, hn]
    · go_simp
      simp [tmZero, vlZero, hk]
  · go_simp
    simp [tmZero, bl, ← ByteArray.toList_eq, hv]
theorem tNone (v : ByteArray) (k n : Int) (t : ByteArray) (w : World) :
    Calls Tryz.prog 103 #[.agg #[.string v, .int .i8 k, .int .i64 n, .string t]] w fun e w' => e = .returned (.bool (tmZero ⟨v, ⟨k, n, t⟩⟩)) ∧ Below w.heap.size w w' := by
  have hq := fun w => tm_eq0 v k n t w
  obtain ⟨z, hz⟩ : ∃ z, z = tmZero ⟨v, ⟨k, n, t⟩⟩ := ⟨_, rfl⟩
  simp only [← hz] at hq ⊢
  clear hz
  go_enter Tryz.func103, Tryz.ntmps103
  go_wp2_with fail
  go_ret
  exact ⟨rfl, below_alloc _ _⟩
theorem tArity (op : Int) (w : World) :
    Calls Tryz.prog 128 #[.int .i8 op] w fun e w' => e = .returned (.int .i64 (arityI op)) ∧ w = w' := by
  go_enter Tryz.func128, Tryz.ntmps128
  go_wp2_with fail
  all_goals go_ret
  all_goals refine ⟨ret_int ?_, rfl⟩
  all_goals simp_all [arityI]
  all_goals omega
theorem rKids (op : Int) (w : World) :
    Calls Tryz.prog 116 #[.int .i8 op] w fun e w' => e = .returned (.int .i64 (arityI op)) ∧ w = w' := by
  go_enter Tryz.func116, Tryz.ntmps116
  go_wp2_with fail
  all_goals go_ret
  all_goals refine ⟨ret_int ?_, rfl⟩
  all_goals simp_all [arityI]
  all_goals omega
theorem tSolid (v : ByteArray) (k n : Int) (t : ByteArray) (w : World) (hv : v.size ≤ maxLen) :
    Calls Tryz.prog 102 #[.agg #[.string v, .int .i8 k, .int .i64 n, .string t]] w fun e w' => e = .returned (.bool (solidB ⟨v, ⟨k, n, t⟩⟩)) ∧ Below w.heap.size w w' := by
  by_cases h95 : v.toList = [95]
  · have HE := Lib.hid (show solidB ⟨v, ⟨k, n, t⟩⟩ = false by simp [solidB, bl, ← ByteArray.toList_eq, h95])
    have q : (v.toList == [95]) = true := by simp [h95]
    clear h95
    go_enter Tryz.func102, Tryz.ntmps102
    go_wp2_with fail
    go_ret
    exact ⟨ret_bool HE.out.symm, below_alloc _ _⟩
  · have HE := Lib.hid (show solidB ⟨v, ⟨k, n, t⟩⟩ = tmOk ⟨v, ⟨k, n, t⟩⟩ by simp [solidB, bl, ← ByteArray.toList_eq, h95])
    have q : (v.toList == [95]) = false := by simpa using h95
    clear h95
    obtain ⟨y, hy⟩ : ∃ y, y = tmOk ⟨v, ⟨k, n, t⟩⟩ := ⟨_, rfl⟩
    have HY := Lib.hid hy; clear hy
    cases y
    all_goals
      go_enter Tryz.func102, Tryz.ntmps102
      go_wp2_with fail
      refine (tCheckTerm v k n t _ hv).mono ?_
      rintro e w1 ⟨rfl, hb⟩
      have Hb := Lib.hid hb; clear hb
      rw [← HY.out]
      first | rw [show okCode false 40 = 40 from rfl] | rw [show okCode true 40 = 0 from rfl]
      go_wp2_with fail
      go_ret
      exact ⟨ret_bool (by rw [HE.out, ← HY.out]), (below_alloc _ _).trans (Hb.out.mono (by simp))⟩
end Go.Proofs.YtafjjececdhmjaaGreat

/- The contract of term.CheckExpr. Conditions: the expression lies in memory as it is told; a text is no longer than the model lets any be. -/
namespace Go.Proofs.YtafjjececdhmjaaGreat
open Go.RowKit

/-- An expression as a value. -/
def exVal (d : Nat) (e : Ex d) : Value := .agg #[.int .i8 (exOp d e), .string (exTm d e).v, .int .i8 (exTm d e).x.k, .int .i64 (exTm d e).x.n, .string (exTm d e).x.t, exSl d e]
/-- What deep is known to do at expressions of a depth up to d. -/
def DeepAt (d : Nat) : Prop := ∀ (e : Ex d) (n : Nat) (w : World), n ≤ 8 → ExAt w d e → ExR d e →
  Calls Tryz.prog 122 #[.agg #[.int .i8 (exOp d e), .string (exTm d e).v, .int .i8 (exTm d e).x.k, .int .i64 (exTm d e).x.n, .string (exTm d e).x.t, exSl d e], .int .i64 n] w fun r w' => r = .returned (.bool (exOk n d e)) ∧ Below w.heap.size w w'
def exBad (n d : Nat) (e : Ex d) : Bool := !exOk n d e
theorem deep1 (d : Nat) (ih : DeepAt d) (e : Ex d) (n c : Nat) (w : World) (hn : n + 1 ≤ 8) (he : ExAt w d e) (hr : ExR d e) (hc : w.cell? ⟨c, 0, none⟩ = some (.int .i64 (n + 1 : Nat))) :
    Calls Tryz.prog 130 #[.agg #[.int .i8 (exOp d e), .string (exTm d e).v, .int .i8 (exTm d e).x.k, .int .i64 (exTm d e).x.n, .string (exTm d e).x.t, exSl d e], .pointer (some ⟨c, 0, none⟩)] w fun r w' => r = .returned (.bool (exBad n d e)) ∧ Below w.heap.size w w' := by
  have HE := Lib.hid he; clear he
  have HR := Lib.hid hr; clear hr
  have IH := Lib.hid ih; clear ih
  have hcl : c < w.heap.size := by
    rcases Nat.lt_or_ge c w.heap.size with h | h
    · exact h
    · simp [World.cell?, Array.getElem?_eq_none h] at hc
  go_enter Tryz.func130, Tryz.ntmps130
  go_wp2_with fail
  refine (IH.out e n _ (by omega) (ExAt.up (below_alloc _ _) d e HE.out) HR.out).mono ?_
  rintro r w1 ⟨rfl, hb⟩
  have Hb := Lib.hid hb; clear hb
  go_wp2_with fail
  go_ret
  exact ⟨rfl, (below_alloc _ _).trans (Hb.out.mono (by simp))⟩
set_option maxHeartbeats 1000000 in
theorem idxKids (d : Nat) (ih : DeepAt d) (n c a o cap : Nat) (ks : List (Ex d)) (w : World) (hn : n + 1 ≤ 8) (hla : a < w.heap.size)
    (hts : ∀ i, (h : i < ks.length) → ExCell w a (o + i * 6) (exOp d ks[i]) (exTm d ks[i]) (exSl d ks[i])) (hat : ∀ k ∈ ks, ExAt w d k) (hr : ∀ k ∈ ks, ExR d k) (hm : ks.length ≤ maxLen)
    (hc : w.cell? ⟨c, 0, none⟩ = some (.int .i64 (n + 1 : Nat))) :
    Calls Tryz.prog 133 #[.slice (some ⟨a, o, none⟩) ks.length cap, .func (.func 130) #[] #[.pointer (some ⟨c, 0, none⟩)]] w (IdxPost (ks.any (exBad n d)) w) := by
  have HTS := Lib.hid hts; clear hts
  have HA := Lib.hid hat; clear hat
  have HR := Lib.hid hr; clear hr
  have IH := Lib.hid ih; clear ih
  have hcl : c < w.heap.size := by
    rcases Nat.lt_or_ge c w.heap.size with h | h
    · exact h
    · simp [World.cell?, Array.getElem?_eq_none h] at hc
  have HC := Lib.hid hc; clear hc
  unfold maxLen at hm
  go_enter Tryz.func133, Tryz.ntmps133
  go_wp2_with fail
  go_loopw [8] (fun i wr => ∃ k : Nat, k ≤ ks.length ∧ i = .int .i64 k ∧ (∀ j, (h : j < ks.length) → j < k → exBad n d ks[j] = false) ∧ Below w.heap.size w wr) (fun i _ => ks.length - (intOf i).toNat)
  case atStart => exact ⟨0, by omega, rfl, fun j _ h => by omega, Below.refl _ _⟩
  case round =>
    obtain ⟨k, hk, rfl, hok, hb⟩ := hrel
    have Hok := Lib.hid hok; clear hok
    have Hb := Lib.hid hb; clear hb
    by_cases hlt : k < ks.length
    · have hcs := (HTS.out k hlt).up Hb.out hla
      have HE := Lib.hid (ExAt.up Hb.out d _ (HA.out ks[k] (List.getElem_mem hlt)))
      have HRk := Lib.hid (HR.out ks[k] (List.getElem_mem hlt))
      obtain ⟨tk, htk⟩ : ∃ tk, tk = ks[k] := ⟨_, rfl⟩
      rw [← htk] at hcs HE HRk
      have HTK := Lib.hid htk; clear htk
      obtain ⟨c0, c1, c2, c3, c4, c5⟩ := hcs
      have HCW := Lib.hid ((Hb.out.cell (p := ⟨c, 0, none⟩) hcl).trans HC.out)
      rcases hx : exBad n d tk with _ | _
      all_goals have HX := Lib.hid hx
      all_goals clear hx
      · go_wp2_with fail
        refine (deep1 d IH.out tk n c _ hn HE.out HRk.out HCW.out).mono ?_
        rintro e w1 ⟨rfl, hb1⟩
        rw [HX.out]
        have Hb1 := Lib.hid hb1; clear hb1
        go_wp2_with fail
        go_roundw
        case rel => exact ⟨k + 1, by omega, by go_num, fun j hj hjk => by
                      by_cases e : j = k
                      · subst e; rw [← HTK.out]; exact HX.out
                      · exact Hok.out j hj (by omega), Hb.out.trans (Hb1.out.mono Hb.out.size)⟩
        case measure => simp [intOf]; omega
      · go_wp2_with fail
        refine (deep1 d IH.out tk n c _ hn HE.out HRk.out HCW.out).mono ?_
        rintro e w1 ⟨rfl, hb1⟩
        rw [HX.out]
        have Hb1 := Lib.hid hb1; clear hb1
        go_wp2_with fail
        go_ret
        exact ⟨k, rfl, ⟨fun _ => any_at _ ks k hlt (by rw [← HTK.out]; exact HX.out), fun _ => by omega⟩, Hb.out.trans (Hb1.out.mono Hb.out.size)⟩
    · go_wp2_with fail
      go_ret
      exact ⟨-1, rfl, ⟨fun h => by omega, fun h => by rw [any_take (exBad n d) ks (fun j hj => Hok.out j hj (by omega))] at h; cases h⟩, Hb.out⟩
theorem idxKids0 (p : Option Addr) (cap c : Nat) (w : World) :
    Calls Tryz.prog 133 #[.slice p 0 cap, .func (.func 130) #[] #[.pointer (some ⟨c, 0, none⟩)]] w (IdxPost false w) := by
  go_enter Tryz.func133, Tryz.ntmps133
  go_wp2_with fail
  go_loop [8] (fun i => i = .int .i64 0) (fun _ => 0)
  case atStart => rfl
  case round =>
    obtain rfl := hrel
    go_wp2_with fail
    go_ret
    exact ⟨-1, rfl, ⟨fun h => by omega, fun h => by cases h⟩, Below.refl _ _⟩
theorem idxKidsAny (d : Nat) (ih : DeepAt d) (n c : Nat) (e : Ex (d + 1)) (w : World) (hn : n + 1 ≤ 8) (he : ExAt w (d + 1) e) (hr : ExR (d + 1) e)
    (hc : w.cell? ⟨c, 0, none⟩ = some (.int .i64 (n + 1 : Nat))) :
    Calls Tryz.prog 133 #[exSl (d + 1) e, .func (.func 130) #[] #[.pointer (some ⟨c, 0, none⟩)]] w (IdxPost (e.2.2.2.any (exBad n d)) w) := by
  obtain ⟨op, tm, sl, ks⟩ := e
  obtain ⟨p, cap, h1, h2, h3, h4⟩ := he
  obtain ⟨r1, r2, r3⟩ := hr
  simp only at h1 h2 h3 h4 r3
  subst h1
  rcases h3 with h | ⟨a, o, rfl, ha, h⟩
  · obtain rfl := List.eq_nil_of_length_eq_zero h
    exact idxKids0 p cap c w
  · exact idxKids d ih n c a o cap ks w hn ha h h4 r3 h2 hc
theorem kidsBad (d : Nat) (ih : DeepAt d) (n c : Nat) (e : Ex (d + 1)) (w : World) (hn : n + 1 ≤ 8) (he : ExAt w (d + 1) e) (hr : ExR (d + 1) e)
    (hc : w.cell? ⟨c, 0, none⟩ = some (.int .i64 (n + 1 : Nat))) :
    Calls Tryz.prog 129 #[exSl (d + 1) e, .func (.func 130) #[] #[.pointer (some ⟨c, 0, none⟩)]] w fun r w' => r = .returned (.bool (e.2.2.2.any (exBad n d))) ∧ Below w.heap.size w w' := by
  have HE := Lib.hid he; clear he
  have HR := Lib.hid hr; clear hr
  have HC := Lib.hid hc; clear hc
  have IH := Lib.hid ih; clear ih
  go_enter Tryz.func129, Tryz.ntmps129
  go_wp2_with fail
  refine (idxKidsAny d IH.out n c e _ hn HE.out HR.out HC.out).mono ?_
  rintro e w1 ⟨r, rfl, hr, hb⟩
  have Hr := Lib.hid hr; clear hr
  have Hb := Lib.hid hb; clear hb
  go_wp2_with fail
  go_ret
  exact ⟨ret_bool (by rw [Bool.eq_iff_iff, ← Hr.out]; simp), Hb.out⟩
end Go.Proofs.YtafjjececdhmjaaGreat

/- The contract of term.CheckExpr. Conditions: the expression lies in memory as it is told; a text is no longer than the model lets any be. -/
namespace Go.Proofs.YtafjjececdhmjaaGreat
open Go.RowKit

theorem ex_kids (n d : Nat) (ks : List (Ex d)) : ks.all (exOk n d) = !ks.any (exBad n d) := by
  rw [List.not_any_eq_all_not]; congr 1; funext k; simp [exBad]
theorem below_two {w w1 : World} {a b : Obj} (h : Below ((w.alloc a).alloc b).drew.heap.size ((w.alloc a).alloc b).drew w1) : Below w.heap.size w w1 := by
  have h1 : Below w.heap.size w ((w.alloc a).alloc b) := (below_alloc _ _).trans ((below_alloc _ _).mono (by simp))
  exact h1.drew.trans (h.mono h1.drew.size)
set_option maxHeartbeats 2000000 in
theorem deep_step (d : Nat) (ih : DeepAt d) : DeepAt (d + 1) := by
  intro e n w hn he hr
  obtain ⟨op, ⟨v, k, x, t⟩, sl, ks⟩ := e
  show Calls Tryz.prog 122 #[.agg #[.int .i8 op, .string v, .int .i8 k, .int .i64 x, .string t, sl], .int .i64 n] w fun r w' => r = .returned (.bool (exOk n (d + 1) (op, ⟨v, k, x, t⟩, sl, ks))) ∧ Below w.heap.size w w'
  have HE := Lib.hid he
  have HR := Lib.hid hr
  have hv : v.size ≤ maxLen := hr.2.1.v0
  clear hr
  have IH := Lib.hid ih; clear ih
  obtain ⟨p, cap, h1, h2, h3, h4⟩ := he
  simp only at h1 h2
  clear h3 h4
  subst h1
  rcases n with _ | n
  · have HX := Lib.hid (show exOk 0 (d + 1) (op, ⟨v, k, x, t⟩, Value.slice p ks.length cap, ks) = false from rfl)
    clear hn
    go_enter Tryz.func122, Tryz.ntmps122
    go_wp2_with fail
    go_ret
    exact ⟨rfl, (below_alloc _ _).trans ((below_alloc _ _).mono (by simp))⟩
  · have HX := Lib.hid (show exOk (n + 1) (d + 1) (op, ⟨v, k, x, t⟩, Value.slice p ks.length cap, ks) = (if op = 0 then ks.isEmpty && solidB ⟨v, k, x, t⟩ else tmZero ⟨v, k, x, t⟩ && decide ((ks.length : Int) = arityI op) && ks.all (exOk n d)) from rfl)
    by_cases h0 : op = 0
    · subst h0
      rw [if_pos rfl] at HX
      by_cases hk : ks.length = 0
      · obtain rfl := List.eq_nil_of_length_eq_zero hk
        have HX2 := Lib.hid (show exOk (n + 1) (d + 1) (0, ⟨v, k, x, t⟩, Value.slice p 0 cap, []) = solidB ⟨v, k, x, t⟩ from HX.out)
        clear HX hk
        go_enter Tryz.func122, Tryz.ntmps122
        go_wp2_with fail
        refine (tSolid v k x t _ hv).mono ?_
        rintro r w1 ⟨rfl, hb⟩
        have Hb := Lib.hid hb; clear hb
        go_wp2_with fail
        go_ret
        exact ⟨ret_bool HX2.out.symm, ((below_alloc _ _).trans ((below_alloc _ _).mono (by simp))).trans (Hb.out.mono (by simp; omega))⟩
      · have HX2 := Lib.hid (show exOk (n + 1) (d + 1) (0, ⟨v, k, x, t⟩, Value.slice p ks.length cap, ks) = false by rw [HX.out]; cases ks; exact absurd rfl hk; rfl)
        have q : ((ks.length : Int) == 0) = false := beq_eq_false_iff_ne.2 (by omega)
        clear HX hk
        go_enter Tryz.func122, Tryz.ntmps122
        go_wp2_with fail
        go_ret
        exact ⟨ret_bool HX2.out.symm, (below_alloc _ _).trans ((below_alloc _ _).mono (by simp))⟩
    · rw [if_neg h0] at HX
      have q0 : (op == 0) = false := beq_eq_false_iff_ne.2 h0
      clear h0
      rcases hz : tmZero ⟨v, k, x, t⟩ with _ | _
      · have HZ := Lib.hid hz
        have HX2 := Lib.hid (show exOk (n + 1) (d + 1) (op, ⟨v, k, x, t⟩, Value.slice p ks.length cap, ks) = false by rw [HX.out]; simp [hz])
        clear HX hz
        go_enter Tryz.func122, Tryz.ntmps122
        go_wp2_with fail
        first | go_region_with (first | (refine (tNone v k x t _).mono ?_; rintro r w1 ⟨rfl, hb⟩; rw [HZ.out]; obtain ⟨hc, hf⟩ := bcell hb; have Hb := Lib.hid hb; clear hb)) | fail
        all_goals
          go_wp2_with fail
          go_ret
          exact ⟨ret_bool HX2.out.symm, below_two Hb.out⟩
      · have HZ := Lib.hid hz
        rcases ha : decide ((ks.length : Int) = arityI op) with _ | _
        · have HX2 := Lib.hid (show exOk (n + 1) (d + 1) (op, ⟨v, k, x, t⟩, Value.slice p ks.length cap, ks) = false by rw [HX.out]; simp [hz, of_decide_eq_false ha])
          have q : ((ks.length : Int) != arityI op) = true := bne_iff_ne.2 (of_decide_eq_false ha)
          clear HX hz ha
          go_enter Tryz.func122, Tryz.ntmps122
          go_wp2_with fail
          go_region_with (first | (refine (tNone v k x t _).mono ?_; rintro r w1 ⟨rfl, hb⟩; rw [HZ.out]; obtain ⟨hc, hf⟩ := bcell hb; have Hb := Lib.hid hb; clear hb) | (refine (tArity op _).mono ?_; rintro r w2 ⟨rfl, rfl⟩))
          all_goals
            go_wp2_with fail
            go_ret
            exact ⟨ret_bool HX2.out.symm, below_two Hb.out⟩
        · have HX2 := Lib.hid (show exOk (n + 1) (d + 1) (op, ⟨v, k, x, t⟩, Value.slice p ks.length cap, ks) = !ks.any (exBad n d) by rw [HX.out, ← ex_kids]; simp [hz, of_decide_eq_true ha])
          have q : ((ks.length : Int) != arityI op) = false := by rw [of_decide_eq_true ha]; simp
          clear HX hz ha
          go_enter Tryz.func122, Tryz.ntmps122
          go_wp2_with fail
          go_region_with (first | (refine (tNone v k x t _).mono ?_; rintro r w1 ⟨rfl, hb⟩; rw [HZ.out]; obtain ⟨hc, hf⟩ := bcell hb; have Hb := Lib.hid hb; clear hb) | (refine (tArity op _).mono ?_; rintro r w2 ⟨rfl, rfl⟩))
          all_goals
            go_wp2_with fail
            refine (kidsBad d IH.out n (w.heap.size + 1) (op, ⟨v, k, x, t⟩, Value.slice p ks.length cap, ks) _ (by omega) (ExAt.up (below_two Hb.out) _ _ HE.out) HR.out ?_).mono ?_
            · first | (rw [hc _ _ (by show w.heap.size + 1 < ((w.alloc _).alloc _).heap.size; simp)]; show ((w.alloc _).alloc _).cell? _ = _; simp; done) | (rw [hc _ _ (by show w.heap.size + 1 < ((w.alloc _).alloc _).heap.size; simp)]; show ((w.alloc _).alloc _).cell? _ = _; go_simp; done) | (go_simp; done)
            · rintro r w3 ⟨rfl, hb3⟩
              have Hb3 := Lib.hid hb3; clear hb3
              go_wp2_with fail
              go_ret
              exact ⟨ret_bool HX2.out.symm, (below_two Hb.out).trans (Hb3.out.mono (below_two Hb.out).size)⟩
theorem deep_all : ∀ d, DeepAt d
  | 0 => fun e => nomatch e
  | d + 1 => deep_step d (deep_all d)
end Go.Proofs.YtafjjececdhmjaaGreat

/- The contract of term.CheckExpr, and how expressions are written. Conditions: the expression lies in memory as it is told; a text is no longer than the model lets any be. -/
namespace Go.Proofs.YtafjjececdhmjaaGreat
open Go.RowKit

theorem tCheckExpr (d : Nat) (e : Ex d) (w : World) (he : ExAt w d e) (hr : ExR d e) :
    Calls Tryz.prog 106 #[.agg #[.int .i8 (exOp d e), .string (exTm d e).v, .int .i8 (exTm d e).x.k, .int .i64 (exTm d e).x.n, .string (exTm d e).x.t, exSl d e]] w fun r w' => r = .returned (.int .i64 (okCode (exOk 8 d e) 40)) ∧ Below w.heap.size w w' := by
  have HE := Lib.hid he; clear he
  have HR := Lib.hid hr; clear hr
  go_enter Tryz.func106, Tryz.ntmps106
  go_wp2_with fail
  refine (deep_all d e 8 _ (by omega) (ExAt.up (below_alloc _ _) d e HE.out) HR.out).mono ?_
  rintro r w1 ⟨rfl, hb⟩
  have Hb := Lib.hid hb; clear hb
  go_wp2_with fail
  refine (tCode _ _).mono ?_
  rintro r w2 ⟨rfl, rfl⟩
  go_wp2_with fail
  go_ret
  exact ⟨rfl, (below_alloc _ _).trans (Hb.out.mono (by simp))⟩
theorem six {w : World} {b : Nat} {x0 x1 x2 x3 x4 x5 : Value} {t : TypeId} {fz : Nat × Nat} (h : w.heap[b]? = some (.cells #[x0, x1, x2, x3, x4, x5] t fz)) :
    w.cell? ⟨b, 0, none⟩ = some x0 ∧ w.cell? ⟨b, 1, none⟩ = some x1 ∧ w.cell? ⟨b, 2, none⟩ = some x2 ∧ w.cell? ⟨b, 3, none⟩ = some x3 ∧ w.cell? ⟨b, 4, none⟩ = some x4 ∧ w.cell? ⟨b, 5, none⟩ = some x5 :=
  ⟨by rw [Lib.cell_of_heap h]; rfl, by rw [Lib.cell_of_heap h]; rfl, by rw [Lib.cell_of_heap h]; rfl, by rw [Lib.cell_of_heap h]; rfl, by rw [Lib.cell_of_heap h]; rfl, by rw [Lib.cell_of_heap h]; rfl⟩
/-- A side, in its brackets where it needs them. -/
def sideL (l : List UInt8) (b : Bool) : List UInt8 := if b then 40 :: (l ++ [41]) else l
def holdI (op : Int) : Int := holdL.getD op.toNat 0
/-- Whether a minus must put what it turns in brackets. -/
def negB (op : Int) (t : Tm) : Bool := decide (holdI op < holdI 1) || (op == 0 && (bl t.v).isEmpty && t.x.k == 1 && decide (0 ≤ t.x.n))
/-- An expression, written. -/
def exprL : (d : Nat) → Ex d → List UInt8
  | 0, e => nomatch e
  | d + 1, e => if e.1 = 0 then termL e.2.1 else match e.2.2.2 with
    | [k] => if e.1 = 1 then 45 :: sideL (exprL d k) (negB (exOp d k) (exTm d k)) else bl (wordL.getD e.1.toNat ⟨#[]⟩) ++ sideL (exprL d k) true
    | [a, b] => sideL (exprL d a) (decide (holdI (exOp d a) < holdI e.1)) ++ (32 :: (bl (signL.getD e.1.toNat ⟨#[]⟩) ++ [32])) ++ sideL (exprL d b) (decide (holdI (exOp d b) ≤ holdI e.1))
    | _ => []
end Go.Proofs.YtafjjececdhmjaaGreat
