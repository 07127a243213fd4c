/- The reference's worth and Eval at a lone term. The kind of an expression under an assignment that fits: none, or what the rule says of it: the contract of sort. The kinds of a body's comparisons under an assignment that fits: the contract of kinds. Conditions: the assignment lies in memory as it is told; the term may be an expression's. the expression may be and lies in memory as it is told; so does the assignment. the body may be and lies in memory as it is told; so does the assignment. -/
import Derived.Test.YtafjjececdhmjaaGreatNKv
import Derived.Test.YtafjjececdhmjaaGreatNKi
import Derived.Deep.Cut
import Derived.Deep.CutRange
namespace Go.Proofs.YtafjjececdhmjaaGreat
open Go.RowKit

/-- The value of a lone term, nothing where it has none. -/
def wrV (l : List Tm) (t : Tm) : Vl := if (bdV l t).2 then (bdV l t).1 else ⟨0, 0, ⟨#[]⟩⟩
set_option maxHeartbeats 4000000 in
set_option maxRecDepth 100000 in
theorem rWorth (l : List Tm) (p : Option Addr) (c : Nat) (v : ByteArray) (k n : Int) (s : ByteArray) (q : Option Addr) (m d : Nat) (w : World) (hl : LsAt w p l) (hn : l.length ≤ 10000) :
    Calls Tryz.prog 99 #[.agg #[.int .i8 0, .string v, .int .i8 k, .int .i64 n, .string s, .slice q m d], .slice p l.length c] w fun e w' => ∃ b : Bool, e = .returned (.tuple #[vlAgg (wrV l ⟨v, ⟨k, n, s⟩⟩), .bool b]) ∧ Below w.heap.size w w' := by
  obtain ⟨V, hV⟩ : ∃ V, V = (w.alloc (.cells #[.int .i8 0, .string v, .int .i8 k, .int .i64 n, .string s, .slice q m d] 112)).alloc (.cells #[.int .i8 0, .int .i64 0, .string ⟨#[]⟩] 91) := ⟨_, rfl⟩
  have HBV := Lib.hid (show Below w.heap.size w V by rw [hV]; exact (below_alloc _ _).trans ((below_alloc _ _).mono (by simp)))
  have HSV := Lib.hid (show V.heap.size = w.heap.size + 1 + 1 by rw [hV]; simp)
  have HB1 := Lib.hid (show V.heap[w.heap.size]? = some (.cells #[.int .i8 0, .string v, .int .i8 k, .int .i64 n, .string s, .slice q m d] 112 (0, 0)) by
    have h1 := heap_alloc_new w (.cells #[.int .i8 0, .string v, .int .i8 k, .int .i64 n, .string s, .slice q m d] 112)
    rw [hV]
    exact ((below_alloc (w.alloc _) _).block _ (by simp)).trans h1)
  have HB2 := Lib.hid (show V.heap[w.heap.size + 1]? = some (.cells #[.int .i8 0, .int .i64 0, .string ⟨#[]⟩] 91 (0, 0)) by rw [hV]; simpa using heap_alloc_new (w.alloc _) _)
  have hbs : w.heap.size + 1 < V.heap.size := by rw [HSV.out]; omega
  have HBD := Lib.hid (rBound l p c v k n s V (hl.up HBV.out) hn)
  clear hl
  obtain ⟨x0, x1, x2, x3, x4, x5⟩ := six HB1.out
  rw [hV] at x0 x1 x2 x3 x4 x5
  obtain ⟨⟨xk, xn, xt⟩, hx⟩ : ∃ x, x = (bdV l ⟨v, ⟨k, n, s⟩⟩).1 := ⟨_, rfl⟩
  obtain ⟨b, hb⟩ : ∃ b, b = (bdV l ⟨v, ⟨k, n, s⟩⟩).2 := ⟨_, rfl⟩
  have HE := Lib.hid (show wrV l ⟨v, ⟨k, n, s⟩⟩ = if b then ⟨xk, xn, xt⟩ else ⟨0, 0, ⟨#[]⟩⟩ by unfold wrV; rw [← hx, ← hb])
  rw [← hx, ← hb] at HBD
  clear hx hb
  have HBD := Lib.hid (show Calls Tryz.prog 62 #[.slice p l.length c, .agg #[.string v, .int .i8 k, .int .i64 n, .string s]] V fun e w' => e = .returned (.tuple #[.agg #[.int .i8 xk, .int .i64 xn, .string xt], .bool b]) ∧ Below V.heap.size V w' from HBD.out)
  go_enter Tryz.func99, Tryz.ntmps99
  go_wp2_with fail
  rw [← hV]
  clear hV x0 x1 x2 x3 x4 x5
  refine HBD.out.mono ?_
  rintro e w1 ⟨rfl, hb1⟩
  have Hb1 := Lib.hid (hb1.alloc hb1.size (.cells #[.int .i8 xk, .int .i64 xn, .string xt] 91)); clear hb1 HBD
  have HC := Lib.hid ((Hb1.out.block (w.heap.size + 1) hbs).trans HB2.out)
  obtain ⟨z0, z1, z2⟩ := threeV HC.out
  have g0 : (w1.alloc (.cells #[.int .i8 xk, .int .i64 xn, .string xt] 91)).frozen? ⟨w.heap.size + 1, 0, none⟩ = false := Lib.frozen_of_heap HC.out 0
  have g1 : (w1.alloc (.cells #[.int .i8 xk, .int .i64 xn, .string xt] 91)).frozen? ⟨w.heap.size + 1, 1, none⟩ = false := Lib.frozen_of_heap HC.out 1
  have g2 : (w1.alloc (.cells #[.int .i8 xk, .int .i64 xn, .string xt] 91)).frozen? ⟨w.heap.size + 1, 2, none⟩ = false := Lib.frozen_of_heap HC.out 2
  cases b
  case false =>
    have HBp := Lib.hid (show Below w.heap.size w (putL (w1.alloc (.cells #[.int .i8 xk, .int .i64 xn, .string xt] 91)) (w.heap.size + 1) 0 [.int .i8 0, .int .i64 0, .string ⟨#[]⟩]) from putL_below (Nat.le_succ _) _ _ _ (HBV.out.trans (Hb1.out.mono HBV.out.size)))
    have hb2 : (putL (w1.alloc (.cells #[.int .i8 xk, .int .i64 xn, .string xt] 91)) (w.heap.size + 1) 0 [.int .i8 0, .int .i64 0, .string ⟨#[]⟩]).heap[w.heap.size + 1]? = some (.cells #[.int .i8 0, .int .i64 0, .string ⟨#[]⟩] 91 (0, 0)) := putL_heap _ HC.out rfl
    go_wp2_with fail
    change bodyPost _ _ _ _ _ (putL (w1.alloc (.cells #[.int .i8 xk, .int .i64 xn, .string xt] 91)) (w.heap.size + 1) 0 [.int .i8 0, .int .i64 0, .string ⟨#[]⟩])
    clear z0 z1 z2 g0 g1 g2
    obtain ⟨W2, hW2⟩ : ∃ W2, W2 = putL (w1.alloc (.cells #[.int .i8 xk, .int .i64 xn, .string xt] 91)) (w.heap.size + 1) 0 [.int .i8 0, .int .i64 0, .string ⟨#[]⟩] := ⟨_, rfl⟩
    rw [← hW2] at hb2 HBp ⊢
    clear hW2
    obtain ⟨z0, z1, z2⟩ := threeV hb2
    refine bodyPost_ret (v := .tuple #[.agg #[.int .i8 0, .int .i64 0, .string ⟨#[]⟩], .bool false]) (by simp [results, Tryz.results99, go_sem, z0, z1, z2]) rfl ?_
    exact ⟨false, by rw [HE.out]; rfl, HBp.out⟩
  case true =>
    have HBp := Lib.hid (show Below w.heap.size w (putL (w1.alloc (.cells #[.int .i8 xk, .int .i64 xn, .string xt] 91)) (w.heap.size + 1) 0 [.int .i8 xk, .int .i64 xn, .string xt]) from putL_below (Nat.le_succ _) _ _ _ (HBV.out.trans (Hb1.out.mono HBV.out.size)))
    have hb2 : (putL (w1.alloc (.cells #[.int .i8 xk, .int .i64 xn, .string xt] 91)) (w.heap.size + 1) 0 [.int .i8 xk, .int .i64 xn, .string xt]).heap[w.heap.size + 1]? = some (.cells #[.int .i8 xk, .int .i64 xn, .string xt] 91 (0, 0)) := putL_heap _ HC.out rfl
    go_wp2_with fail
    change bodyPost _ _ _ _ _ (putL (w1.alloc (.cells #[.int .i8 xk, .int .i64 xn, .string xt] 91)) (w.heap.size + 1) 0 [.int .i8 xk, .int .i64 xn, .string xt])
    clear z0 z1 z2 g0 g1 g2
    obtain ⟨W2, hW2⟩ : ∃ W2, W2 = putL (w1.alloc (.cells #[.int .i8 xk, .int .i64 xn, .string xt] 91)) (w.heap.size + 1) 0 [.int .i8 xk, .int .i64 xn, .string xt] := ⟨_, rfl⟩
    rw [← hW2] at hb2 HBp ⊢
    clear hW2
    obtain ⟨z0, z1, z2⟩ := threeV hb2
    refine bodyPost_ret (v := .tuple #[.agg #[.int .i8 xk, .int .i64 xn, .string xt], .bool true]) (by simp [results, Tryz.results99, go_sem, z0, z1, z2]) rfl ?_
    exact ⟨true, by rw [HE.out]; rfl, HBp.out⟩
set_option maxHeartbeats 4000000 in
set_option maxRecDepth 100000 in
theorem rEval (l : List Tm) (p : Option Addr) (c : Nat) (v : ByteArray) (k n : Int) (s : ByteArray) (q : Option Addr) (d : Nat) (w : World) (hl : LsAt w p l) (hn : l.length ≤ 10000) (hv : v.size ≤ maxLen) (hso : solidB ⟨v, ⟨k, n, s⟩⟩ = true) :
    Calls Tryz.prog 64 #[.agg #[.int .i8 0, .string v, .int .i8 k, .int .i64 n, .string s, .slice q 0 d], .slice p l.length c] w fun e w' => ∃ b : Bool, e = .returned (.tuple #[vlAgg (wrV l ⟨v, ⟨k, n, s⟩⟩), .bool b]) ∧ Below w.heap.size w w' := by
  obtain ⟨V, hV⟩ : ∃ V, V = (w.alloc (.cells #[.int .i8 0, .string v, .int .i8 k, .int .i64 n, .string s, .slice q 0 d] 112)).alloc (.cells #[.int .i8 0, .int .i64 0, .string ⟨#[]⟩] 91) := ⟨_, rfl⟩
  have HBV := Lib.hid (show Below w.heap.size w V by rw [hV]; exact (below_alloc _ _).trans ((below_alloc _ _).mono (by simp)))
  have HSV := Lib.hid (show V.heap.size = w.heap.size + 1 + 1 by rw [hV]; simp)
  have HB1 := Lib.hid (show V.heap[w.heap.size]? = some (.cells #[.int .i8 0, .string v, .int .i8 k, .int .i64 n, .string s, .slice q 0 d] 112 (0, 0)) by
    have h1 := heap_alloc_new w (.cells #[.int .i8 0, .string v, .int .i8 k, .int .i64 n, .string s, .slice q 0 d] 112)
    rw [hV]
    exact ((below_alloc (w.alloc _) _).block _ (by simp)).trans h1)
  have HB2 := Lib.hid (show V.heap[w.heap.size + 1]? = some (.cells #[.int .i8 0, .int .i64 0, .string ⟨#[]⟩] 91 (0, 0)) by rw [hV]; simpa using heap_alloc_new (w.alloc _) _)
  have hbk : w.heap.size < V.heap.size := by rw [HSV.out]; omega
  have hbs : w.heap.size + 1 < V.heap.size := by rw [HSV.out]; omega
  have HLF := Lib.hid (show Calls Tryz.prog 94 #[.agg #[.int .i8 0, .string v, .int .i8 k, .int .i64 n, .string s, .slice q 0 d], .int .i64 8] V fun r w' => r = .returned (.bool true) ∧ Below V.heap.size V w' by
    have h1 := cLeaf v k n 8 s q 0 d V (by decide) (by unfold maxLen; omega) hv
    rw [hso] at h1
    exact h1)
  clear hso hv
  have HWO := Lib.hid (fun V' (h : Below V.heap.size V V') => rWorth l p c v k n s q 0 d V' (hl.up (HBV.out.trans (h.mono HBV.out.size))) hn)
  clear hl
  obtain ⟨⟨xk, xn, xt⟩, hx⟩ : ∃ x, x = wrV l ⟨v, ⟨k, n, s⟩⟩ := ⟨_, rfl⟩
  rw [← hx] at HWO ⊢
  clear hx
  have HWO := Lib.hid (show ∀ V', Below V.heap.size V V' → Calls Tryz.prog 99 #[.agg #[.int .i8 0, .string v, .int .i8 k, .int .i64 n, .string s, .slice q 0 d], .slice p l.length c] V' fun e w' => ∃ b : Bool, e = .returned (.tuple #[.agg #[.int .i8 xk, .int .i64 xn, .string xt], .bool b]) ∧ Below V'.heap.size V' w' from HWO.out)
  obtain ⟨x0, x1, x2, x3, x4, x5⟩ := six HB1.out
  rw [hV] at x0 x1 x2 x3 x4 x5
  go_enter Tryz.func64, Tryz.ntmps64
  go_wp2_with fail
  rw [← hV]
  clear hV x0 x1 x2 x3 x4 x5
  refine HLF.out.mono ?_
  rintro e w1 ⟨rfl, hb1⟩
  have Hb1 := Lib.hid (show Below V.heap.size V w1 from hb1); clear hb1 HLF
  obtain ⟨x0, x1, x2, x3, x4, x5⟩ := six ((Hb1.out.block w.heap.size hbk).trans HB1.out)
  go_wp2_with fail
  refine (HWO.out w1 Hb1.out).mono ?_
  rintro e w2 ⟨b, rfl, hb2⟩
  have Hb2 := Lib.hid (Hb1.out.trans (hb2.mono Hb1.out.size)); clear hb2 HWO
  clear x0 x1 x2 x3 x4 x5
  have HC := Lib.hid ((Hb2.out.block (w.heap.size + 1) hbs).trans HB2.out)
  obtain ⟨z0, z1, z2⟩ := threeV HC.out
  have g0 : w2.frozen? ⟨w.heap.size + 1, 0, none⟩ = false := Lib.frozen_of_heap HC.out 0
  have g1 : w2.frozen? ⟨w.heap.size + 1, 1, none⟩ = false := Lib.frozen_of_heap HC.out 1
  have g2 : w2.frozen? ⟨w.heap.size + 1, 2, none⟩ = false := Lib.frozen_of_heap HC.out 2
  have HBp := Lib.hid (show Below w.heap.size w (putL w2 (w.heap.size + 1) 0 [.int .i8 xk, .int .i64 xn, .string xt]) from putL_below (Nat.le_succ _) _ _ _ (HBV.out.trans (Hb2.out.mono HBV.out.size)))
  have hb3 : (putL w2 (w.heap.size + 1) 0 [.int .i8 xk, .int .i64 xn, .string xt]).heap[w.heap.size + 1]? = some (.cells #[.int .i8 xk, .int .i64 xn, .string xt] 91 (0, 0)) := putL_heap _ HC.out rfl
  go_wp2_with fail
  change bodyPost _ _ _ _ _ (putL w2 (w.heap.size + 1) 0 [.int .i8 xk, .int .i64 xn, .string xt])
  clear z0 z1 z2 g0 g1 g2
  obtain ⟨W2, hW2⟩ : ∃ W2, W2 = putL w2 (w.heap.size + 1) 0 [.int .i8 xk, .int .i64 xn, .string xt] := ⟨_, rfl⟩
  rw [← hW2] at hb3 HBp ⊢
  clear hW2
  obtain ⟨z0, z1, z2⟩ := threeV hb3
  refine bodyPost_ret (v := .tuple #[.agg #[.int .i8 xk, .int .i64 xn, .string xt], .bool b]) (by simp [results, Tryz.results64, go_sem, z0, z1, z2]) rfl ?_
  exact ⟨b, rfl, HBp.out⟩
end Go.Proofs.YtafjjececdhmjaaGreat

namespace Go.Proofs.YtafjjececdhmjaaGreat
open Go.RowKit

/-- A kind that is none, or what is said of a source. -/
def KOk (cs : List Cn) (s : Sr) (K : Int) : Prop := K = 0 ∨ (match s with | .any => True | .ty u => K = u | .pl p => ∀ T, Has cs T p → K = T)
/-- A binding that fits what is said. -/
def BOk (cs : List Cn) (n : Int) (b : Tm) : Prop := (b.x.k = 1 ∨ b.x.k = 2) ∧ ∀ T, Has cs T ⟨n, b.v, 0⟩ → b.x.k = T
theorem bnd_mem : ∀ {l : List Tm} {v : ByteArray} {x : Vl}, bnd l v = some x → ∃ b ∈ l, b.v = v ∧ b.x = x
  | [], _, _, h => by simp [bnd] at h
  | b :: r, v, x, h => by
    unfold bnd at h
    split at h
    · rename_i e
      exact ⟨b, by simp, e, by simpa using h⟩
    · obtain ⟨b', h1, h2⟩ := bnd_mem h
      exact ⟨b', by simp [h1], h2⟩
theorem vlOk_k {x : Vl} (h : vlOk x = true) : x.k = 1 ∨ x.k = 2 := by
  unfold vlOk at h
  by_cases h1 : x.k = 1
  · exact .inl h1
  · by_cases h2 : x.k = 2
    · exact .inr h2
    · simp [h1, h2] at h
theorem wrV_ok {cs : List Cn} {n : Int} {l : List Tm} (hl : ∀ b ∈ l, BOk cs n b) {t : Tm} (hs : solidB t = true) : KOk cs (tmSr n t) (wrV l t).k ∧ 0 ≤ (wrV l t).k ∧ (wrV l t).k ≤ 2 := by
  unfold solidB at hs
  rw [Bool.and_eq_true] at hs
  have h95 : ¬ bl t.v = [95] := by simpa using hs.1
  by_cases h0 : (bl t.v).isEmpty = true
  · have hok : vlOk t.x = true := by
      have h1 := hs.2
      unfold tmOk at h1
      rwa [if_pos h0] at h1
    have e : wrV l t = t.x := by unfold wrV bdV; rw [if_pos h0]; rfl
    rw [e]
    have hk := vlOk_k hok
    unfold tmSr
    rw [if_neg h95, if_pos h0]
    refine ⟨.inr ?_, by omega, by omega⟩
    show t.x.k = if t.x.k = 1 then 1 else 2
    split <;> omega
  · unfold tmSr
    rw [if_neg h95, if_neg h0]
    rcases hb : bnd l t.v with _ | x
    · have e : wrV l t = ⟨0, 0, ⟨#[]⟩⟩ := by unfold wrV bdV; rw [if_neg h0, hb]; rfl
      rw [e]
      exact ⟨.inl rfl, by decide, by decide⟩
    · obtain ⟨b, hm, hv, rfl⟩ := bnd_mem hb
      have hB := hl b hm
      rcases hk : vlOk b.x with _ | _
      · have e : wrV l t = ⟨0, 0, ⟨#[]⟩⟩ := by unfold wrV bdV; rw [if_neg h0, hb]; simp [hk]
        rw [e]
        exact ⟨.inl rfl, by decide, by decide⟩
      · have e : wrV l t = b.x := by unfold wrV bdV; rw [if_neg h0, hb]; simp [hk]
        rw [e]
        have h12 := hB.1
        refine ⟨.inr fun T hT => ?_, by omega, by omega⟩
        rw [← hv] at hT
        exact hB.2 T hT
/-- What sort leaves. -/
def SoPost (cs : List Cn) (s : Sr) (w : World) (r : Ending) (w' : World) : Prop := ∃ K : Int, r = .returned (.tuple #[.int .i8 K, .bool true]) ∧ KOk cs s K ∧ 0 ≤ K ∧ K ≤ 2 ∧ Below w.heap.size w w'
def SoAt (cs : List Cn) (n : Int) (l : List Tm) (p : Option Addr) (c : Nat) (d : Nat) : Prop := ∀ (m : Nat) (e : Ex d) (w : World), m ≤ 8 → exOk m d e = true → ExAt w d e → ExR d e → LsAt w p l → (∀ x ∈ exCn n d e, x ∈ cs) →
  Calls Tryz.prog 35 #[.agg #[.int .i8 (exOp d e), .string (exTm d e).v, .int .i8 (exTm d e).x.k, .int .i64 (exTm d e).x.n, .string (exTm d e).x.t, exSl d e], .slice p l.length c] w (SoPost cs (exSr n d e) w)
/-- A kid's kind: none, or what its parent wants. -/
theorem kid_kind {cs : List Cn} {s : Sr} {K T : Int} (hk : KOk cs s K) (ht : ¬ Torn cs) (ha : s ≠ .any) (hs : ∀ x ∈ saySr s T, x ∈ cs) : K = 0 ∨ K = T := by
  rcases hk with h | h
  · exact .inl h
  · right
    cases s with
    | any => exact absurd rfl ha
    | ty u =>
      have h' : K = u := h
      by_cases e : u = T
      · rw [h', e]
      · exact absurd (.inl (hs .bad (by show Cn.bad ∈ (if u = T then [] else [Cn.bad]); rw [if_neg e]; simp))) ht
    | pl q => exact h T (.say (hs _ (by simp [saySr])))
theorem exSr_any {n : Int} : ∀ {d m : Nat} {e : Ex d}, exOk m d e = true → exSr n d e ≠ .any
  | 0, _, e, _ => nomatch e
  | _ + 1, 0, _, h => by simp [exOk] at h
  | d + 1, m + 1, (op, t, s, ks), h => by
    change (if op = 0 then ks.isEmpty && solidB t else tmZero t && decide ((ks.length : Int) = arityI op) && ks.all (exOk m d)) = true at h
    show (if op = 0 then tmSr n t else .ty (ownT op)) ≠ .any
    split at h
    · rename_i e
      rw [if_pos e]
      rw [Bool.and_eq_true] at h
      have h1 := h.2
      unfold solidB at h1
      rw [Bool.and_eq_true] at h1
      have h95 : ¬ bl t.v = [95] := by simpa using h1.1
      unfold tmSr
      rw [if_neg h95]
      split <;> simp
    · rename_i e
      rw [if_neg e]
      simp
theorem sum_last {op : Int} (h1 : 1 ≤ op) (h2 : op ≤ 10) : kidT op = (if 7 ≤ op then 2 else 1) ∧ ownT op = (if op = 8 ∨ op = 9 then 1 else if 7 ≤ op then 2 else 1) := by
  unfold kidT ownT
  constructor
  · by_cases h : 7 ≤ op
    · rw [if_pos h, if_pos (by omega)]
    · rw [if_neg h, if_neg (by omega)]
  · by_cases h : op = 8 ∨ op = 9
    · rw [if_pos h, if_neg (by omega)]
    · rw [if_neg h]
      by_cases h3 : 7 ≤ op
      · rw [if_pos h3, if_pos (by omega)]
      · rw [if_neg h3, if_neg (by omega)]
set_option maxHeartbeats 8000000 in
set_option maxRecDepth 100000 in
theorem so_step (cs : List Cn) (n : Int) (l : List Tm) (p : Option Addr) (c : Nat) (hn : l.length ≤ 10000) (hb : ∀ b ∈ l, BOk cs n b) (ht : ¬ Torn cs) (d : Nat) (ih : SoAt cs n l p c d) : SoAt cs n l p c (d + 1) := by
  rintro (_ | m) ⟨op, ⟨v, ⟨k, x, t⟩⟩, s, ks⟩ w hm8 hok ⟨q, cap, hs, hm, hc, hka⟩ ⟨_, htr, hkr⟩ hl hcs
  · simp [exOk] at hok
  change s = .slice q ks.length cap at hs
  change ks.length = 0 ∨ ∃ a o, q = some ⟨a, o, none⟩ ∧ a < w.heap.size ∧ ∀ i, (h : i < ks.length) → ExCell w a (o + i * 6) (exOp d ks[i]) (exTm d ks[i]) (exSl d ks[i]) at hc
  change ∀ k ∈ ks, ExAt w d k at hka
  change ∀ k ∈ ks, ExR d k at hkr
  change (if op = 0 then ks.isEmpty && solidB ⟨v, ⟨k, x, t⟩⟩ else tmZero ⟨v, ⟨k, x, t⟩⟩ && decide ((ks.length : Int) = arityI op) && ks.all (exOk m d)) = true at hok
  have htv := htr.v0
  clear htr
  subst hs
  show Calls _ _ #[.agg #[.int .i8 op, .string v, .int .i8 k, .int .i64 x, .string t, .slice q ks.length cap], .slice p l.length c] w (SoPost cs (exSr n (d + 1) (op, ⟨v, ⟨k, x, t⟩⟩, .slice q ks.length cap, ks)) w)
  obtain ⟨V, hV⟩ : ∃ V, V = w.alloc (.cells #[.int .i8 op, .string v, .int .i8 k, .int .i64 x, .string t, .slice q ks.length cap] 112) := ⟨_, rfl⟩
  have HBV := Lib.hid (show Below w.heap.size w V by rw [hV]; exact below_alloc _ _)
  have HSV := Lib.hid (show V.heap.size = w.heap.size + 1 by rw [hV]; simp)
  have HB1 := Lib.hid (show V.heap[w.heap.size]? = some (.cells #[.int .i8 op, .string v, .int .i8 k, .int .i64 x, .string t, .slice q ks.length cap] 112 (0, 0)) by rw [hV]; exact heap_alloc_new w _)
  have hbk : w.heap.size < V.heap.size := by rw [HSV.out]; omega
  have HL := Lib.hid hl; clear hl
  by_cases h0 : op = 0
  · subst h0
    rw [if_pos rfl, Bool.and_eq_true, List.isEmpty_iff] at hok
    obtain ⟨rfl, hso⟩ := hok
    clear hc hka hkr hcs hm
    have HEV := Lib.hid (rEval l p c v k x t q cap V (HL.out.up HBV.out) hn htv hso)
    obtain ⟨hko, hk0, hk2⟩ := wrV_ok hb hso
    have HKO := Lib.hid (show KOk cs (exSr n (d + 1) ((0 : Int), (⟨v, ⟨k, x, t⟩⟩ : Tm), Value.slice q ([] : List (Ex d)).length cap, ([] : List (Ex d)))) (wrV l ⟨v, ⟨k, x, t⟩⟩).k from hko)
    clear hko hso
    obtain ⟨⟨xk, xn, xt⟩, hx⟩ : ∃ y, y = wrV l ⟨v, ⟨k, x, t⟩⟩ := ⟨_, rfl⟩
    rw [← hx] at HEV HKO hk0 hk2
    clear hx
    have HEV := Lib.hid (show Calls Tryz.prog 64 #[.agg #[.int .i8 0, .string v, .int .i8 k, .int .i64 x, .string t, .slice q 0 cap], .slice p l.length c] V fun e w' => ∃ b : Bool, e = .returned (.tuple #[.agg #[.int .i8 xk, .int .i64 xn, .string xt], .bool b]) ∧ Below V.heap.size V w' from HEV.out)
    simp only at HKO hk0 hk2
    show Calls _ _ #[.agg #[.int .i8 0, .string v, .int .i8 k, .int .i64 x, .string t, .slice q 0 cap], .slice p l.length c] w _
    change V = w.alloc (.cells #[.int .i8 0, .string v, .int .i8 k, .int .i64 x, .string t, .slice q 0 cap] 112) at hV
    obtain ⟨x0, x1, x2, x3, x4, x5⟩ := six HB1.out
    change V.cell? ⟨w.heap.size, 5, none⟩ = some (.slice q 0 cap) at x5
    rw [hV] at x0 x1 x2 x3 x4 x5
    go_enter Tryz.func35, Tryz.ntmps35
    go_wp2_with fail
    rw [← hV]
    clear hV x0 x1 x2 x3 x4 x5
    refine HEV.out.mono ?_
    rintro e w1 ⟨b, rfl, hb1⟩
    have Hb1 := Lib.hid (HBV.out.trans ((hb1.alloc hb1.size (.cells #[.int .i8 xk, .int .i64 xn, .string xt] 91)).mono HBV.out.size)); clear hb1 HEV
    go_wp2_with fail
    refine bodyPost_ret (results_tmp2 rfl _ _ _) rfl ?_
    exact ⟨xk, rfl, HKO.out, hk0, hk2, Hb1.out⟩
  · rw [if_neg h0] at hok
    simp only [Bool.and_eq_true, decide_eq_true_eq, List.all_eq_true] at hok
    obtain ⟨⟨_, har⟩, hall⟩ := hok
    have hop : 1 ≤ op ∧ op ≤ 10 := by
      unfold arityI at har
      split at har
      · omega
      · split at har
        · omega
        · omega
    have hk2 : ks.length ≤ 2 := by
      unfold arityI at har
      split at har
      · omega
      · split at har <;> omega
    obtain ⟨hkt, hot⟩ := sum_last hop.1 hop.2
    clear har
    have HSR := Lib.hid (show exSr n (d + 1) (op, (⟨v, ⟨k, x, t⟩⟩ : Tm), Value.slice q ks.length cap, ks) = .ty (ownT op) by
      show (if op = 0 then tmSr n _ else Sr.ty (ownT op)) = _
      rw [if_neg h0])
    have HKC := Lib.hid (show ∀ y ∈ ks, (∀ z ∈ exCn n d y, z ∈ cs) ∧ ∀ z ∈ saySr (exSr n d y) (kidT op), z ∈ cs from fun y hy => by
      have e : exCn n (d + 1) (op, (⟨v, ⟨k, x, t⟩⟩ : Tm), Value.slice q ks.length cap, ks) = ks.flatMap fun k => exCn n d k ++ saySr (exSr n d k) (kidT op) := by
        show (if op = 0 then [] else _) = _
        rw [if_neg h0]
      rw [e] at hcs
      exact ⟨fun z hz => hcs z (List.mem_flatMap.2 ⟨y, hy, List.mem_append_left _ hz⟩), fun z hz => hcs z (List.mem_flatMap.2 ⟨y, hy, List.mem_append_right _ hz⟩)⟩)
    clear hcs
    have HKX := Lib.hid (show ∀ y ∈ ks, ∀ z ∈ exCn n d y, z ∈ cs from fun y hy => (HKC.out y hy).1)
    rw [HSR.out]
    have HC := Lib.hid hc; clear hc
    have HKA := Lib.hid hka; clear hka
    have HKR := Lib.hid hkr; clear hkr
    have HALL := Lib.hid hall; clear hall
    have HKD := Lib.hid (show ∀ y ∈ ks, ∀ K, KOk cs (exSr n d y) K → K = 0 ∨ K = kidT op from fun y hy K hK => kid_kind hK ht (exSr_any (HALL.out y hy)) (HKC.out y hy).2)
    obtain ⟨R, hR⟩ : ∃ R : Ending → World → Prop, R = SoPost cs (.ty (ownT op)) w := ⟨_, rfl⟩
    have HEND := Lib.hid (show ∀ (K : Int) (w' : World), (K = 0 ∨ K = ownT op) → 0 ≤ K → K ≤ 2 → Below w.heap.size w w' → R (.returned (.tuple #[.int .i8 K, .bool true])) w' by
      rw [hR]
      exact fun K w' h1 h2 h3 h4 => ⟨K, rfl, h1, h2, h3, h4⟩)
    rw [← hR]
    clear hR HSR HKC hb ht
    have q0 : (op == 0) = false := by simpa using h0
    obtain ⟨x0, x1, x2, x3, x4, x5⟩ := six HB1.out
    rw [hV] at x0 x5
    clear x1 x2 x3 x4
    by_cases h7 : 7 ≤ op
    case' pos =>
      rw [if_pos h7] at hkt hot
    case' neg =>
      rw [if_neg h7] at hkt hot
    all_goals
      have HKT := Lib.hid hkt; clear hkt
      have HOT := Lib.hid hot; clear hot
      go_enter Tryz.func35, Tryz.ntmps35
      go_wp2_with fail
      rw [← hV]
      clear hV x0 x5
      go_loopw [9, 10, 11, 12] (fun al i _ _ wr => ∃ (j : Nat) (b : Bool), j ≤ ks.length ∧ i = .int .i64 j ∧ al = .bool b ∧ Below V.heap.size V wr) (fun _ i _ _ _ => ks.length - (intOf i).toNat)
      case atStart => exact ⟨0, true, by omega, rfl, rfl, Below.refl _ _⟩
      case round =>
        obtain ⟨j, b, hj, rfl, rfl, hb⟩ := hrel
        have Hb := Lib.hid hb; clear hb
        rename World => wr
        obtain ⟨x0, x1, x2, x3, x4, x5⟩ := six ((Hb.out.block w.heap.size hbk).trans HB1.out)
        have Hwr := Lib.hid (HBV.out.trans (Hb.out.mono HBV.out.size))
        by_cases hlt : j < ks.length
        · rcases HC.out with hx | ⟨a, o, rfl, hta, hcc⟩
          · omega
          · have hck := (hcc j hlt).up Hwr.out hta
            clear hcc
            have hmem := List.getElem_mem hlt
            obtain ⟨pk, ck, hsk⟩ := ex_sl2 (HKA.out _ hmem)
            have HREC := Lib.hid (ih m ks[j] wr (by omega) (HALL.out _ hmem) (ExAt.up Hwr.out d _ (HKA.out _ hmem)) (HKR.out _ hmem) (HL.out.up Hwr.out) (HKX.out _ hmem))
            have HKY := Lib.hid (HKD.out _ hmem)
            obtain ⟨y, hy⟩ : ∃ y, y = ks[j] := ⟨_, rfl⟩
            rw [← hy] at hck hsk HREC HKY
            clear hy hmem
            unfold SoPost at HREC
            rw [hsk] at hck
            simp only [hsk] at HREC
            clear hsk
            obtain ⟨S, hS⟩ : ∃ S, S = exSr n d y := ⟨_, rfl⟩
            rw [← hS] at HREC HKY
            clear hS
            generalize exTm d y = ym at hck HREC
            generalize exOp d y = yo at hck HREC
            generalize exLen d y = yl at hck HREC
            obtain ⟨yv, ⟨yk, yn, yt⟩⟩ := ym
            obtain ⟨k0, k1, k2, k3, k4, k5⟩ := hck
            simp only at k0 k1 k2 k3 k4 k5 HREC
            have hk0 : (0 : Int) ≤ (j : Int) := by omega
            have hki : (j : Int) < (ks.length : Int) := by omega
            go_wp2_with fail
            refine HREC.out.mono ?_
            rintro e w1 ⟨K, rfl, hK, _, _, hb1⟩
            have Hb1 := Lib.hid (Hb.out.trans (hb1.mono Hb.out.size)); clear hb1
            have hK2 := HKY.out K hK
            rw [HKT.out] at hK2
            clear hK x0 x1 x2 x3 x4 x5 k0 k1 k2 k3 k4 k5
            cases b <;> rcases hK2 with rfl | rfl
            all_goals
              go_wp2_with fail
              go_roundw
              case rel => exact ⟨j + 1, _, by omega, by go_num, rfl, Hb1.out⟩
              case measure => simp [intOf]; omega
        · obtain rfl : j = ks.length := by omega
          cases b
          case false =>
            go_wp2_with fail
            exact HEND.out 0 _ (.inl rfl) (by decide) (by decide) Hwr.out
          case true =>
            by_cases h8 : op = 8
            · have q8 : (op == 8) = true := by simp [h8]
              have HE := Lib.hid (HEND.out 1 wr (.inr (by rw [HOT.out, if_pos (.inl h8)])) (by decide) (by decide) Hwr.out)
              clear h8
              go_wp2_with fail
              exact HE.out
            · by_cases h9 : op = 9
              · have q8 : (op == 8) = false := by simpa using h8
                have q9 : (op == 9) = true := by simp [h9]
                have HE := Lib.hid (HEND.out 1 wr (.inr (by rw [HOT.out, if_pos (.inr h9)])) (by decide) (by decide) Hwr.out)
                clear h8 h9
                go_wp2_with fail
                exact HE.out
              · have q8 : (op == 8) = false := by simpa using h8
                have q9 : (op == 9) = false := by simpa using h9
                have HE := Lib.hid (fun K (hK : K = ownT op) h1 h2 => HEND.out K wr (.inr hK) h1 h2 Hwr.out)
                have HO2 := HOT.out
                rw [if_neg (by omega)] at HO2
                rw [HO2] at HE
                clear h8 h9 HO2
                go_wp2_with fail
                exact HE.out _ rfl (by decide) (by decide)
theorem tSort (cs : List Cn) (n : Int) (l : List Tm) (p : Option Addr) (c : Nat) (hn : l.length ≤ 10000) (hb : ∀ b ∈ l, BOk cs n b) (ht : ¬ Torn cs) : ∀ d, SoAt cs n l p c d
  | 0 => fun _ e => nomatch e
  | d + 1 => so_step cs n l p c hn hb ht d (tSort cs n l p c hn hb ht d)
end Go.Proofs.YtafjjececdhmjaaGreat

namespace Go.Proofs.YtafjjececdhmjaaGreat
open Go.RowKit

theorem kinds_ok {cs : List Cn} {s u : Sr} {A B : Int} (h : KOk cs s A) (g : KOk cs u B) (ht : ¬ Torn cs) (hs : s ≠ .any) (hu : u ≠ .any) (hj : ∀ x ∈ joinSr s u, x ∈ cs) (hl : ∀ p q, s = .pl p → u = .pl q → False) : A = 0 ∨ B = 0 ∨ A = B := by
  rcases h with h | h
  · exact .inl h
  rcases g with g | g
  · exact .inr (.inl g)
  right; right
  cases s with
  | any => exact absurd rfl hs
  | ty a =>
    have h' : A = a := h
    cases u with
    | any => exact absurd rfl hu
    | ty b =>
      have g' : B = b := g
      by_cases e : a = b
      · rw [h', g', e]
      · exact absurd (.inl (hj .bad (by show Cn.bad ∈ (if a = b then [] else [Cn.bad]); rw [if_neg e]; simp))) ht
    | pl q =>
      have g' : ∀ T, Has cs T q → B = T := g
      rw [h', g' a (.say (hj _ (by simp [joinSr])))]
  | pl p =>
    have h' : ∀ T, Has cs T p → A = T := h
    cases u with
    | any => exact absurd rfl hu
    | ty b =>
      have g' : B = b := g
      rw [g', h' b (.say (hj _ (by simp [joinSr])))]
    | pl q => exact (hl p q rfl rfl).elim
/-- Is it a variable? -/
def isV (op : Int) (v : ByteArray) : Bool := op == 0 && !v.toList.isEmpty
theorem exSr_pl {n : Int} : ∀ {d : Nat} {e : Ex d} {p : Pl}, exSr n d e = .pl p → isV (exOp d e) (exTm d e).v = true
  | 0, e, _, _ => nomatch e
  | d + 1, (op, t, s, ks), p, h => by
    change (if op = 0 then tmSr n t else .ty (ownT op)) = .pl p at h
    show (op == 0 && !t.v.toList.isEmpty) = true
    split at h
    · rename_i e
      unfold tmSr at h
      split at h
      · cases h
      · split at h
        · cases h
        · rename_i h2
          rw [ByteArray.toList_eq]
          simp only [e, beq_self_eq_true, Bool.true_and]
          simpa [bl] using h2
    · cases h
set_option maxHeartbeats 16000000 in
set_option maxRecDepth 100000 in
theorem tKinds (cs : List Cn) (n : Int) (l : List Tm) (p : Option Addr) (c : Nat) (hn : l.length ≤ 10000) (hb : ∀ b ∈ l, BOk cs n b) (ht : ¬ Torn cs) (d : Nat) (bs : List (Lt d)) (q : Option Addr) (cap : Nat) (w : World) (hl : LsAt w p l) (hx : LtsAt w d q bs)
    (hr : ∀ y ∈ bs, LtR y) (ho : ∀ y ∈ bs, ltOk y = true) (hc : ∀ y ∈ bs, ∀ x ∈ ltCn n y, x ∈ cs) (hbn : bs.length ≤ 1000) :
    Calls Tryz.prog 13 #[.slice q bs.length cap, .slice p l.length c] w fun e w' => e = .returned (.bool true) ∧ Below w.heap.size w w' := by
  have HL := Lib.hid hl; clear hl
  have HX := Lib.hid hx; clear hx
  have HR := Lib.hid hr; clear hr
  have HOK := Lib.hid ho; clear ho
  have HC := Lib.hid hc; clear hc
  have HSO := Lib.hid (tSort cs n l p c hn hb ht d)
  have HT := Lib.hid ht; clear ht hb
  go_enter Tryz.func13, Tryz.ntmps13
  go_wp2_with fail
  go_loopw [5, 6, 7, 8, 9, 10] (fun i _ _ _ _ _ wr => ∃ j : Nat, j ≤ bs.length ∧ i = .int .i64 j ∧ Below w.heap.size w wr) (fun i _ _ _ _ _ _ => bs.length - (intOf i).toNat)
  case atStart => exact ⟨0, by omega, rfl, Below.refl _ _⟩
  case round =>
    obtain ⟨j, hj, rfl, hb⟩ := hrel
    have Hb := Lib.hid hb; clear hb
    rename World => wr
    by_cases hlt : j < bs.length
    · rcases HX.out.1 with hx | ⟨a, o, rfl, hta, hcc⟩
      · omega
      · have hck := hcc j hlt
        clear hcc
        have hmem := List.getElem_mem hlt
        have hat := HX.out.2 _ hmem
        have hlr := HR.out _ hmem
        have hlo := HOK.out _ hmem
        have hlc := HC.out _ hmem
        clear hmem
        obtain ⟨y, hy⟩ : ∃ y, y = bs[j] := ⟨_, rfl⟩
        rw [← hy] at hck hat hlr hlo hlc
        clear hy
        have hk0 : (0 : Int) ≤ (j : Int) := by omega
        have hki : (j : Int) < (bs.length : Int) := by omega
        by_cases h3 : y.k = 3
        · have h3a : ¬ (y.k = 1 ∨ y.k = 2) := by omega
          unfold ltOk at hlo
          rw [if_neg h3a, if_pos h3] at hlo
          simp only [Bool.and_eq_true] at hlo
          unfold ltCn at hlc
          rw [if_pos h3] at hlc
          obtain ⟨pl, cl, hsl⟩ := ex_sl2 hat.l_
          obtain ⟨pg, cg, hsg⟩ := ex_sl2 hat.g_
          have HSL := Lib.hid (fun V' (h : Below w.heap.size w V') => HSO.out 8 y.l V' (Nat.le_refl _) hlo.1.2 (ExAt.up h d _ hat.l_) hlr.l_ (HL.out.up h) (fun x hx => hlc x (by simp [hx])))
          have HSG := Lib.hid (fun V' (h : Below w.heap.size w V') => HSO.out 8 y.g V' (Nat.le_refl _) hlo.2 (ExAt.up h d _ hat.g_) hlr.g_ (HL.out.up h) (fun x hx => hlc x (by simp [hx])))
          have HKO := Lib.hid (fun A B (h : KOk cs (exSr n d y.l) A) (g : KOk cs (exSr n d y.g) B) (hlo2 : (isV (exOp d y.l) (exTm d y.l).v && isV (exOp d y.g) (exTm d y.g).v) = false) =>
            kinds_ok h g HT.out (exSr_any hlo.1.2) (exSr_any hlo.2) (fun x hx => hlc x (by simp [hx])) (fun p q h1 h2 => by rw [exSr_pl h1, exSr_pl h2] at hlo2; cases hlo2))
          clear hat hlr hlo hlc h3a
          obtain ⟨k0, _, _, _, k4, k5, k6, k7, k8, k9, k10, k11, k12, k13, k14, k15⟩ := hck
          rw [h3] at k0
          clear h3
          obtain ⟨S1, hS1⟩ : ∃ S, S = exSr n d y.l := ⟨_, rfl⟩
          obtain ⟨S2, hS2⟩ : ∃ S, S = exSr n d y.g := ⟨_, rfl⟩
          rw [← hS1] at HSL HKO
          rw [← hS2] at HSG HKO
          clear hS1 hS2
          rw [hsl] at k9
          rw [hsg] at k15
          simp only [hsl] at HSL
          simp only [hsg] at HSG
          clear hsl hsg
          generalize exTm d y.l = lm at k4 k5 k6 k7 k8 k9 HSL HKO
          generalize exOp d y.l = lo at k4 k5 k6 k7 k8 k9 HSL HKO
          generalize exLen d y.l = ll at k4 k5 k6 k7 k8 k9 HSL HKO
          generalize exTm d y.g = gm at k10 k11 k12 k13 k14 k15 HSG HKO
          generalize exOp d y.g = go at k10 k11 k12 k13 k14 k15 HSG HKO
          generalize exLen d y.g = gl at k10 k11 k12 k13 k14 k15 HSG HKO
          obtain ⟨lv, ⟨lk, ln, lt⟩⟩ := lm
          obtain ⟨gv, ⟨gk, gn, gt⟩⟩ := gm
          simp only at k5 k6 k7 k8 k11 k12 k13 k14 HSL HSG HKO
          have HUP := Lib.hid (show ∀ V', Below w.heap.size w V' → V'.cell? ⟨a, o + j * 16, none⟩ = some (.int .i8 3) ∧ V'.cell? ⟨a, o + j * 16 + 4, none⟩ = some (.int .i8 lo) ∧ V'.cell? ⟨a, o + j * 16 + 5, none⟩ = some (.string lv) ∧ V'.cell? ⟨a, o + j * 16 + 6, none⟩ = some (.int .i8 lk) ∧ V'.cell? ⟨a, o + j * 16 + 7, none⟩ = some (.int .i64 ln) ∧ V'.cell? ⟨a, o + j * 16 + 8, none⟩ = some (.string lt) ∧ V'.cell? ⟨a, o + j * 16 + 9, none⟩ = some (.slice pl ll cl) ∧
              V'.cell? ⟨a, o + j * 16 + 10, none⟩ = some (.int .i8 go) ∧ V'.cell? ⟨a, o + j * 16 + 11, none⟩ = some (.string gv) ∧ V'.cell? ⟨a, o + j * 16 + 12, none⟩ = some (.int .i8 gk) ∧ V'.cell? ⟨a, o + j * 16 + 13, none⟩ = some (.int .i64 gn) ∧ V'.cell? ⟨a, o + j * 16 + 14, none⟩ = some (.string gt) ∧ V'.cell? ⟨a, o + j * 16 + 15, none⟩ = some (.slice pg gl cg) from fun V' h =>
            ⟨(h.cell (p := ⟨a, _, none⟩) hta).trans k0, (h.cell (p := ⟨a, _, none⟩) hta).trans k4, (h.cell (p := ⟨a, _, none⟩) hta).trans k5, (h.cell (p := ⟨a, _, none⟩) hta).trans k6, (h.cell (p := ⟨a, _, none⟩) hta).trans k7, (h.cell (p := ⟨a, _, none⟩) hta).trans k8, (h.cell (p := ⟨a, _, none⟩) hta).trans k9, (h.cell (p := ⟨a, _, none⟩) hta).trans k10, (h.cell (p := ⟨a, _, none⟩) hta).trans k11, (h.cell (p := ⟨a, _, none⟩) hta).trans k12, (h.cell (p := ⟨a, _, none⟩) hta).trans k13, (h.cell (p := ⟨a, _, none⟩) hta).trans k14, (h.cell (p := ⟨a, _, none⟩) hta).trans k15⟩)
          clear k0 k4 k5 k6 k7 k8 k9 k10 k11 k12 k13 k14 k15
          obtain ⟨k0, k4, k5, k6, k7, k8, k9, _⟩ := HUP.out wr Hb.out
          go_wp2_with fail
          refine (HSL.out wr Hb.out).mono ?_
          rintro e w1 ⟨A, rfl, hA, _, _, hb1⟩
          have Hb1 := Lib.hid (Hb.out.trans (hb1.mono Hb.out.size)); clear hb1
          have HA := Lib.hid hA; clear hA k0 k4 k5 k6 k7 k8 k9
          obtain ⟨_, _, _, _, _, _, _, k10, k11, k12, k13, k14, k15⟩ := HUP.out w1 Hb1.out
          go_wp2_with fail
          refine (HSG.out w1 Hb1.out).mono ?_
          rintro e w2 ⟨B, rfl, hB, _, _, hb2⟩
          have Hb2 := Lib.hid (Hb1.out.trans (hb2.mono Hb1.out.size)); clear hb2
          have HAB := Lib.hid (HKO.out A B HA.out hB); clear hB k10 k11 k12 k13 k14 k15
          obtain ⟨_, k4, k5, _, _, _, _, k10, k11, _⟩ := HUP.out w2 Hb2.out
          clear HUP HSL HSG HKO HA
          go_upto_region 7 with (fail)
          go_cut [10] from 43 to 101 (fun t wx => t = .bool (isV lo lv && isV go gv) ∧ wx = w2)
          case first =>
            rcases q1 : (lo == 0) with _ | _
            · have HE := Lib.hid (show (isV lo lv && isV go gv) = false by simp [isV, q1])
              go_wp2_with fail
              go_meet
              exact ⟨by rw [HE.out], rfl⟩
            · rcases q2 : lv.toList.isEmpty with _ | _
              · rcases q3 : (go == 0) with _ | _
                · have HE := Lib.hid (show (isV lo lv && isV go gv) = false by simp [isV, q1, q2, q3])
                  go_wp2_with fail
                  go_meet
                  exact ⟨by rw [HE.out], rfl⟩
                · rcases q4 : gv.toList.isEmpty with _ | _
                  · have HE := Lib.hid (show (isV lo lv && isV go gv) = true by simp [isV, q1, q2, q3, q4])
                    go_wp2_with fail
                    go_meet
                    exact ⟨by rw [HE.out], rfl⟩
                  · have HE := Lib.hid (show (isV lo lv && isV go gv) = false by simp [isV, q1, q2, q3, q4])
                    go_wp2_with fail
                    go_meet
                    exact ⟨by rw [HE.out], rfl⟩
              · have HE := Lib.hid (show (isV lo lv && isV go gv) = false by simp [isV, q1, q2])
                go_wp2_with fail
                go_meet
                exact ⟨by rw [HE.out], rfl⟩
          case rest =>
            obtain ⟨rfl, rfl⟩ := hcut
            clear k4 k5 k10 k11
            obtain ⟨L, hL⟩ : ∃ L, L = (isV lo lv && isV go gv) := ⟨_, rfl⟩
            rw [← hL] at HAB ⊢
            clear hL
            cases L
            case true =>
              clear HAB
              go_wp2_with fail
              go_roundw
              case rel => exact ⟨j + 1, by omega, by go_num, Hb2.out⟩
              case measure => simp [intOf]; omega
            case false =>
              have hab := HAB.out rfl
              clear HAB
              by_cases hA0 : A = 0
              · subst hA0
                clear hab
                go_wp2_with fail
                all_goals first
                  | exact ⟨⟨j + 1, by omega, by go_num, Hb2.out⟩, by simp [intOf]; omega⟩
                  | (go_roundw
                     case rel => exact ⟨j + 1, by omega, by go_num, Hb2.out⟩
                     case measure => simp [intOf]; omega)
              · have qa : (A == 0) = false := by simpa using hA0
                by_cases hB0 : B = 0
                · subst hB0
                  clear hab
                  go_wp2_with fail
                  go_roundw
                  case rel => exact ⟨j + 1, by omega, by go_num, Hb2.out⟩
                  case measure => simp [intOf]; omega
                · obtain rfl : A = B := by rcases hab with h | h | h <;> first | exact absurd h hA0 | exact absurd h hB0 | exact h
                  clear hab hA0 hB0
                  go_wp2_with fail
                  all_goals first
                    | exact ⟨⟨j + 1, by omega, by go_num, Hb2.out⟩, by simp [intOf]; omega⟩
                    | (go_roundw
                       case rel => exact ⟨j + 1, by omega, by go_num, Hb2.out⟩
                       case measure => simp [intOf]; omega)
        · have k0 := (Hb.out.cell (p := ⟨a, o + j * 16, none⟩) hta).trans hck.c0
          clear hck hat hlr hlo hlc
          obtain ⟨yk, hyk⟩ : ∃ z, z = y.k := ⟨_, rfl⟩
          rw [← hyk] at k0 h3
          clear hyk
          go_wp2_with fail
          go_roundw
          case rel => exact ⟨j + 1, by omega, by go_num, Hb.out⟩
          case measure => simp [intOf]; omega
    · go_wp2_with fail
      go_ret
      exact ⟨rfl, Hb.out⟩
end Go.Proofs.YtafjjececdhmjaaGreat
