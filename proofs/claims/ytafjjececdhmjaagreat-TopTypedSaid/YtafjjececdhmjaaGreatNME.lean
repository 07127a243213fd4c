/- The contracts of print.Expr; the first examples. Conditions: each part says its own. -/
import Derived.Test.YtafjjececdhmjaaGreatNMD
import Derived.StillTailTactics
/- The contract of the writer's expr, by its cases: a term, a word, two sides. Conditions: the expression lies in memory as it is told; what is held and what is written together take at most 2^47 bytes. -/
namespace Go.Proofs.YtafjjececdhmjaaGreat
open Go.RowKit

theorem op_range {n d : Nat} {e : Ex d} (h : exOk n d e = true) : 0 ≤ exOp d e ∧ exOp d e ≤ 10 := by
  cases d with
  | zero => exact nomatch e
  | succ d =>
    cases n with
    | zero => cases h
    | succ n =>
      obtain ⟨op, tm, sl, ks⟩ := e
      have h2 : (if op = 0 then ks.isEmpty && solidB tm else tmZero tm && decide ((ks.length : Int) = arityI op) && ks.all (exOk n d)) = true := h
      show 0 ≤ op ∧ op ≤ 10
      by_cases h0 : op = 0
      · omega
      · rw [if_neg h0] at h2
        simp only [Bool.and_eq_true, decide_eq_true_eq] at h2
        have h3 := h2.1.2
        unfold arityI at h3
        split at h3
        · omega
        · split at h3 <;> omega
end Go.Proofs.YtafjjececdhmjaaGreat

/- The contract of the writer's expr at two sides. Conditions: the expression lies in memory as it is told; what is held and what is written together take at most 2^47 bytes. -/
namespace Go.Proofs.YtafjjececdhmjaaGreat
open Go.RowKit

end Go.Proofs.YtafjjececdhmjaaGreat

/- The contract of the writer's expr at a minus. Conditions: the expression lies in memory as it is told; what is held and what is written together take at most 2^47 bytes. -/
namespace Go.Proofs.YtafjjececdhmjaaGreat
open Go.RowKit

theorem still_eq {P : Program} {ops : Array Oper} {w : World} {Q : Act → Prop} {a : Act} {o : Oper} {rest : List Oper} (hw : Region.wanted o (yielded ops a.tmps) = false) : wpStill P ops w Q (o :: rest) a = wpStill P ops w Q rest (a.put o.dst undef) := by
  show (if _ then _ else _) = _
  rw [if_neg (by rw [hw]; exact Bool.false_ne_true)]
theorem ex_sl {w : World} : {d : Nat} → {e : Ex d} → ExAt w d e → ∃ p l c, exSl d e = .slice p l c
  | 0, e, _ => nomatch e
  | _ + 1, _, ⟨p, cap, h1, _⟩ => ⟨p, _, cap, h1⟩
end Go.Proofs.YtafjjececdhmjaaGreat

/- The writer's expr at every expression that may be, by its depth; how long such a text is. Conditions: the expression lies in memory as it is told; what is held and what is written together take at most 2^47 bytes. -/
namespace Go.Proofs.YtafjjececdhmjaaGreat
open Go.RowKit

theorem arity_one {op : Int} {n : Nat} (h : ((n : Nat) : Int) = arityI op) : (n = 1 ∧ (op = 1 ∨ (8 ≤ op ∧ op ≤ 10))) ∨ (n = 2 ∧ 2 ≤ op ∧ op ≤ 7) := by
  unfold arityI at h
  split at h
  · omega
  · split at h <;> omega
theorem ex_open {n d : Nat} {op : Int} {tm : Tm} {sl : Value} {ks : List (Ex d)} (h : exOk (n + 1) (d + 1) (op, tm, sl, ks) = true) :
    (op = 0 ∧ ks = [] ∧ solidB tm = true) ∨ (∃ k, op = 1 ∧ ks = [k] ∧ exOk n d k = true) ∨ (∃ k, 8 ≤ op ∧ op ≤ 10 ∧ ks = [k] ∧ exOk n d k = true) ∨
      (∃ k m, 2 ≤ op ∧ op ≤ 7 ∧ ks = [k, m] ∧ exOk n d k = true ∧ exOk n d m = true) := by
  have h2 : (if op = 0 then ks.isEmpty && solidB tm else tmZero tm && decide ((ks.length : Int) = arityI op) && ks.all (exOk n d)) = true := h
  clear h
  by_cases h0 : op = 0
  · rw [if_pos h0] at h2
    simp only [Bool.and_eq_true, List.isEmpty_iff] at h2
    exact .inl ⟨h0, h2.1, h2.2⟩
  · rw [if_neg h0] at h2
    simp only [Bool.and_eq_true, decide_eq_true_eq, List.all_eq_true] at h2
    obtain ⟨⟨_, hlen⟩, hall⟩ := h2
    have hl := arity_one hlen
    match ks, hl, hall with
    | [], hl, _ => simp at hl
    | [k], hl, hall =>
      rcases hl with ⟨_, h | h⟩ | ⟨h, _⟩
      · exact .inr (.inl ⟨k, h, rfl, hall k (by simp)⟩)
      · exact .inr (.inr (.inl ⟨k, h.1, h.2, rfl, hall k (by simp)⟩))
      · simp at h
    | [k, m], hl, hall =>
      rcases hl with ⟨h, _⟩ | ⟨_, h⟩
      · simp at h
      · exact .inr (.inr (.inr ⟨k, m, h.1, h.2, rfl, hall k (by simp), hall m (by simp)⟩))
    | _ :: _ :: _ :: _, hl, _ => simp at hl
theorem exprL_term {d : Nat} (tm : Tm) (sl : Value) (ks : List (Ex d)) : exprL (d + 1) ((0 : Int), tm, sl, ks) = termL tm := rfl
theorem exprL_neg {d : Nat} (tm : Tm) (sl : Value) (k : Ex d) : exprL (d + 1) ((1 : Int), tm, sl, [k]) = 45 :: sideL (exprL d k) (negB (exOp d k) (exTm d k)) := rfl
theorem exprL_word {d : Nat} {op : Int} (tm : Tm) (sl : Value) (k : Ex d) (h : 8 ≤ op) : exprL (d + 1) (op, tm, sl, [k]) = bl (wordL.getD op.toNat ⟨#[]⟩) ++ sideL (exprL d k) true := by
  show (if op = 0 then _ else if op = 1 then _ else _) = _
  rw [if_neg (by omega), if_neg (by omega)]
theorem exprL_two {d : Nat} {op : Int} (tm : Tm) (sl : Value) (k m : Ex d) (h : 2 ≤ op) : exprL (d + 1) (op, tm, sl, [k, m]) =
    sideL (exprL d k) (decide (holdI (exOp d k) < holdI op)) ++ (32 :: (bl (signL.getD op.toNat ⟨#[]⟩) ++ [32])) ++ sideL (exprL d m) (decide (holdI (exOp d m) ≤ holdI op)) := by
  show (if op = 0 then _ else _) = _
  rw [if_neg (by omega)]
theorem sign_len : ∀ i, i < 8 → (bl (signL.getD i ⟨#[]⟩)).length ≤ 1 := by decide
theorem word_len : ∀ i, i < 11 → (bl (wordL.getD i ⟨#[]⟩)).length ≤ 5 := by decide
theorem sideL_le (l : List UInt8) (b : Bool) : (sideL l b).length ≤ l.length + 2 := by
  cases b <;> simp [sideL]
theorem solid_ok {t : Tm} (h : solidB t = true) : tmOk t = true := by
  simp only [solidB, Bool.and_eq_true] at h
  exact h.2
theorem exprL_le : ∀ (n d : Nat) (e : Ex d), exOk n d e = true → ExR d e → (exprL d e).length + 8 ≤ 810 * 2 ^ n
  | _, 0, e, _, _ => nomatch e
  | 0, _ + 1, _, h, _ => nomatch h
  | n + 1, d + 1, (op, tm, sl, ks), h, hr => by
    obtain ⟨_, htr, hrk⟩ := hr
    have hp : 1 ≤ 2 ^ n := Nat.one_le_two_pow
    have hq : (2 : Nat) ^ (n + 1) = 2 * 2 ^ n := by rw [Nat.pow_succ]; omega
    rcases ex_open h with ⟨rfl, rfl, hs⟩ | ⟨k, rfl, rfl, hk⟩ | ⟨k, h8, h10, rfl, hk⟩ | ⟨k, m, h2, h7, rfl, hk, hm⟩
    · rw [exprL_term]
      have : (termL tm).length ≤ 802 := termL_le htr (solid_ok hs)
      omega
    · rw [exprL_neg]
      have h1 := exprL_le n d k hk (hrk k (by simp))
      have h2 := sideL_le (exprL d k) (negB (exOp d k) (exTm d k))
      simp only [List.length_cons]
      omega
    · rw [exprL_word tm sl k h8]
      have h1 := exprL_le n d k hk (hrk k (by simp))
      have h2 := sideL_le (exprL d k) true
      have h3 := word_len op.toNat (by omega)
      simp only [List.length_append]
      omega
    · rw [exprL_two tm sl k m h2]
      have h1 := exprL_le n d k hk (hrk k (by simp))
      have h3 := exprL_le n d m hm (hrk m (by simp))
      have h4 := sideL_le (exprL d k) (decide (holdI (exOp d k) < holdI op))
      have h5 := sideL_le (exprL d m) (decide (holdI (exOp d m) ≤ holdI op))
      have h6 := sign_len op.toNat (by omega)
      simp only [List.length_append, List.length_cons, List.length_nil]
      omega
end Go.Proofs.YtafjjececdhmjaaGreat

/- The contract of print.Expr. Conditions: the expression lies in memory as it is told. -/
namespace Go.Proofs.YtafjjececdhmjaaGreat
open Go.RowKit

theorem exprL_len {d : Nat} {e : Ex d} (h : exOk 8 d e = true) (hr : ExR d e) : (exprL d e).length ≤ 207352 := by
  have := exprL_le 8 d e h hr
  omega
end Go.Proofs.YtafjjececdhmjaaGreat

/- The contract of the statements' lives. Conditions: none beyond the tables. -/
namespace Go.Proofs.YtafjjececdhmjaaGreat
open Go.RowKit

/-- X - -(5), its kids' slices in the blocks g and h. -/
def liveE (g h : Nat) : Ex 3 := ((3 : Int), ⟨⟨#[]⟩, ⟨0, 0, ⟨#[]⟩⟩⟩, .slice (some ⟨h, 0, none⟩) 2 2, [((0 : Int), ⟨⟨#[88]⟩, ⟨0, 0, ⟨#[]⟩⟩⟩, .slice none 0 0, ([] : List (Ex 1))), ((1 : Int), ⟨⟨#[]⟩, ⟨0, 0, ⟨#[]⟩⟩⟩, .slice (some ⟨g, 0, none⟩) 1 1, [((0 : Int), ⟨⟨#[]⟩, ⟨1, 5, ⟨#[]⟩⟩⟩, .slice none 0 0, ([] : List (Ex 0)))])])
theorem live_ok (g h : Nat) : exOk 8 3 (liveE g h) = true := by kernel_rfl
theorem live_txt (g h : Nat) : exprL 3 (liveE g h) = [88, 32, 45, 32, 45, 40, 53, 41] := by kernel_rfl
theorem tmr_of {v : ByteArray} {k n : Int} {t : ByteArray} (h1 : v.size ≤ 1) (h2 : 0 ≤ n) (h3 : n ≤ 5) (h4 : t.size ≤ 1) : TmR v k n t :=
  ⟨⟨by omega, by omega, by unfold maxLen; omega⟩, by unfold maxLen; omega⟩
theorem live_r (g h : Nat) : ExR 3 (liveE g h) := by
  refine ⟨⟨of_decide_eq_true (by kernel_rfl), of_decide_eq_true (by kernel_rfl)⟩, tmr_of (of_decide_eq_true (by kernel_rfl)) (of_decide_eq_true (by kernel_rfl)) (of_decide_eq_true (by kernel_rfl)) (of_decide_eq_true (by kernel_rfl)), fun k hk => ?_⟩
  have hk' := List.mem_cons.1 hk
  rcases hk' with rfl | hk'
  · exact ⟨⟨of_decide_eq_true (by kernel_rfl), of_decide_eq_true (by kernel_rfl)⟩, tmr_of (of_decide_eq_true (by kernel_rfl)) (of_decide_eq_true (by kernel_rfl)) (of_decide_eq_true (by kernel_rfl)) (of_decide_eq_true (by kernel_rfl)), fun k hk => nomatch hk⟩
  · obtain rfl := List.mem_singleton.1 hk'
    refine ⟨⟨of_decide_eq_true (by kernel_rfl), of_decide_eq_true (by kernel_rfl)⟩, tmr_of (of_decide_eq_true (by kernel_rfl)) (of_decide_eq_true (by kernel_rfl)) (of_decide_eq_true (by kernel_rfl)) (of_decide_eq_true (by kernel_rfl)), fun k hk => ?_⟩
    obtain rfl := List.mem_singleton.1 hk
    exact ⟨⟨of_decide_eq_true (by kernel_rfl), of_decide_eq_true (by kernel_rfl)⟩, tmr_of (of_decide_eq_true (by kernel_rfl)) (of_decide_eq_true (by kernel_rfl)) (of_decide_eq_true (by kernel_rfl)) (of_decide_eq_true (by kernel_rfl)), fun k hk => nomatch hk⟩
theorem live_at {w : World} {g h : Nat} {T T' : TypeId} {fz fz' : Nat × Nat}
    (hg : w.heap[g]? = some (.cells #[.int .i8 0, .string ⟨#[]⟩, .int .i8 1, .int .i64 5, .string ⟨#[]⟩, .slice none 0 0] T fz))
    (hh : w.heap[h]? = some (.cells #[.int .i8 0, .string ⟨#[88]⟩, .int .i8 0, .int .i64 0, .string ⟨#[]⟩, .slice none 0 0, .int .i8 1, .string ⟨#[]⟩, .int .i8 0, .int .i64 0, .string ⟨#[]⟩, .slice (some ⟨g, 0, none⟩) 1 1] T' fz')) :
    ExAt w 3 (liveE g h) := by
  have lg : g < w.heap.size := (Array.getElem?_eq_some_iff.1 hg).1
  have lh : h < w.heap.size := (Array.getElem?_eq_some_iff.1 hh).1
  refine ⟨_, 2, rfl, of_decide_eq_true (by kernel_rfl), .inr ⟨h, 0, rfl, lh, fun i hi => ?_⟩, fun k hk => ?_⟩
  · have hi' : i < 2 := hi
    match i, hi' with
    | 0, _ => exact ⟨by rw [Lib.cell_of_heap hh]; rfl, by rw [Lib.cell_of_heap hh]; rfl, by rw [Lib.cell_of_heap hh]; rfl, by rw [Lib.cell_of_heap hh]; rfl, by rw [Lib.cell_of_heap hh]; rfl, by rw [Lib.cell_of_heap hh]; rfl⟩
    | 1, _ => exact ⟨by rw [Lib.cell_of_heap hh]; rfl, by rw [Lib.cell_of_heap hh]; rfl, by rw [Lib.cell_of_heap hh]; rfl, by rw [Lib.cell_of_heap hh]; rfl, by rw [Lib.cell_of_heap hh]; rfl, by rw [Lib.cell_of_heap hh]; rfl⟩
  · have hk' := List.mem_cons.1 hk
    rcases hk' with rfl | hk'
    · exact ⟨none, 0, rfl, of_decide_eq_true (by kernel_rfl), .inl rfl, fun k hk => nomatch hk⟩
    · obtain rfl := List.mem_singleton.1 hk'
      refine ⟨_, 1, rfl, of_decide_eq_true (by kernel_rfl), .inr ⟨g, 0, rfl, lg, fun i hi => ?_⟩, fun k hk => ?_⟩
      · have hi' : i < 1 := hi
        match i, hi' with
        | 0, _ => exact ⟨by rw [Lib.cell_of_heap hg]; rfl, by rw [Lib.cell_of_heap hg]; rfl, by rw [Lib.cell_of_heap hg]; rfl, by rw [Lib.cell_of_heap hg]; rfl, by rw [Lib.cell_of_heap hg]; rfl, by rw [Lib.cell_of_heap hg]; rfl⟩
      · obtain rfl := List.mem_singleton.1 hk
        exact ⟨none, 0, rfl, of_decide_eq_true (by kernel_rfl), .inl rfl, fun k hk => nomatch hk⟩
def liveTs : List Tm := [⟨⟨#[95]⟩, ⟨0, 0, ⟨#[]⟩⟩⟩, ⟨⟨#[]⟩, ⟨2, 0, ⟨#[97]⟩⟩⟩]
theorem liveA_ok : atOk ⟨#[112]⟩ liveTs = true := by kernel_rfl
theorem liveA_txt : atomL ⟨#[112]⟩ liveTs = [112, 40, 95, 44, 32, 97, 41] := by kernel_rfl
theorem new2 (w : World) (a b c : Obj) : (((w.alloc a).alloc b).alloc c).heap[w.heap.size + 1 + 1]? = some c := by
  have h := heap_alloc_new ((w.alloc a).alloc b) c
  rwa [show ((w.alloc a).alloc b).heap.size = w.heap.size + 1 + 1 by simp] at h
theorem new3 (w : World) (a b c d : Obj) : ((((w.alloc a).alloc b).alloc c).alloc d).heap[w.heap.size + 1 + 1 + 1]? = some d := by
  have h := heap_alloc_new (((w.alloc a).alloc b).alloc c) d
  rwa [show (((w.alloc a).alloc b).alloc c).heap.size = w.heap.size + 1 + 1 + 1 by simp] at h
end Go.Proofs.YtafjjececdhmjaaGreat
