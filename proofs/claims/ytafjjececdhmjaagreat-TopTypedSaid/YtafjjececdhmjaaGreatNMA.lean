/- The plain data and laws of the texts; the contracts of the word tests. Conditions: each part says its own. -/
import Derived.WalkKit
import Derived.Lib.ItoaNum
import Derived.Lib.ConvBytes
import Derived.Lib.Hide
import Derived.Lib.OthersKept
import Derived.Lib.FrozenHead2
import Derived.Lib.AppendIntMem
import Derived.Test.YtafjjececdhmjaaGreatProg
/- What the functions of the layers value, term and print compute, in plain Lean, with no program in sight. Conditions: none. -/
namespace Go.Proofs.YtafjjececdhmjaaGreat
open Go.RowKit

/-- A string's bytes. -/
abbrev bl (s : ByteArray) : List UInt8 := s.data.toList
theorem bl_mk (l : List UInt8) : bl ⟨l.toArray⟩ = l := rfl

/-- api.Value -/
structure Vl where
  k : Int
  n : Int
  t : ByteArray
/-- api.Term -/
structure Tm where
  v : ByteArray
  x : Vl
def Vl.cells (x : Vl) : List Value := [.int .i8 x.k, .int .i64 x.n, .string x.t]
def Tm.cells (t : Tm) : List Value := .string t.v :: t.x.cells
def Vl.agg (x : Vl) : Value := .agg #[.int .i8 x.k, .int .i64 x.n, .string x.t]
def Tm.agg (t : Tm) : Value := .agg #[.string t.v, .int .i8 t.x.k, .int .i64 t.x.n, .string t.x.t]

def lowerB (c : UInt8) : Bool := decide (97 ≤ c.toNat) && decide (c.toNat ≤ 122)
def upperB (c : UInt8) : Bool := decide (65 ≤ c.toNat) && decide (c.toNat ≤ 90)
def digitB (c : UInt8) : Bool := decide (48 ≤ c.toNat) && decide (c.toNat ≤ 57)
def wordB (c : UInt8) : Bool := lowerB c || upperB c || digitB c || c.toNat == 95

/-- the keywords -/
def kwB (l : List UInt8) : Bool := l == [110, 111, 116] || l == [99, 111, 117, 110, 116] || l == [115, 117, 109] || l == [109, 105, 110] || l == [109, 97, 120] || l == [108, 101, 110] || l == [99, 104, 97, 114, 115] || l == [98, 97, 99, 107]
/-- a first byte within a span, letters, digits and _ behind it, not too many -/
def runB (fr to : UInt8) : List UInt8 → Bool
  | [] => false
  | c :: r => decide (r.length < 120) && decide (fr.toNat ≤ c.toNat) && decide (c.toNat ≤ to.toNat) && (c :: r).all wordB
def nameB (l : List UInt8) : Bool := runB 97 122 l && !kwB l
def varB (l : List UInt8) : Bool := runB 65 90 l
/-- a digit of base 16 -/
def hexD (n : Nat) : UInt8 := if n < 10 then UInt8.ofNat (48 + n) else UInt8.ofNat (87 + n)
/-- a byte as a quoted text has it -/
def escB (c : UInt8) : List UInt8 :=
  if c.toNat = 10 then [92, 110] else if c.toNat = 34 ∨ c.toNat = 92 then [92, c] else if 32 ≤ c.toNat ∧ c.toNat ≤ 126 then [c] else [92, 120, hexD (c.toNat / 16), hexD (c.toNat % 16)]
def escL : List UInt8 → List UInt8
  | [] => []
  | c :: r => escB c ++ escL r
def quoteL (l : List UInt8) : List UInt8 := 34 :: (escL l ++ [34])
/-- value.Check -/
def vlOk (x : Vl) : Bool := (x.k == 1 && (bl x.t).isEmpty) || (x.k == 2 && x.n == 0 && decide (x.t.size ≤ 200))
def okCode (b : Bool) (n : Int) : Int := if b then 0 else n
/-- value.Show -/
def showL (x : Vl) : List UInt8 := if vlOk x then (if x.k == 1 then Lib.itoa x.n else if nameB (bl x.t) then bl x.t else quoteL (bl x.t)) else []
def vlZero (x : Vl) : Bool := x.k == 0 && x.n == 0 && (bl x.t).isEmpty
/-- term.CheckTerm -/
def tmOk (t : Tm) : Bool := if (bl t.v).isEmpty then vlOk t.x else vlZero t.x && (bl t.v == [95] || varB (bl t.v))
/-- a term's text -/
def termL (t : Tm) : List UInt8 := if (bl t.v).isEmpty then showL t.x else bl t.v
/-- columns' texts, each behind a bracket or a comma -/
def sepL : Bool → List (List UInt8) → List UInt8
  | _, [] => []
  | f, x :: r => (if f then [40] else [44, 32]) ++ (x ++ sepL false r)
/-- a name with columns' texts -/
def colsL (name : List UInt8) (l : List (List UInt8)) : List UInt8 := name ++ (sepL true l ++ (if l.isEmpty then [] else [41]))
theorem sepL_snoc : ∀ (f : Bool) (l : List (List UInt8)) (x : List UInt8), sepL f (l ++ [x]) = sepL f l ++ ((if l.isEmpty && f then [40] else [44, 32]) ++ x)
  | f, [], x => by cases f <;> simp [sepL]
  | f, y :: r, x => by simp [sepL, sepL_snoc false r x]
end Go.Proofs.YtafjjececdhmjaaGreat

/- Laws on worlds and on plain lists that the walks lean on; no program in sight. Conditions: as each law says. -/
namespace Go.Proofs.YtafjjececdhmjaaGreat
open Go.RowKit

theorem ret_bool {a b : Bool} (h : a = b) : Ending.returned (.bool a) = .returned (.bool b) := by rw [h]
theorem ret_int {k : IntKind} {a b : Int} (h : a = b) : Ending.returned (.int k a) = .returned (.int k b) := by rw [h]
theorem ret_str {a b : List UInt8} (h : a = b) : Ending.returned (.string ⟨a.toArray⟩) = .returned (.string ⟨b.toArray⟩) := by rw [h]
theorem str_eta (s : ByteArray) : (⟨(bl s).toArray⟩ : ByteArray) = s := by cases s; simp [bl]

/-- A string turned into bytes: a new row that holds them. -/
theorem bytes_of {P : Program} (w : World) (src dst e : TypeId) (s : ByteArray) {u : TypeDesc}
    (hs : P.underlying src = some u) (hd : P.underlying dst = some (.slice e)) (he : P.underlying e = some (.int .u8)) :
    ∃ cap w1, (convert src dst (.string s)).run P w = .ok (.slice (some ⟨w.heap.size, 0, none⟩) s.size cap) w1 ∧ Below w.heap.size w w1 ∧ w1.heap.size = w.heap.size + 1 ∧
      (∀ j, (h : j < s.size) → w1.cell? ⟨w.heap.size, j, none⟩ = some (.int .u8 (s[j]).toNat)) := by
  refine ⟨_, _, Lib.run_convert_string_bytes w src dst e s hs hd he, ⟨rfl, rfl, rfl, ?_, fun k hk => Lib.bytesWorld_at_old w e s k hk⟩, Lib.bytesWorld_size w e s, fun j h => ?_⟩
  · rw [Lib.bytesWorld_size]; omega
  · rw [Lib.bytesWorld_cell w e s j h]
    have h2 : j < s.data.toList.length := by rw [Array.length_toList]; exact h
    have e1 : s.data.toList.getD j 0 = s[j] := by
      rw [List.getD_eq_getElem?_getD, List.getElem?_eq_getElem h2]
      exact Array.getElem_toList h
    rw [e1]

theorem size_bl (s : ByteArray) : (bl s).length = s.size := Array.length_toList
theorem get_bl (s : ByteArray) (j : Nat) (h : j < s.size) : (bl s)[j]'(by rw [size_bl]; exact h) = s[j] := Array.getElem_toList h

theorem all_true (p : UInt8 → Bool) (s : ByteArray) (h : ∀ j, (h : j < s.size) → p s[j] = true) : (bl s).all p = true := by
  rw [List.all_eq_true]
  intro c hc
  obtain ⟨j, hj, rfl⟩ := List.getElem_of_mem hc
  rw [get_bl s j (by rw [← size_bl]; exact hj)]
  exact h j _
theorem all_false (p : UInt8 → Bool) (s : ByteArray) (j : Nat) (hj : j < s.size) (h : p s[j] = false) : (bl s).all p = false := by
  rw [List.all_eq_false]
  exact ⟨s[j], by rw [← get_bl s j hj]; exact List.getElem_mem _, by simp [h]⟩
theorem runB_no0 (fr to : UInt8) (s : ByteArray) (h : s.size = 0) : runB fr to (bl s) = false := by
  have : bl s = [] := List.eq_nil_of_length_eq_zero (by rw [size_bl]; exact h)
  rw [this]; rfl
theorem runB_eq (fr to : UInt8) (s : ByteArray) (h : 0 < s.size) :
    runB fr to (bl s) = (decide (s.size ≤ 120) && decide (fr.toNat ≤ s[0].toNat) && decide (s[0].toNat ≤ to.toNat) && (bl s).all wordB) := by
  have hl := size_bl s
  have h0 := get_bl s 0 h
  obtain ⟨c, r, hcr⟩ : ∃ c r, bl s = c :: r := by
    match hb : bl s with
    | [] => rw [hb] at hl; simp at hl; omega
    | c :: r => exact ⟨c, r, rfl⟩
  rw [List.getElem_of_eq hcr, List.getElem_cons_zero] at h0
  rw [← h0, hcr]
  rw [hcr, List.length_cons] at hl
  rw [show decide (s.size ≤ 120) = decide (r.length < 120) from by rw [← hl]; exact decide_eq_decide.2 (by omega)]
  rfl
theorem bcell {W w1 : World} (hb : Below W.heap.size W w1) : (∀ b o, b < W.heap.size → w1.cell? ⟨b, o, none⟩ = W.cell? ⟨b, o, none⟩) ∧ (∀ b o, b < W.heap.size → w1.frozen? ⟨b, o, none⟩ = W.frozen? ⟨b, o, none⟩) :=
  ⟨fun b o h => hb.cell (p := ⟨b, o, none⟩) h, fun b o h => hb.frozen (p := ⟨b, o, none⟩) h⟩
theorem step_all {p : UInt8 → Bool} {s : ByteArray} {k : Nat} (hw : ∀ j, (h : j < s.size) → j < k → p s[j] = true) (hk : k < s.size) (h : p s[k] = true) : ∀ j, (h : j < s.size) → j < k + 1 → p s[j] = true := by
  intro j hj hjk
  by_cases e : j = k
  · subst e; exact h
  · exact hw j hj (by omega)
theorem wordB_iff (c : UInt8) : wordB c = true ↔ (97 ≤ c.toNat ∧ c.toNat ≤ 122) ∨ (65 ≤ c.toNat ∧ c.toNat ≤ 90) ∨ (48 ≤ c.toNat ∧ c.toNat ≤ 57) ∨ c.toNat = 95 := by
  simp [wordB, lowerB, upperB, digitB, or_assoc]
theorem wordB_false (c : UInt8) (h : ¬ ((97 ≤ c.toNat ∧ c.toNat ≤ 122) ∨ (65 ≤ c.toNat ∧ c.toNat ≤ 90) ∨ (48 ≤ c.toNat ∧ c.toNat ≤ 57) ∨ c.toNat = 95)) : wordB c = false := by
  rw [← Bool.not_eq_true, wordB_iff]; exact h
theorem runB_all {fr to : UInt8} {s : ByteArray} (h : 0 < s.size) (h1 : s.size ≤ 120) (h2 : fr.toNat ≤ s[0].toNat) (h3 : s[0].toNat ≤ to.toNat) : runB fr to (bl s) = (bl s).all wordB := by
  rw [runB_eq fr to s h]; simp [h1, h2, h3]
theorem runB_not {fr to : UInt8} {s : ByteArray} (h : 0 < s.size) (hg : ¬ (s.size ≤ 120 ∧ fr.toNat ≤ s[0].toNat ∧ s[0].toNat ≤ to.toNat)) : runB fr to (bl s) = false := by
  rw [runB_eq fr to s h]
  by_cases h1 : s.size ≤ 120
  · by_cases h2 : fr.toNat ≤ s[0].toNat
    · by_cases h3 : s[0].toNat ≤ to.toNat
      · exact absurd ⟨h1, h2, h3⟩ hg
      · rw [decide_eq_false h3]; simp
    · rw [decide_eq_false h2]; simp
  · rw [decide_eq_false h1]; simp
end Go.Proofs.YtafjjececdhmjaaGreat

/- append onto a row that the call owns, and where the new slice lies: at the old one's block, or in a new block. No program in sight. Conditions: the new length takes at most 2^47 bytes. -/
namespace Go.Proofs.YtafjjececdhmjaaGreat
open Go.RowKit
section
variable {P : Program} {w : World}

theorem app_str_at {base t u ty e : Nat} {i : TypeInfo} (ht : P.underlying t = some (.slice e)) (hu : P.underlying u = some .string) (hi : P.info? e = some i) (hz : i.zero = some (.int .u8 0))
    (hsize : i.size = 1) (hby : i.bytes = 1) {v : Value} {n : Nat} {xs : List Value} (hown : w.ownsRowF base e 1 v n xs) (s : ByteArray)
    (h63 : n + s.size ≤ maxLen) (hbytes : n + s.size ≤ 140737488355328) {v' : Value} {w' : World} (hr : (Builtin.append_ #[t, u] ty #[v, .string s]).run P w = .ok v' w') :
    ∀ g, v'.ownBlock = some g → v.ownBlock = some g ∨ w.heap.size ≤ g := by
  intro g' hg'
  rcases hown.2 with ⟨rfl, rfl⟩ | ⟨g, cap, cur, fz, rfl, hbg, hg, hfz, hnc, hcm, hcs, htake⟩
  · obtain ⟨v2, w2, h1, h2, _⟩ := Lib.run_append_own_stringF (P := P) w w.heap.size t u ty e i ht hu hi hz hsize hby (.slice none 0 0) 0 xs ⟨hown.1, .inl ⟨rfl, rfl⟩⟩ s h63 hbytes (Nat.le_refl _)
    rw [hr] at h1
    injection h1 with h1 _
    subst h1
    exact .inr ((h2.lt g' hg').1)
  · have hcs' : cur.size = cap := by simpa using hcs
    by_cases hroom : n + s.size ≤ cap
    · have h1 := Lib.run_append_room_stringF (P := P) w t u ty e i ht hu hi hsize g n cap cur fz hg (by simpa using hfz) s hroom (by omega)
      rw [hr] at h1
      injection h1 with h1 _
      subst h1
      exact .inl hg'
    · have hxl : xs.length = n := by simpa using hown.1
      have hsmall : n + s.size ≤ 9223372036854775807 := by simp only [maxLen] at h63; omega
      have h1 := Lib.run_append_grow_string (P := P) w t u ty e i (.int .u8 0) ht hu hi hz ⟨g, 0, none⟩ n cap xs (by rw [hsize]; simpa using hxl) (hown.cells (g := g) rfl) s (by omega) (by omega) (by rw [hby]; exact growslice_fits (by omega) (by omega))
      rw [hr] at h1
      injection h1 with h1 _
      subst h1
      simp [Value.ownBlock] at hg'
      exact .inr (by omega)
theorem app_row_at {base t ty e : Nat} {i : TypeInfo} {z : Value} {size bytes : Nat} (ht : P.underlying t = some (.slice e)) (hi : P.info? e = some i) (hz : i.zero = some z)
    (hsize : i.size = size) (hby : i.bytes = bytes) (hzs : z.cells.size = size) (hsz : 0 < size) {v : Value} {n : Nat} {xs : List Value} (hown : w.ownsRowF base e size v n xs)
    {a : Addr} {m c : Nat} {news : List Value} (hl : news.length = m * size) (hnews : ∀ j u, news[j]? = some u → w.cell? (a.add j) = some u) (h1 : ∀ u ∈ news, u.oneCell' = true)
    (h63 : n + m ≤ maxLen) (hbytes : (n + m) * bytes ≤ 140737488355328) {v' : Value} {w' : World} (hr : (Builtin.append_ #[t, t] ty #[v, .slice (some a) m c]).run P w = .ok v' w') :
    ∀ g, v'.ownBlock = some g → v.ownBlock = some g ∨ w.heap.size ≤ g := by
  intro g' hg'
  rcases hown.2 with ⟨rfl, rfl⟩ | ⟨g, cap, cur, fz, rfl, hbg, hg, hfz, hnc, hcm, hcs, htake⟩
  · obtain ⟨v2, w2, h2, h3, _⟩ := run_append_ownF (P := P) w w.heap.size t ty e i z size bytes ht hi hz hsize hby hzs hsz (.slice none 0 0) 0 xs ⟨hown.1, .inl ⟨rfl, rfl⟩⟩ a m c news hl hnews h1 h63 hbytes (Nat.le_refl _)
    rw [hr] at h2
    injection h2 with h2 _
    subst h2
    exact .inr ((h3.lt g' hg').1)
  · subst hsize
    subst hby
    by_cases hroom : n + m ≤ cap
    · have h2 := run_append_roomF (P := P) w t ty e i ht hi g n cap cur fz hg hfz a m c news hl hnews h1 hroom (by rw [hl, hcs, ← Nat.add_mul]; exact Nat.mul_le_mul_right _ hroom)
      rw [hr] at h2
      injection h2 with h2 _
      subst h2
      exact .inl hg'
    · have hsmall : n + m ≤ 9223372036854775807 := by simp only [maxLen] at h63; omega
      have h2 := run_append_grow (P := P) w t ty e i z ht hi hz ⟨g, 0, none⟩ n cap xs hown.1 (hown.cells (g := g) rfl) a m c news hl hnews (by omega) (by omega) (growslice_fits (by omega) hbytes)
      rw [hr] at h2
      injection h2 with h2 _
      subst h2
      simp [Value.ownBlock] at hg'
      exact .inr (by omega)

theorem wpApp_str {ops : Array Oper} {rest : List Oper} {o : Oper} {a : Act} {Q : Exit → Act → World → Prop} (hgd : o.guard = none) (sl x : Operand) (t u : TypeId)
    (ho : o.op = .call { callee := .builtin .append, args := #[sl, x], argTypes := #[t, u] })
    (base : Nat) (e : TypeId) (i : TypeInfo) (ht : P.underlying t = some (.slice e)) (hu : P.underlying u = some .string) (hi : P.info? e = some i) (hz : i.zero = some (.int .u8 0))
    (hsize : i.size = 1) (hby : i.bytes = 1)
    (v : Value) (n : Nat) (xs : List Value) (hs : a.eval sl = v) (hown : w.ownsRowF base e 1 v n xs) (s : ByteArray) (hx : a.eval x = .string s)
    (h63 : n + s.size ≤ maxLen) (hbytes : n + s.size ≤ 140737488355328) (hbase : base ≤ w.heap.size)
    (h : ∀ v' w', w'.ownsRowF base e 1 v' (n + s.size) (xs ++ Lib.strCells s) → w.grownBy w' v.ownBlock → (v' = .slice none 0 0 ↔ v = .slice none 0 0 ∧ s.size = 0) → (∀ g, v'.ownBlock = some g → v.ownBlock = some g ∨ w.heap.size ≤ g) → wpList P ops Q rest (a.put o.dst v') w') : wpList P ops Q (o :: rest) a w := by
  refine wpList_plain hgd fun K hK => ?_
  obtain ⟨v', w', hr, h2, h3, h4⟩ := Lib.run_append_own_stringF (P := P) w base t u o.type e i ht hu hi hz hsize hby v n xs hown s h63 hbytes hbase
  have h5 := app_str_at ht hu hi hz hsize hby hown s h63 hbytes hr
  unfold Oper.wp execOp
  simp only [ho, resolve, invoke, builtin, Sem.run_bind, Sem.run_pure, Result.andThen_ok, List.map_toArray, List.map_cons, List.map_nil, hs, hx, hr]
  exact hK _ _ (h v' w' h2 h3 h4 h5)
theorem wpApp_row {ops : Array Oper} {rest : List Oper} {o : Oper} {a : Act} {Q : Exit → Act → World → Prop} (hgd : o.guard = none) (s x : Operand) (t : TypeId)
    (ho : o.op = .call { callee := .builtin .append, args := #[s, x], argTypes := #[t, t] })
    (base : Nat) (e : TypeId) (i : TypeInfo) (z : Value) (size bytes : Nat) (ht : P.underlying t = some (.slice e)) (hi : P.info? e = some i) (hz : i.zero = some z)
    (hsize : i.size = size) (hby : i.bytes = bytes) (hzs : z.cells.size = size) (hsz : 0 < size)
    (v : Value) (n : Nat) (xs : List Value) (hs : a.eval s = v) (hown : w.ownsRowF base e size v n xs)
    (ad : Addr) (m c : Nat) (news : List Value) (hx : a.eval x = .slice (some ad) m c) (hl : news.length = m * size) (hnews : ∀ j u, news[j]? = some u → w.cell? (ad.add j) = some u) (h1 : ∀ u ∈ news, u.oneCell' = true)
    (h63 : n + m ≤ maxLen) (hbytes : (n + m) * bytes ≤ 140737488355328) (hbase : base ≤ w.heap.size)
    (h : ∀ v' w', w'.ownsRowF base e size v' (n + m) (xs ++ news) → w.grownBy w' v.ownBlock → (v' = .slice none 0 0 ↔ v = .slice none 0 0 ∧ m = 0) → (∀ g, v'.ownBlock = some g → v.ownBlock = some g ∨ w.heap.size ≤ g) → wpList P ops Q rest (a.put o.dst v') w') : wpList P ops Q (o :: rest) a w := by
  refine wpList_plain hgd fun K hK => ?_
  obtain ⟨v', w', hr, h2, h3, h4⟩ := run_append_ownF (P := P) w base t o.type e i z size bytes ht hi hz hsize hby hzs hsz v n xs hown ad m c news hl hnews h1 h63 hbytes hbase
  have h5 := app_row_at ht hi hz hsize hby hzs hsz hown hl hnews h1 h63 hbytes hr
  unfold Oper.wp execOp
  simp only [ho, resolve, invoke, builtin, Sem.run_bind, Sem.run_pure, Result.andThen_ok, List.map_toArray, List.map_cons, List.map_nil, hs, hx, hr]
  exact hK _ _ (h v' w' h2 h3 h4 h5)
/-- At a step of a region that draws its order. -/
theorem stepApp_row {ops : Array Oper} {o : Oper} {a : Act} {K : Act → World → Prop} {Q : Exit → Act → World → Prop} {E : Prop} (hgd : o.guard = none) (s x : Operand) (t : TypeId)
    (ho : o.op = .call { callee := .builtin .append, args := #[s, x], argTypes := #[t, t] })
    (base : Nat) (e : TypeId) (i : TypeInfo) (z : Value) (size bytes : Nat) (ht : P.underlying t = some (.slice e)) (hi : P.info? e = some i) (hz : i.zero = some z)
    (hsize : i.size = size) (hby : i.bytes = bytes) (hzs : z.cells.size = size) (hsz : 0 < size)
    (v : Value) (n : Nat) (xs : List Value) (hs : a.eval s = v) (hown : w.ownsRowF base e size v n xs)
    (ad : Addr) (m c : Nat) (news : List Value) (hx : a.eval x = .slice (some ad) m c) (hl : news.length = m * size) (hnews : ∀ j u, news[j]? = some u → w.cell? (ad.add j) = some u) (h1 : ∀ u ∈ news, u.oneCell' = true)
    (h63 : n + m ≤ maxLen) (hbytes : (n + m) * bytes ≤ 140737488355328) (hbase : base ≤ w.heap.size)
    (h : ∀ v' w', w'.ownsRowF base e size v' (n + m) (xs ++ news) → w.grownBy w' v.ownBlock → (v' = .slice none 0 0 ↔ v = .slice none 0 0 ∧ m = 0) → (∀ g, v'.ownBlock = some g → v.ownBlock = some g ∨ w.heap.size ≤ g) → K (a.put o.dst v') w') :
    if Region.wanted o (yielded ops a.tmps) = true then Oper.wp P o a w K Q else E := by
  have hw : Region.wanted o (yielded ops a.tmps) = true := by simp [Region.wanted, hgd]
  rw [if_pos hw]
  obtain ⟨v', w', hr, h2, h3, h4⟩ := run_append_ownF (P := P) w base t o.type e i z size bytes ht hi hz hsize hby hzs hsz v n xs hown ad m c news hl hnews h1 h63 hbytes hbase
  have h5 := app_row_at ht hi hz hsize hby hzs hsz hown hl hnews h1 h63 hbytes hr
  unfold Oper.wp execOp
  simp only [ho, resolve, invoke, builtin, Sem.run_bind, Sem.run_pure, Result.andThen_ok, List.map_toArray, List.map_cons, List.map_nil, hs, hx, hr]
  exact h v' w' h2 h3 h4 h5
end
end Go.Proofs.YtafjjececdhmjaaGreat

/- The contracts of the small functions of value, term and the references below print: each returns what its plain function says. Conditions: none. -/
namespace Go.Proofs.YtafjjececdhmjaaGreat
open Go.RowKit

theorem vCheck (k n : Int) (t : ByteArray) (w : World) :
    Calls Tryz.prog 30 #[.agg #[.int .i8 k, .int .i64 n, .string t]] w fun e w' => e = .returned (.int .i64 (okCode (vlOk ⟨k, n, t⟩) 10)) ∧ Below w.heap.size w w' := by
  go_enter Tryz.func30, Tryz.ntmps30
  go_wp2
  all_goals go_ret
  all_goals refine ⟨?_, (Below.refl _ _).alloc (Nat.le_refl _) _⟩
  all_goals simp_all [okCode, vlOk, bl, ← ByteArray.toList_eq]
  all_goals omega
theorem rCheck (k n : Int) (t : ByteArray) (w : World) :
    Calls Tryz.prog 63 #[.agg #[.int .i8 k, .int .i64 n, .string t]] w fun e w' => e = .returned (.int .i64 (okCode (vlOk ⟨k, n, t⟩) 10)) ∧ Below w.heap.size w w' := by
  go_enter Tryz.func63, Tryz.ntmps63
  go_wp2
  all_goals go_ret
  all_goals refine ⟨?_, (Below.refl _ _).alloc (Nat.le_refl _) _⟩
  all_goals simp_all [okCode, vlOk, bl, ← ByteArray.toList_eq]
  all_goals omega
theorem tCode (b : Bool) (w : World) :
    Calls Tryz.prog 69 #[.bool b] w fun e w' => e = .returned (.int .i64 (okCode b 40)) ∧ w = w' := by
  go_enter Tryz.func69, Tryz.ntmps69
  go_wp2
  all_goals go_ret
  all_goals simp_all [okCode]
theorem rLetter (c : UInt8) (w : World) :
    Calls Tryz.prog 114 #[.int .u8 c.toNat] w fun e w' => e = .returned (.bool (wordB c)) ∧ w = w' := by
  go_enter Tryz.func114, Tryz.ntmps114
  go_wp2
  all_goals go_ret
  all_goals (refine ⟨ret_bool ?_, rfl⟩; rw [Bool.eq_iff_iff]; simp [wordB, lowerB, upperB, digitB]; omega)
theorem rKeyword (s : ByteArray) (w : World) :
    Calls Tryz.prog 91 #[.string s] w fun e w' => e = .returned (.bool (kwB (bl s))) ∧ w = w' := by
  go_enter Tryz.func91, Tryz.ntmps91
  go_wp2
  all_goals go_ret
  all_goals simp_all [kwB, bl, ← ByteArray.toList_eq]
end Go.Proofs.YtafjjececdhmjaaGreat

/- The contracts of the functions that ask whether a text is a name or a variable. Conditions: a text is no longer than the model lets any be. -/
namespace Go.Proofs.YtafjjececdhmjaaGreat
open Go.RowKit

set_option maxHeartbeats 1000000 in
set_option maxRecDepth 100000 in
theorem tWord (s : ByteArray) (fr to : UInt8) (w : World) (hs : s.size ≤ maxLen) :
    Calls Tryz.prog 101 #[.string s, .int .u8 fr.toNat, .int .u8 to.toNat] w fun e w' => e = .returned (.bool (runB fr to (bl s))) ∧ Below w.heap.size w w' := by
  unfold maxLen at hs
  by_cases h0 : s.size = 0
  · go_enter Tryz.func101, Tryz.ntmps101
    go_wp2
    go_ret
    exact ⟨ret_bool (runB_no0 _ _ _ h0).symm, Below.refl _ _⟩
  · have h0' : 0 < s.size := by omega
    obtain ⟨cap, w1, hconv, hb, hz, hc⟩ := bytes_of (P := Tryz.prog) w 9 205 5 s Tryz.underlying9 Tryz.underlying205 Tryz.underlying5
    have Hb := Lib.hid hb; clear hb
    have Hz := Lib.hid hz; clear hz
    have Hc := Lib.hid hc; clear hc
    have g0 : ((s.size : Int) == 0) = false := beq_eq_false_iff_ne.2 (by omega)
    by_cases hg : s.size ≤ 120 ∧ fr.toNat ≤ s[0].toNat ∧ s[0].toNat ≤ to.toNat
    · obtain ⟨hg1, hg2, hg3⟩ := hg
      have HE := Lib.hid (runB_all h0' hg1 hg2 hg3)
      have g1 : decide (120 < (s.size : Int)) = false := decide_eq_false (by omega)
      have g2 : decide (s[0].toNat < fr.toNat) = false := decide_eq_false (by omega)
      have g3 : decide (to.toNat < s[0].toNat) = false := decide_eq_false (by omega)
      go_enter Tryz.func101, Tryz.ntmps101
      go_wp2
      clear hconv g0 g1 g2 g3 hg1 hg2 hg3
      go_loop [32] (fun i => ∃ k : Nat, k ≤ s.size ∧ i = .int .i64 k ∧ ∀ j, (h : j < s.size) → j < k → wordB s[j] = true) (fun i => s.size - (intOf i).toNat)
      case atStart => exact ⟨0, by omega, rfl, fun j _ h => by omega⟩
      case round =>
        obtain ⟨k, hk, rfl, hw⟩ := hrel
        have Hw := Lib.hid hw; clear hw
        by_cases hlt : k < s.size
        · have hcell := Hc.out k hlt
          by_cases h95 : s[k].toNat = 95
          · have hq : ((s[k].toNat : Int) != 95) = false := by simp [h95]
            have hwk := Lib.hid ((wordB_iff s[k]).2 (by omega))
            go_wp2
            all_goals exact ⟨⟨k + 1, by omega, by go_num, step_all Hw.out hlt hwk.out⟩, by simp [intOf]; omega⟩
          · have hq : ((s[k].toNat : Int) != 95) = true := by simp; omega
            go_wp2
            all_goals first
              | (go_ret; refine ⟨ret_bool ?_, Hb.out⟩; rw [HE.out, all_false wordB s k hlt (wordB_false _ (by omega))])
              | exact ⟨⟨k + 1, by omega, by go_num, step_all Hw.out hlt ((wordB_iff s[k]).2 (by omega))⟩, by simp [intOf]; omega⟩
        · go_wp2
          go_ret
          refine ⟨ret_bool ?_, Hb.out⟩
          rw [HE.out, all_true wordB s (fun j h => Hw.out j h (by omega))]
    · have HE := Lib.hid (runB_not h0' hg)
      clear hconv Hb Hz Hc
      by_cases h1 : 120 < s.size
      · have g1 : decide (120 < (s.size : Int)) = true := decide_eq_true (by omega)
        clear hg
        go_enter Tryz.func101, Tryz.ntmps101
        go_wp2
        go_ret
        exact ⟨ret_bool HE.out.symm, Below.refl _ _⟩
      · have g1 : decide (120 < (s.size : Int)) = false := decide_eq_false (by omega)
        by_cases h2 : s[0].toNat < fr.toNat
        · have g2 : decide (s[0].toNat < fr.toNat) = true := decide_eq_true h2
          clear hg h1
          go_enter Tryz.func101, Tryz.ntmps101
          go_wp2
          go_ret
          exact ⟨ret_bool HE.out.symm, Below.refl _ _⟩
        · have g2 : decide (s[0].toNat < fr.toNat) = false := decide_eq_false h2
          have g3 : decide (to.toNat < s[0].toNat) = true := decide_eq_true (by omega)
          clear hg h1 h2
          go_enter Tryz.func101, Tryz.ntmps101
          go_wp2
          go_ret
          exact ⟨ret_bool HE.out.symm, Below.refl _ _⟩
end Go.Proofs.YtafjjececdhmjaaGreat

/- The contracts of the functions that ask whether a text is a name or a variable, more. Conditions: a text is no longer than the model lets any be. -/
namespace Go.Proofs.YtafjjececdhmjaaGreat
open Go.RowKit

theorem tName (s : ByteArray) (w : World) (hs : s.size ≤ maxLen) :
    Calls Tryz.prog 66 #[.string s] w fun e w' => e = .returned (.bool (nameB (bl s))) ∧ Below w.heap.size w w' := by
  by_cases hk : kwB (bl s) = true
  · have HE := Lib.hid (show nameB (bl s) = false by simp [nameB, hk])
    have hk' := hk
    simp only [kwB, bl, ← ByteArray.toList_eq, Bool.or_eq_true] at hk'
    clear hk
    rcases hk' with ((((((h | h) | h) | h) | h) | h) | h) | h
    all_goals
      replace h := eq_of_beq h
      go_enter Tryz.func66, Tryz.ntmps66
      go_wp2_with fail
      go_ret
      exact ⟨ret_bool HE.out.symm, Below.refl _ _⟩
  · have HE := Lib.hid (show nameB (bl s) = runB 97 122 (bl s) by simp [nameB, hk])
    have hk' := hk
    simp only [kwB, bl, ← ByteArray.toList_eq, Bool.or_eq_true, not_or, Bool.not_eq_true] at hk'
    obtain ⟨⟨⟨⟨⟨⟨⟨h1, h2⟩, h3⟩, h4⟩, h5⟩, h6⟩, h7⟩, h8⟩ := hk'
    clear hk
    go_enter Tryz.func66, Tryz.ntmps66
    go_wp2_with fail
    refine (tWord s 97 122 _ hs).mono ?_
    rintro e w' ⟨rfl, hb⟩
    have Hb := Lib.hid hb; clear hb
    go_wp2_with fail
    go_ret
    exact ⟨ret_bool HE.out.symm, Hb.out⟩
theorem rWritten (s : ByteArray) (fr to : UInt8) (w : World) (hs : s.size ≤ maxLen) (hft : ∀ c : UInt8, fr.toNat ≤ c.toNat → c.toNat ≤ to.toNat → wordB c = true) :
    Calls Tryz.prog 90 #[.string s, .int .u8 fr.toNat, .int .u8 to.toNat] w fun e w' => e = .returned (.bool (runB fr to (bl s))) ∧ w = w' := by
  unfold maxLen at hs
  have Hft := Lib.hid hft; clear hft
  by_cases h0 : s.size = 0
  · have HE := Lib.hid (runB_no0 fr to s h0)
    have g0 : decide ((s.size : Int) < 1) = true := decide_eq_true (by omega)
    go_enter Tryz.func90, Tryz.ntmps90
    go_wp2_with fail
    go_ret
    exact ⟨ret_bool HE.out.symm, rfl⟩
  · have h0' : 0 < s.size := by omega
    have g0 : decide ((s.size : Int) < 1) = false := decide_eq_false (by omega)
    by_cases hg : s.size ≤ 120 ∧ fr.toNat ≤ s[0].toNat ∧ s[0].toNat ≤ to.toNat
    · obtain ⟨hg1, hg2, hg3⟩ := hg
      have HE := Lib.hid (runB_all h0' hg1 hg2 hg3)
      have H0 := Lib.hid (Hft.out s[0] hg2 hg3)
      have g1 : decide (120 < (s.size : Int)) = false := decide_eq_false (by omega)
      have g2 : decide (s[0].toNat < fr.toNat) = false := decide_eq_false (by omega)
      have g3 : decide (to.toNat < s[0].toNat) = false := decide_eq_false (by omega)
      go_enter Tryz.func90, Tryz.ntmps90
      go_wp2_with fail
      clear g0 g1 g2 g3 hg1 hg2 hg3
      go_loop [7] (fun i => ∃ k : Nat, 1 ≤ k ∧ k ≤ s.size ∧ i = .int .i64 k ∧ ∀ j, (h : j < s.size) → j < k → wordB s[j] = true) (fun i => s.size - (intOf i).toNat)
      case atStart => exact ⟨1, by omega, by omega, rfl, fun j _ h => by obtain rfl : j = 0 := by omega
                                                                         exact H0.out⟩
      case round =>
        obtain ⟨k, hk1, hk, rfl, hw⟩ := hrel
        have Hw := Lib.hid hw; clear hw
        by_cases hlt : k < s.size
        · rcases hwk : wordB s[k] with _ | _
          · have hwk' := Lib.hid hwk
            go_wp2_with (go_at_call 114; refine (rLetter s[k] _).mono ?_; rintro e w' ⟨rfl, rfl⟩)
            go_ret
            exact ⟨ret_bool (by rw [HE.out, all_false wordB s k hlt hwk'.out]), rfl⟩
          · have hwk' := Lib.hid hwk
            go_wp2_with (go_at_call 114; refine (rLetter s[k] _).mono ?_; rintro e w' ⟨rfl, rfl⟩)
            go_round
            case rel => exact ⟨k + 1, by omega, by omega, by go_num, step_all Hw.out hlt hwk'.out⟩
            case measure => simp [intOf]; omega
        · go_wp2_with fail
          go_ret
          exact ⟨ret_bool (by rw [HE.out, all_true wordB s (fun j h => Hw.out j h (by omega))]), rfl⟩
    · have HE := Lib.hid (runB_not h0' hg)
      by_cases h1 : 120 < s.size
      · have g1 : decide (120 < (s.size : Int)) = true := decide_eq_true (by omega)
        clear hg
        go_enter Tryz.func90, Tryz.ntmps90
        go_wp2_with fail
        go_ret
        exact ⟨ret_bool HE.out.symm, rfl⟩
      · have g1 : decide (120 < (s.size : Int)) = false := decide_eq_false (by omega)
        by_cases h2 : s[0].toNat < fr.toNat
        · have g2 : decide (s[0].toNat < fr.toNat) = true := decide_eq_true h2
          clear hg h1
          go_enter Tryz.func90, Tryz.ntmps90
          go_wp2_with fail
          go_ret
          exact ⟨ret_bool HE.out.symm, rfl⟩
        · have g2 : decide (s[0].toNat < fr.toNat) = false := decide_eq_false h2
          have g3 : decide (to.toNat < s[0].toNat) = true := decide_eq_true (by omega)
          clear hg h1 h2
          go_enter Tryz.func90, Tryz.ntmps90
          go_wp2_with fail
          go_ret
          exact ⟨ret_bool HE.out.symm, rfl⟩
end Go.Proofs.YtafjjececdhmjaaGreat

/- The contract of value.name. Conditions: a text is no longer than the model lets any be. -/
namespace Go.Proofs.YtafjjececdhmjaaGreat
open Go.RowKit

end Go.Proofs.YtafjjececdhmjaaGreat
