/- Types of columns in plain Lean: what rules say of places, what follows from it, and that it hangs neither on the rules' order nor on the variables' names; no program in sight. Nodes that point upwards: forests in memory; the contracts of top. The contracts of a node's say and join. What forests of nodes say of places, as against what is told of them; no program in sight. The graph of places in memory; the contracts of its say and join. Conditions: none. the nodes lie in memory as they are told, and no way upwards is endless. the graph lies in memory as it is told. -/
import Derived.Test.YtafjjececdhmjaaGreatNS1
import Derived.Test.YtafjjececdhmjaaGreatNMA
import Derived.LaidEqlPtr
import Derived.MapKept
namespace Go.Proofs.YtafjjececdhmjaaGreat
open Go.RowKit

/-- A place: a column of a predicate (rule -1), or a variable of a rule. -/
structure Pl where
  rule : Int
  name : ByteArray
  col : Int
/-- What stands where a term or an expression stands: anything, a type, a place. -/
inductive Sr where
  | any
  | ty (t : Int)
  | pl (p : Pl)
/-- What is said of places: a type of one; that two are of one class; that it cannot be. -/
inductive Cn where
  | say (p : Pl) (t : Int)
  | eq (p q : Pl)
  | bad
def tmSr (n : Int) (t : Tm) : Sr := if bl t.v = [95] then .any else if (bl t.v).isEmpty then .ty (if t.x.k = 1 then 1 else 2) else .pl ⟨n, t.v, 0⟩
def saySr : Sr → Int → List Cn
  | .any, _ => []
  | .ty u, t => if u = t then [] else [.bad]
  | .pl p, t => [.say p t]
def joinSr : Sr → Sr → List Cn
  | .any, _ => []
  | .ty _, .any => []
  | .pl _, .any => []
  | .ty u, .ty t => if u = t then [] else [.bad]
  | .ty u, .pl p => [.say p u]
  | .pl p, .ty u => [.say p u]
  | .pl p, .pl q => [.eq p q]
/-- The type that an operation's parts have, the type that it has. -/
def kidT (op : Int) : Int := if op = 7 ∨ op = 10 ∨ op = 8 ∨ op = 9 then 2 else 1
def ownT (op : Int) : Int := if op = 7 ∨ op = 10 then 2 else 1
def exSr (n : Int) : (d : Nat) → Ex d → Sr
  | 0, e => nomatch e
  | _ + 1, e => if e.1 = 0 then tmSr n e.2.1 else .ty (ownT e.1)
def exCn (n : Int) : (d : Nat) → Ex d → List Cn
  | 0, e => nomatch e
  | d + 1, e => if e.1 = 0 then [] else e.2.2.2.flatMap fun k => exCn n d k ++ saySr (exSr n d k) (kidT e.1)
/-- What a head's column says. -/
def agCn (n : Int) (p : ByteArray) (i : Nat) (a : Ag) : List Cn :=
  if a.g = 1 then [.say ⟨-1, p, i⟩ 1] else if a.g = 2 then .say ⟨-1, p, i⟩ 1 :: saySr (tmSr n a.t) 1 else joinSr (tmSr n a.t) (.pl ⟨-1, p, i⟩)
def tsCn (n : Int) (p : ByteArray) (i : Nat) (t : Tm) : List Cn := joinSr (tmSr n t) (.pl ⟨-1, p, i⟩)
def idxd {α β : Type} (f : Nat → α → List β) : Nat → List α → List β
  | _, [] => []
  | i, x :: r => f i x ++ idxd f (i + 1) r
theorem mem_idxd {α β : Type} {f : Nat → α → List β} {b : β} : ∀ {i : Nat} {l : List α}, b ∈ idxd f i l ↔ ∃ k, ∃ h : k < l.length, b ∈ f (i + k) l[k]
  | i, [] => by simp [idxd]
  | i, x :: r => by
    rw [idxd, List.mem_append, mem_idxd]
    constructor
    · rintro (h | ⟨k, hk, h⟩)
      · exact ⟨0, by simp, by simpa using h⟩
      · exact ⟨k + 1, by simpa using hk, by simpa [Nat.add_assoc, Nat.add_comm 1] using h⟩
    · rintro ⟨k, hk, h⟩
      match k, hk, h with
      | 0, _, h => exact .inl (by simpa using h)
      | k + 1, hk, h => exact .inr ⟨k, by simpa using hk, by simpa [Nat.add_assoc, Nat.add_comm 1] using h⟩
/-- What a literal says. -/
def ltCn (n : Int) {d : Nat} (x : Lt d) : List Cn := (if x.k = 3 then exCn n d x.l ++ (exCn n d x.g ++ joinSr (exSr n d x.l) (exSr n d x.g)) else []) ++ idxd (tsCn n x.p) 0 x.ts
/-- What a rule says. -/
def ruCn (n : Int) {d : Nat} (p : ByteArray) (hs : List Ag) (bs : List (Lt d)) : List Cn := idxd (agCn n p) 0 hs ++ bs.flatMap (ltCn n)
/-- What follows: a place has a type. -/
inductive Has (cs : List Cn) (t : Int) : Pl → Prop where
  | say {p : Pl} (h : Cn.say p t ∈ cs) : Has cs t p
  | left {p q : Pl} (h : Cn.eq p q ∈ cs) (k : Has cs t q) : Has cs t p
  | right {p q : Pl} (h : Cn.eq q p ∈ cs) (k : Has cs t q) : Has cs t p
def Torn (cs : List Cn) : Prop := Cn.bad ∈ cs ∨ ∃ p, Has cs 1 p ∧ Has cs 2 p
def Cn.map (φ : Pl → Pl) : Cn → Cn
  | .say p t => .say (φ p) t
  | .eq p q => .eq (φ p) (φ q)
  | .bad => .bad
def Sr.map (φ : Pl → Pl) : Sr → Sr
  | .any => .any
  | .ty t => .ty t
  | .pl p => .pl (φ p)
theorem Has.map {cs cs' : List Cn} {φ : Pl → Pl} (hφ : ∀ c ∈ cs, c.map φ ∈ cs') {t : Int} {p : Pl} (h : Has cs t p) : Has cs' t (φ p) := by
  induction h with
  | say h => exact .say (hφ _ h)
  | left h _ ih => exact .left (hφ _ h) ih
  | right h _ ih => exact .right (hφ _ h) ih
theorem Torn.map {cs cs' : List Cn} {φ : Pl → Pl} (hφ : ∀ c ∈ cs, c.map φ ∈ cs') (h : Torn cs) : Torn cs' := by
  rcases h with h | ⟨p, h1, h2⟩
  · exact .inl (hφ _ h)
  · exact .inr ⟨φ p, h1.map hφ, h2.map hφ⟩
theorem Has.mono {cs cs' : List Cn} (h : ∀ c ∈ cs, c ∈ cs') {t : Int} {p : Pl} (k : Has cs t p) : Has cs' t p := by
  induction k with
  | say h1 => exact .say (h _ h1)
  | left h1 _ ih => exact .left (h _ h1) ih
  | right h1 _ ih => exact .right (h _ h1) ih
theorem Torn.mono {cs cs' : List Cn} (h : ∀ c ∈ cs, c ∈ cs') (k : Torn cs) : Torn cs' := by
  rcases k with k | ⟨p, h1, h2⟩
  · exact .inl (h _ k)
  · exact .inr ⟨p, h1.mono h, h2.mono h⟩
theorem saySr_map (φ : Pl → Pl) (s : Sr) (t : Int) : saySr (s.map φ) t = (saySr s t).map (Cn.map φ) := by
  cases s with
  | any => rfl
  | ty u => simp only [saySr, Sr.map]; split <;> rfl
  | pl p => rfl
theorem joinSr_map (φ : Pl → Pl) (s u : Sr) : joinSr (s.map φ) (u.map φ) = (joinSr s u).map (Cn.map φ) := by
  cases s <;> cases u <;> simp only [joinSr, Sr.map] <;> first | rfl | (split <;> rfl)
/-! Variables renamed. -/
def rnB (ρ : ByteArray → ByteArray) (v : ByteArray) : ByteArray := if (bl v).isEmpty ∨ bl v = [95] then v else ρ v
def rnTm (ρ : ByteArray → ByteArray) (t : Tm) : Tm := ⟨rnB ρ t.v, t.x⟩
def rnAg (ρ : ByteArray → ByteArray) (a : Ag) : Ag := ⟨a.g, rnTm ρ a.t⟩
def rnEx (ρ : ByteArray → ByteArray) : (d : Nat) → Ex d → Ex d
  | 0, e => nomatch e
  | d + 1, e => (e.1, rnTm ρ e.2.1, e.2.2.1, e.2.2.2.map (rnEx ρ d))
/-- A name that a variable may be given: it is not empty, and not the one that names nothing. -/
def SoundR (ρ : ByteArray → ByteArray) : Prop := ∀ v, ¬ (bl v).isEmpty = true → bl v ≠ [95] → ¬ (bl (ρ v)).isEmpty = true ∧ bl (ρ v) ≠ [95]
/-- Where a place goes when the rules are laid in another order and their variables renamed. -/
def moveP (π : Int → Int) (ρ : Int → ByteArray → ByteArray) (p : Pl) : Pl := if p.rule < 0 then p else ⟨π p.rule, ρ p.rule p.name, p.col⟩
theorem tmSr_move {π : Int → Int} {ρ : Int → ByteArray → ByteArray} {n : Int} (hn : 0 ≤ n) (hρ : SoundR (ρ n)) (t : Tm) : tmSr (π n) (rnTm (ρ n) t) = (tmSr n t).map (moveP π ρ) := by
  by_cases h1 : bl t.v = [95]
  · have e : rnB (ρ n) t.v = t.v := by unfold rnB; rw [if_pos (Or.inr h1)]
    unfold tmSr rnTm
    rw [e, if_pos h1, if_pos h1]
    rfl
  · by_cases h2 : (bl t.v).isEmpty = true
    · have e : rnB (ρ n) t.v = t.v := by unfold rnB; rw [if_pos (Or.inl h2)]
      unfold tmSr rnTm
      rw [e, if_neg h1, if_pos h2, if_neg h1, if_pos h2]
      rfl
    · have e : rnB (ρ n) t.v = ρ n t.v := by
        unfold rnB
        rw [if_neg]
        rintro (h | h)
        · exact h2 h
        · exact h1 h
      have h4 := hρ t.v h2 h1
      unfold tmSr rnTm
      rw [e, if_neg h4.2, if_neg h4.1, if_neg h1, if_neg h2]
      simp only [Sr.map, moveP]
      rw [if_neg (by omega)]
theorem exSr_move {π : Int → Int} {ρ : Int → ByteArray → ByteArray} {n : Int} (hn : 0 ≤ n) (hρ : SoundR (ρ n)) : ∀ (d : Nat) (e : Ex d), exSr (π n) d (rnEx (ρ n) d e) = (exSr n d e).map (moveP π ρ)
  | 0, e => nomatch e
  | d + 1, e => by
    show (if e.1 = 0 then tmSr (π n) (rnTm (ρ n) e.2.1) else .ty (ownT e.1)) = (if e.1 = 0 then tmSr n e.2.1 else Sr.ty (ownT e.1)).map (moveP π ρ)
    split
    · exact tmSr_move hn hρ _
    · rfl
theorem exCn_move {π : Int → Int} {ρ : Int → ByteArray → ByteArray} {n : Int} (hn : 0 ≤ n) (hρ : SoundR (ρ n)) : ∀ (d : Nat) (e : Ex d), exCn (π n) d (rnEx (ρ n) d e) = (exCn n d e).map (Cn.map (moveP π ρ))
  | 0, e => nomatch e
  | d + 1, e => by
    show (if e.1 = 0 then [] else (e.2.2.2.map (rnEx (ρ n) d)).flatMap fun k => exCn (π n) d k ++ saySr (exSr (π n) d k) (kidT e.1)) = (if e.1 = 0 then [] else e.2.2.2.flatMap fun k => exCn n d k ++ saySr (exSr n d k) (kidT e.1)).map (Cn.map (moveP π ρ))
    split
    · rfl
    · rw [List.flatMap_map, List.map_flatMap]
      congr 1
      funext k
      rw [exCn_move hn hρ d k, exSr_move hn hρ d k, saySr_map, List.map_append]
theorem colP_move (π : Int → Int) (ρ : Int → ByteArray → ByteArray) (p : ByteArray) (i : Int) : moveP π ρ ⟨-1, p, i⟩ = ⟨-1, p, i⟩ := by
  unfold moveP
  rw [if_pos (by show (-1 : Int) < 0; omega)]
theorem tsCn_move {π : Int → Int} {ρ : Int → ByteArray → ByteArray} {n : Int} (hn : 0 ≤ n) (hρ : SoundR (ρ n)) (p : ByteArray) (i : Nat) (t : Tm) : tsCn (π n) p i (rnTm (ρ n) t) = (tsCn n p i t).map (Cn.map (moveP π ρ)) := by
  unfold tsCn
  rw [tmSr_move hn hρ, ← joinSr_map]
  congr 1
theorem agCn_move {π : Int → Int} {ρ : Int → ByteArray → ByteArray} {n : Int} (hn : 0 ≤ n) (hρ : SoundR (ρ n)) (p : ByteArray) (i : Nat) (a : Ag) : agCn (π n) p i (rnAg (ρ n) a) = (agCn n p i a).map (Cn.map (moveP π ρ)) := by
  unfold agCn
  show (if a.g = 1 then _ else if a.g = 2 then _ else _) = _
  split
  · simp only [List.map_cons, List.map_nil, Cn.map, colP_move]
  · split
    · show Cn.say _ 1 :: saySr (tmSr (π n) (rnTm (ρ n) a.t)) 1 = _
      rw [tmSr_move hn hρ, saySr_map]
      simp only [List.map_cons, Cn.map, colP_move]
    · exact tsCn_move hn hρ p i a.t
theorem idxd_move {α β : Type} {f g : Nat → α → List β} {h : α → α} {m : β → β} (H : ∀ i x, g i (h x) = (f i x).map m) : ∀ (i : Nat) (l : List α), idxd g i (l.map h) = (idxd f i l).map m
  | _, [] => rfl
  | i, x :: r => by rw [List.map_cons, idxd, idxd, List.map_append, H, idxd_move H (i + 1) r]
def rnLt (ρ : ByteArray → ByteArray) {d : Nat} (x : Lt d) : Lt d := ⟨x.k, x.p, x.ts.map (rnTm ρ), x.sv, x.r, rnEx ρ d x.l, rnEx ρ d x.g⟩
theorem ltCn_move {π : Int → Int} {ρ : Int → ByteArray → ByteArray} {n : Int} (hn : 0 ≤ n) (hρ : SoundR (ρ n)) {d : Nat} (x : Lt d) : ltCn (π n) (rnLt (ρ n) x) = (ltCn n x).map (Cn.map (moveP π ρ)) := by
  unfold ltCn
  show (if x.k = 3 then exCn (π n) d (rnEx (ρ n) d x.l) ++ (exCn (π n) d (rnEx (ρ n) d x.g) ++ joinSr (exSr (π n) d (rnEx (ρ n) d x.l)) (exSr (π n) d (rnEx (ρ n) d x.g))) else []) ++ idxd (tsCn (π n) x.p) 0 (x.ts.map (rnTm (ρ n))) = _
  rw [List.map_append, idxd_move (f := tsCn n x.p) (fun i t => tsCn_move hn hρ x.p i t)]
  congr 1
  split
  · rw [exCn_move hn hρ, exCn_move hn hρ, exSr_move hn hρ, exSr_move hn hρ, joinSr_map, List.map_append, List.map_append]
  · rfl
theorem ruCn_move {π : Int → Int} {ρ : Int → ByteArray → ByteArray} {n : Int} (hn : 0 ≤ n) (hρ : SoundR (ρ n)) {d : Nat} (p : ByteArray) (hs : List Ag) (bs : List (Lt d)) : ruCn (π n) p (hs.map (rnAg (ρ n))) (bs.map (rnLt (ρ n))) = (ruCn n p hs bs).map (Cn.map (moveP π ρ)) := by
  unfold ruCn
  rw [List.map_append, idxd_move (f := agCn n p) (fun i a => agCn_move hn hρ p i a), List.flatMap_map, List.map_flatMap]
  congr 2
  funext x
  exact ltCn_move hn hρ x
end Go.Proofs.YtafjjececdhmjaaGreat

namespace Go.Proofs.YtafjjececdhmjaaGreat
open Go.RowKit

def ptrOf (a : Nat) : Value := .pointer (some ⟨a, 0, none⟩)
def upV : Option Nat → Value
  | none => .pointer none
  | some b => .pointer (some ⟨b, 0, none⟩)
/-- The node that speaks for a node. -/
inductive Rt (up : Nat → Option Nat) : Nat → Nat → Prop where
  | top {a : Nat} (h : up a = none) : Rt up a a
  | step {a b r : Nat} (h : up a = some b) (k : Rt up b r) : Rt up a r
theorem Rt.root {up : Nat → Option Nat} {a r : Nat} (h : Rt up a r) : up r = none := by
  induction h with
  | top h => exact h
  | step _ _ ih => exact ih
theorem Rt.one {up : Nat → Option Nat} {a r s : Nat} (h : Rt up a r) (k : Rt up a s) : r = s := by
  induction h with
  | top h =>
    cases k with
    | top _ => rfl
    | step h2 _ => rw [h] at h2; cases h2
  | step h _ ih =>
    cases k with
    | top h2 => rw [h] at h2; cases h2
    | step h2 k2 =>
      rw [h, Option.some.injEq] at h2
      subst h2
      exact ih k2
/-- Along each way upwards a number falls. -/
def Falls (up : Nat → Option Nat) (rk : Nat → Nat) : Prop := ∀ a b, up a = some b → rk b < rk a
theorem Falls.rt {up : Nat → Option Nat} {rk : Nat → Nat} (h : Falls up rk) : ∀ a, ∃ r, Rt up a r := by
  intro a
  induction hn : rk a using Nat.strongRecOn generalizing a with
  | _ n ih =>
    cases hu : up a with
    | none => exact ⟨a, .top hu⟩
    | some b =>
      obtain ⟨r, hr⟩ := ih (rk b) (by rw [← hn]; exact h a b hu) b rfl
      exact ⟨r, .step hu hr⟩
/-- Nodes in memory. -/
structure Fo (w : World) (N : Nat → Prop) (up : Nat → Option Nat) (ty : Nat → Int) : Prop where
  bk : ∀ a, N a → ∃ cs t, w.heap[a]? = some (.cells cs t (0, 0)) ∧ cs[0]? = some (upV (up a)) ∧ cs[1]? = some (.int .i8 (ty a))
  cl : ∀ a b, N a → up a = some b → N b
theorem Fo.c0 {w : World} {N : Nat → Prop} {up : Nat → Option Nat} {ty : Nat → Int} (h : Fo w N up ty) {a : Nat} (ha : N a) : w.cell? ⟨a, 0, none⟩ = some (upV (up a)) := by
  obtain ⟨cs, t, hb, h0, _⟩ := h.bk a ha
  rw [Lib.cell_of_heap hb]; exact h0
theorem Fo.c1 {w : World} {N : Nat → Prop} {up : Nat → Option Nat} {ty : Nat → Int} (h : Fo w N up ty) {a : Nat} (ha : N a) : w.cell? ⟨a, 1, none⟩ = some (.int .i8 (ty a)) := by
  obtain ⟨cs, t, hb, _, h1⟩ := h.bk a ha
  rw [Lib.cell_of_heap hb]; exact h1
theorem Fo.fz {w : World} {N : Nat → Prop} {up : Nat → Option Nat} {ty : Nat → Int} (h : Fo w N up ty) {a : Nat} (ha : N a) (q : Nat) : w.frozen? ⟨a, q, none⟩ = false := by
  obtain ⟨cs, t, hb, _, _⟩ := h.bk a ha
  exact Lib.frozen_of_heap hb q
/-- A node's upper node is another from now on. -/
def setUp (up : Nat → Option Nat) (n : Nat) (c : Option Nat) : Nat → Option Nat := fun k => if k = n then c else up k
def setTy (ty : Nat → Int) (n : Nat) (x : Int) : Nat → Int := fun k => if k = n then x else ty k
theorem Fo.setUp {w : World} {N : Nat → Prop} {up : Nat → Option Nat} {ty : Nat → Int} (h : Fo w N up ty) {n c : Nat} (hn : N n) (hc : N c) : Fo (w.setCell ⟨n, 0, none⟩ (.pointer (some ⟨c, 0, none⟩))) N (setUp up n (some c)) ty := by
  refine ⟨fun a ha => ?_, fun a b ha hb => ?_⟩
  · obtain ⟨cs, t, hb, h0, h1⟩ := h.bk a ha
    by_cases e : a = n
    · subst e
      refine ⟨cs.setIfInBounds 0 (.pointer (some ⟨c, 0, none⟩)), t, by simp [World.setCell, Array.getElem?_modify, hb], ?_, ?_⟩
      · have hs : 0 < cs.size := (Array.getElem?_eq_some_iff.1 h0).1
        simp [hs, _root_.Go.Proofs.YtafjjececdhmjaaGreat.setUp, upV]
      · rw [Array.getElem?_setIfInBounds_ne (by omega)]; exact h1
    · refine ⟨cs, t, (Below.heap_setCell w ⟨n, 0, none⟩ _ a e).trans hb, ?_, h1⟩
      rw [h0, _root_.Go.Proofs.YtafjjececdhmjaaGreat.setUp, if_neg e]
  · unfold _root_.Go.Proofs.YtafjjececdhmjaaGreat.setUp at hb
    split at hb
    · obtain rfl : c = b := by simpa using hb
      exact hc
    · exact h.cl a b ha hb
theorem Fo.setTy {w : World} {N : Nat → Prop} {up : Nat → Option Nat} {ty : Nat → Int} (h : Fo w N up ty) {n : Nat} (hn : N n) (x : Int) : Fo (w.setCell ⟨n, 1, none⟩ (.int .i8 x)) N up (setTy ty n x) := by
  refine ⟨fun a ha => ?_, h.cl⟩
  obtain ⟨cs, t, hb, h0, h1⟩ := h.bk a ha
  by_cases e : a = n
  · subst e
    refine ⟨cs.setIfInBounds 1 (.int .i8 x), t, by simp [World.setCell, Array.getElem?_modify, hb], ?_, ?_⟩
    · rw [Array.getElem?_setIfInBounds_ne (by omega)]; exact h0
    · have hs : 1 < cs.size := (Array.getElem?_eq_some_iff.1 h1).1
      simp [hs, _root_.Go.Proofs.YtafjjececdhmjaaGreat.setTy]
  · refine ⟨cs, t, (Below.heap_setCell w ⟨n, 1, none⟩ _ a e).trans hb, h0, ?_⟩
    rw [h1, _root_.Go.Proofs.YtafjjececdhmjaaGreat.setTy, if_neg e]
/-- One way is cut short: the node points to the one above the one above it. -/
def cutUp (up : Nat → Option Nat) (n c : Nat) : Nat → Option Nat := setUp up n (some c)
theorem cut_falls {up : Nat → Option Nat} {rk : Nat → Nat} {n b c : Nat} (h : Falls up rk) (h1 : up n = some b) (h2 : up b = some c) : Falls (cutUp up n c) rk := by
  intro a d hd
  unfold cutUp setUp at hd
  split at hd
  · rename_i e
    subst e
    obtain rfl : c = d := by simpa using hd
    exact Nat.lt_trans (h b c h2) (h a b h1)
  · exact h a d hd
theorem cut_rt {up : Nat → Option Nat} {rk : Nat → Nat} {n b c : Nat} (hf : Falls up rk) (h1 : up n = some b) (h2 : up b = some c) (a r : Nat) : Rt (cutUp up n c) a r ↔ Rt up a r := by
  constructor
  · intro h
    induction h with
    | top h =>
      unfold cutUp setUp at h
      split at h
      · cases h
      · exact .top h
    | step h _ ih =>
      unfold cutUp setUp at h
      split at h
      · rename_i e
        subst e
        obtain rfl : c = _ := by simpa using h
        exact .step h1 (.step h2 ih)
      · exact .step h ih
  · intro h
    have key : ∀ m a, rk a = m → ∀ r, Rt up a r → Rt (cutUp up n c) a r := by
      intro m
      induction m using Nat.strongRecOn with
      | _ m ih =>
        intro a ha r hr
        by_cases e : a = n
        · subst e
          cases hr with
          | top h3 => rw [h1] at h3; cases h3
          | step h3 k3 =>
            rw [h1, Option.some.injEq] at h3
            subst h3
            cases k3 with
            | top h4 => rw [h2] at h4; cases h4
            | step h4 k4 =>
              rw [h2, Option.some.injEq] at h4
              subst h4
              refine .step (by unfold cutUp setUp; rw [if_pos rfl]) (ih _ ?_ _ rfl _ k4)
              rw [← ha]
              exact Nat.lt_trans (hf _ _ h2) (hf _ _ h1)
        · cases hr with
          | top h3 => exact .top (by unfold cutUp setUp; rw [if_neg e]; exact h3)
          | step h3 k3 => exact .step (by unfold cutUp setUp; rw [if_neg e]; exact h3) (ih _ (by rw [← ha]; exact hf _ _ h3) _ rfl _ k3)
    exact key _ a rfl r h
/-- What work on nodes leaves of the rest of memory. -/
structure Nf (N : Nat → Prop) (w w' : World) : Prop where
  os : w'.os = w.os
  tape : w'.tape = w.tape
  output : w'.output = w.output
  size : w'.heap.size = w.heap.size
  block : ∀ k, ¬ N k → w'.heap[k]? = w.heap[k]?
  rest : ∀ k, N k → ∀ cs t fz, w.heap[k]? = some (.cells cs t fz) → ∃ cs' : Array Value, w'.heap[k]? = some (.cells cs' t fz) ∧ cs'.size = cs.size ∧ ∀ q, 2 ≤ q → cs'[q]? = cs[q]?
theorem Nf.refl (N : Nat → Prop) (w : World) : Nf N w w := ⟨rfl, rfl, rfl, rfl, fun _ _ => rfl, fun _ _ cs _ _ h => ⟨cs, h, rfl, fun _ _ => rfl⟩⟩
theorem Nf.trans {N : Nat → Prop} {a b c : World} (h : Nf N a b) (k : Nf N b c) : Nf N a c :=
  ⟨k.os.trans h.os, k.tape.trans h.tape, k.output.trans h.output, k.size.trans h.size, fun i hi => (k.block i hi).trans (h.block i hi), fun i hi cs t fz hc => by
    obtain ⟨cs1, h1, h2, h3⟩ := h.rest i hi cs t fz hc
    obtain ⟨cs2, k1, k2, k3⟩ := k.rest i hi cs1 t fz h1
    exact ⟨cs2, k1, k2.trans h2, fun q hq => (k3 q hq).trans (h3 q hq)⟩⟩
theorem Nf.set {N : Nat → Prop} {w : World} {a q : Nat} (ha : N a) (hq : q < 2) (v : Value) : Nf N w (w.setCell ⟨a, q, none⟩ v) := by
  refine ⟨rfl, rfl, rfl, by simp [World.setCell], fun k hk => Below.heap_setCell w ⟨a, q, none⟩ _ k (fun e => hk (e ▸ ha)), fun k hk cs t fz hc => ?_⟩
  by_cases e : k = a
  · subst e
    refine ⟨cs.setIfInBounds q v, by simp [World.setCell, Array.getElem?_modify, hc], by simp, fun i hi => ?_⟩
    rw [Array.getElem?_setIfInBounds_ne (by omega)]
  · exact ⟨cs, (Below.heap_setCell w ⟨a, q, none⟩ _ k e).trans hc, rfl, fun _ _ => rfl⟩
/-- At the head of the rounds that go upwards. -/
def TpRel (N : Nat → Prop) (up : Nat → Option Nat) (ty : Nat → Int) (rk : Nat → Nat) (a : Nat) (w : World) (v0 : Value) (wr : World) : Prop :=
  ∃ n up', v0 = .pointer (some ⟨n, 0, none⟩) ∧ N n ∧ (∀ r, Rt up a r ↔ Rt up' n r) ∧ Falls up' rk ∧ (∀ b r, Rt up' b r ↔ Rt up b r) ∧ Fo wr N up' ty ∧ Nf N w wr
/-- What top leaves. -/
def TpPost (N : Nat → Prop) (up : Nat → Option Nat) (ty : Nat → Int) (rk : Nat → Nat) (a : Nat) (w : World) (e : Ending) (w' : World) : Prop :=
  ∃ r up', e = .returned (.pointer (some ⟨r, 0, none⟩)) ∧ N r ∧ Rt up a r ∧ Falls up' rk ∧ (∀ b s, Rt up' b s ↔ Rt up b s) ∧ Fo w' N up' ty ∧ Nf N w w'
def blkOf : Value → Nat
  | .pointer (some a) => a.block
  | _ => 0
set_option maxHeartbeats 4000000 in
theorem tTop (N : Nat → Prop) (up : Nat → Option Nat) (ty : Nat → Int) (rk : Nat → Nat) (a : Nat) (w : World) (h : Fo w N up ty) (hf : Falls up rk) (ha : N a) :
    Calls Tryz.prog 24 #[.pointer (some ⟨a, 0, none⟩)] w (TpPost N up ty rk a w) := by
  have HF := Lib.hid h; clear h
  go_enter Tryz.func24, Tryz.ntmps24
  go_wp2_with fail
  go_loopw [0] (fun v0 wr => TpRel N up ty rk a w v0 wr) (fun v0 _ => rk (blkOf v0))
  case atStart => exact ⟨a, up, rfl, ha, fun _ => Iff.rfl, hf, fun _ _ => Iff.rfl, HF.out, Nf.refl _ _⟩
  case round =>
    obtain ⟨n, up', rfl, hn, hrt, hfa, heq, hfo, hnf⟩ := hrel
    have c0 := hfo.c0 hn
    have f0 := hfo.fz hn 0
    have HRT := Lib.hid hrt; clear hrt
    have HEQ := Lib.hid heq; clear heq
    have HNF := Lib.hid hnf; clear hnf
    cases hu : up' n with
    | none =>
      rw [hu] at c0
      have HN := Lib.hid hn; clear hn
      have HFA := Lib.hid hfa; clear hfa
      have HFO := Lib.hid hfo; clear hfo
      have HU := Lib.hid hu; clear hu
      simp only [upV] at c0
      go_wp2_with fail
      go_ret
      exact ⟨n, up', rfl, HN.out, (HRT.out n).2 (.top HU.out), HFA.out, HEQ.out, HFO.out, HNF.out⟩
    | some b =>
      rw [hu] at c0
      have hb := hfo.cl n b hn hu
      have d0 := hfo.c0 hb
      have hlt := hfa n b hu
      cases hu2 : up' b with
      | none =>
        rw [hu2] at d0
        have HST := Lib.hid (fun r => show Rt up' n r ↔ Rt up' b r from ⟨fun h => by
          cases h with
          | top h3 => rw [hu] at h3; cases h3
          | step h3 k3 => rw [hu, Option.some.injEq] at h3; subst h3; exact k3, fun h => .step hu h⟩)
        have HB := Lib.hid hb; clear hb hn
        have HFA := Lib.hid hfa; clear hfa
        have HFO := Lib.hid hfo; clear hfo
        clear hu hu2
        simp only [upV] at c0 d0
        go_wp2_with fail
        go_roundw
        case rel => exact ⟨b, up', rfl, HB.out, fun r => (HRT.out r).trans (HST.out r), HFA.out, HEQ.out, HFO.out, HNF.out⟩
        case measure => simpa [blkOf] using hlt
      | some c =>
        rw [hu2] at d0
        have hc := hfo.cl b c hb hu2
        have hlt2 := hfa b c hu2
        have HCR := Lib.hid (cut_rt hfa hu hu2)
        have HCF := Lib.hid (cut_falls hfa hu hu2)
        have HST := Lib.hid (fun r => show Rt up' n r ↔ Rt (cutUp up' n c) c r from by
          rw [cut_rt hfa hu hu2]
          exact ⟨fun h => by
            cases h with
            | top h3 => rw [hu] at h3; cases h3
            | step h3 k3 =>
              rw [hu, Option.some.injEq] at h3
              subst h3
              cases k3 with
              | top h4 => rw [hu2] at h4; cases h4
              | step h4 k4 => rw [hu2, Option.some.injEq] at h4; subst h4; exact k4, fun h => .step hu (.step hu2 h)⟩)
        have HFO := Lib.hid (hfo.setUp hn hc)
        have HNS := Lib.hid (Nf.set (w := wr) hn (by omega : 0 < 2) (.pointer (some ⟨c, 0, none⟩)))
        have HC := Lib.hid hc
        have hnb : n ≠ b := by rintro rfl; omega
        have e0 : (wr.setCell ⟨n, 0, none⟩ (.pointer (some ⟨c, 0, none⟩))).cell? ⟨n, 0, none⟩ = some (.pointer (some ⟨c, 0, none⟩)) := by
          have h9 := HFO.out.c0 hn
          unfold setUp at h9
          rw [if_pos rfl] at h9
          exact h9
        clear hfa hfo hu hu2 hn hb hc
        simp only [upV] at c0 d0
        go_wp2_with fail
        go_roundw
        case rel => exact ⟨c, cutUp up' n c, rfl, HC.out, fun r => (HRT.out r).trans (HST.out r), HCF.out, fun b r => (HCR.out b r).trans (HEQ.out b r), HFO.out, HNF.out.trans HNS.out⟩
        case measure => simp [blkOf]; omega
end Go.Proofs.YtafjjececdhmjaaGreat

namespace Go.Proofs.YtafjjececdhmjaaGreat
open Go.RowKit
/-- What is said of a class that has a type: whether it may be, and the type that it has then. -/
theorem say_cases (x t : Int) : (t = 0 ∨ x = t) ∨ (x ≠ 0 ∧ ¬ (t = 0 ∨ x = t)) ∨ (x = 0 ∧ t ≠ 0) := by omega
def sayOk (x t : Int) : Bool := decide (t = 0) || decide (x = t) || decide (x = 0)
def sayTy (x t : Int) : Int := if x = 0 then t else x
/-- What say leaves. -/
def SyPost (N : Nat → Prop) (up : Nat → Option Nat) (ty : Nat → Int) (rk : Nat → Nat) (a : Nat) (t : Int) (w : World) (e : Ending) (w' : World) : Prop :=
  ∃ r up', e = .returned (.bool (sayOk (ty r) t)) ∧ N r ∧ Rt up a r ∧ Falls up' rk ∧ (∀ b s, Rt up' b s ↔ Rt up b s) ∧ Fo w' N up' (setTy ty r (sayTy (ty r) t)) ∧ Nf N w w'
theorem setTy_same (ty : Nat → Int) (r : Nat) : setTy ty r (ty r) = ty := by
  funext k
  unfold setTy
  split
  · rename_i e; rw [e]
  · rfl
set_option maxHeartbeats 4000000 in
theorem tSay (N : Nat → Prop) (up : Nat → Option Nat) (ty : Nat → Int) (rk : Nat → Nat) (a : Nat) (t : Int) (w : World) (h : Fo w N up ty) (hf : Falls up rk) (ha : N a) :
    Calls Tryz.prog 43 #[.pointer (some ⟨a, 0, none⟩), .int .i8 t] w (SyPost N up ty rk a t w) := by
  have HC := Lib.hid (tTop N up ty rk a w h hf ha)
  clear h hf ha
  go_enter Tryz.func43, Tryz.ntmps43
  go_wp2_with fail
  refine HC.out.mono ?_
  rintro e w1 ⟨r, up', rfl, hr, hrt, hfa, heq, hfo, hnf⟩
  have c1 := hfo.c1 hr
  have f1 := hfo.fz hr 1
  rcases say_cases (ty r) t with hs | hs | hs
  · have HP := Lib.hid (show SyPost N up ty rk a t w (.returned (.bool true)) w1 from by
      refine ⟨r, up', ?_, hr, hrt, hfa, heq, ?_, hnf⟩
      · rw [show sayOk (ty r) t = true by unfold sayOk; rcases hs with hs | hs <;> simp [hs]]
      · have e : sayTy (ty r) t = ty r := by
          unfold sayTy
          split
          · rcases hs with hs | hs <;> omega
          · rfl
        rw [e, setTy_same]
        exact hfo)
    clear hr hrt hfa heq hfo hnf
    by_cases h0 : t = 0
    · clear hs
      go_wp2_with fail
      go_ret
      exact HP.out
    · have h1 : ty r = t := by omega
      have q0 : (t == 0) = false := beq_eq_false_iff_ne.2 h0
      have q1 : (ty r == t) = true := beq_iff_eq.2 h1
      clear hs
      go_wp2_with fail
      go_ret
      exact HP.out
  · have HP := Lib.hid (show SyPost N up ty rk a t w (.returned (.bool false)) w1 from by
      refine ⟨r, up', ?_, hr, hrt, hfa, heq, ?_, hnf⟩
      · rw [show sayOk (ty r) t = false by unfold sayOk; simp; omega]
      · have e : sayTy (ty r) t = ty r := by
          unfold sayTy
          rw [if_neg hs.1]
        rw [e, setTy_same]
        exact hfo)
    clear hr hrt hfa heq hfo hnf
    have q0 : (t == 0) = false := beq_eq_false_iff_ne.2 (by omega)
    have q1 : (ty r == t) = false := beq_eq_false_iff_ne.2 (by omega)
    have q2 : (ty r != 0) = true := by simp; omega
    clear hs
    go_wp2_with fail
    go_ret
    exact HP.out
  · have HP := Lib.hid (show SyPost N up ty rk a t w (.returned (.bool true)) (w1.setCell ⟨r, 1, none⟩ (.int .i8 t)) from by
      refine ⟨r, up', ?_, hr, hrt, hfa, heq, ?_, hnf.trans (Nf.set hr (by omega) _)⟩
      · rw [show sayOk (ty r) t = true by unfold sayOk; simp [hs.1]]
      · have e : sayTy (ty r) t = t := by
          unfold sayTy
          rw [if_pos hs.1]
        rw [e]
        exact hfo.setTy hr t)
    clear hr hrt hfa heq hfo hnf
    have q0 : (t == 0) = false := beq_eq_false_iff_ne.2 hs.2
    have q1 : (ty r == t) = false := beq_eq_false_iff_ne.2 (by omega)
    have q2 : (ty r != 0) = false := by simp [hs.1]
    clear hs
    go_wp2_with fail
    go_ret
    exact HP.out
/-! Two classes become one. -/
theorem link_rt {up : Nat → Option Nat} {x y : Nat} (hx : up x = none) (hy : up y = none) (hxy : x ≠ y) (a s : Nat) : Rt (setUp up x (some y)) a s ↔ (Rt up a s ∧ s ≠ x) ∨ (Rt up a x ∧ s = y) := by
  have hyy : Rt (setUp up x (some y)) y y := .top (by unfold setUp; rw [if_neg (fun e => hxy e.symm)]; exact hy)
  constructor
  · intro h
    induction h with
    | @top a h =>
      unfold setUp at h
      split at h
      · cases h
      · rename_i e
        exact .inl ⟨.top h, e⟩
    | @step a b r h k ih =>
      unfold setUp at h
      split at h
      · rename_i e
        subst e
        obtain rfl : y = b := by simpa using h
        exact .inr ⟨.top hx, (k.one hyy)⟩
      · rcases ih with ⟨i1, i2⟩ | ⟨i1, i2⟩
        · exact .inl ⟨.step h i1, i2⟩
        · exact .inr ⟨.step h i1, i2⟩
  · rintro (⟨h, hs⟩ | ⟨h, rfl⟩)
    · induction h with
      | @top a h => exact .top (by unfold setUp; rw [if_neg hs]; exact h)
      | @step a b r h k ih => exact .step (by unfold setUp; rw [if_neg]; · exact h
                                              · rintro rfl; rw [hx] at h; cases h) (ih hs)
    · have key : ∀ {a z : Nat}, Rt up a z → z = x → Rt (setUp up x (some s)) a s := by
        intro a z h
        induction h with
        | @top a h =>
          intro e
          subst e
          exact .step (by unfold setUp; rw [if_pos rfl]) hyy
        | @step a b r hu k ih =>
          intro e
          refine .step (b := b) ?_ (ih e)
          unfold setUp
          rw [if_neg]
          · exact hu
          · rintro rfl
            rw [hx] at hu
            cases hu
      exact key h rfl
open Classical in
/-- The number that falls along each way, when one class has been laid under another. -/
noncomputable def linkRk (up : Nat → Option Nat) (rk : Nat → Nat) (x y : Nat) : Nat → Nat := fun k => if Rt up k x then rk k + rk y + 1 else rk k
theorem link_falls {up : Nat → Option Nat} {rk : Nat → Nat} {x y : Nat} (hf : Falls up rk) (hx : up x = none) (hy : up y = none) (hxy : x ≠ y) : Falls (setUp up x (some y)) (linkRk up rk x y) := by
  intro a b hab
  have hny : ¬ Rt up y x := fun h => hxy (h.one (.top hy))
  unfold setUp at hab
  split at hab
  · rename_i e
    subst e
    obtain rfl : y = b := by simpa using hab
    unfold linkRk
    rw [if_neg hny, if_pos (.top hx)]
    omega
  · have h1 := hf a b hab
    unfold linkRk
    by_cases hb : Rt up b x
    · rw [if_pos hb, if_pos (.step hab hb)]
      omega
    · rw [if_neg hb, if_neg]
      · exact h1
      · intro h
        cases h with
        | top h2 => rw [hab] at h2; cases h2
        | step h2 k2 => rw [hab, Option.some.injEq] at h2; subst h2; exact hb k2
/-- What join leaves. -/
def JnPost (N : Nat → Prop) (up : Nat → Option Nat) (ty : Nat → Int) (a b : Nat) (w : World) (e : Ending) (w' : World) : Prop :=
  ∃ x y up' rk', N x ∧ N y ∧ Rt up a x ∧ Rt up b y ∧ Falls up' rk' ∧ Nf N w w' ∧
    ((x = y ∧ e = .returned (.bool true) ∧ (∀ c s, Rt up' c s ↔ Rt up c s) ∧ Fo w' N up' ty) ∨
      (x ≠ y ∧ e = .returned (.bool (sayOk (ty y) (ty x))) ∧ (∀ c s, Rt up' c s ↔ (Rt up c s ∧ s ≠ x) ∨ (Rt up c x ∧ s = y)) ∧ Fo w' N up' (setTy ty y (sayTy (ty y) (ty x)))))
theorem infoNode : (Tryz.prog.info? 76).map (fun i => i.size) = some 2 := by kernel_rfl
set_option maxHeartbeats 4000000 in
set_option maxRecDepth 100000 in
theorem tJoin (N : Nat → Prop) (up : Nat → Option Nat) (ty : Nat → Int) (rk : Nat → Nat) (a b : Nat) (w : World) (h : Fo w N up ty) (hf : Falls up rk) (ha : N a) (hb : N b) :
    Calls Tryz.prog 78 #[.pointer (some ⟨a, 0, none⟩), .pointer (some ⟨b, 0, none⟩)] w (JnPost N up ty a b w) := by
  have HC := Lib.hid (tTop N up ty rk a w h hf ha)
  have HB := Lib.hid hb
  clear h hf ha hb
  go_enter Tryz.func78, Tryz.ntmps78
  go_wp2_with fail
  refine HC.out.mono ?_
  rintro e w1 ⟨x, up1, rfl, hx, hax, hf1, heq1, hfo1, hn1⟩
  have HC2 := Lib.hid (tTop N up1 ty rk b w1 hfo1 hf1 HB.out)
  have HX := Lib.hid hx
  have HAX := Lib.hid hax
  have HE1 := Lib.hid heq1
  have HN1 := Lib.hid hn1
  clear hx hax hf1 heq1 hfo1 hn1
  go_wp2_with fail
  refine HC2.out.mono ?_
  rintro e w2 ⟨y, up2, rfl, hy, hby, hf2, heq2, hfo2, hn2⟩
  have hrt : ∀ c s, Rt up2 c s ↔ Rt up c s := fun c s => (heq2 c s).trans (HE1.out c s)
  have hxr : up2 x = none := ((hrt x x).2 (HAX.out.root |> fun h => by
    exact (HE1.out x x).1 ((heq2 x x).1 (by
      have h9 : Rt up2 a x := (hrt a x).2 HAX.out
      exact .top h9.root)))).root
  have hyr : up2 y = none := ((heq2 b y).2 hby).root
  have hby' : Rt up b y := (HE1.out b y).1 hby
  by_cases hxy : x = y
  · subst hxy
    have HP := Lib.hid (show JnPost N up ty a b w (.returned (.bool true)) w2 from ⟨x, x, up2, rk, hy, hy, HAX.out, hby', hf2, HN1.out.trans hn2, .inl ⟨rfl, rfl, hrt, hfo2⟩⟩)
    obtain ⟨j, hj, _⟩ := Option.map_eq_some_iff.1 infoNode
    have hq := run_eql_ptr_same (P := Tryz.prog) w2 (⟨x, 0, none⟩ : Addr) Tryz.underlying74 hj
    clear hy hby hf2 heq2 hfo2 hn2 hrt hxr hyr hby' hj
    go_wp2_with fail
    go_ret
    exact HP.out
  · obtain ⟨j, hj, hjs⟩ := Option.map_eq_some_iff.1 infoNode
    obtain ⟨csx, tx, hbx, _, _⟩ := hfo2.bk x HX.out
    obtain ⟨csy, ty', hby2, _, _⟩ := hfo2.bk y hy
    have hq := run_eql_ptr_other (P := Tryz.prog) w2 (a := (⟨x, 0, none⟩ : Addr)) (b := (⟨y, 0, none⟩ : Addr)) Tryz.underlying74 hj (by rw [hjs]; decide) (fun e => hxy (congrArg Addr.block e)) hbx hby2
    clear hj hjs hbx hby2
    have f0 := hfo2.fz HX.out 0
    have c0 := hfo2.c0 HX.out
    have hfo3 := hfo2.setUp HX.out hy
    have hf3 := link_falls hf2 hxr hyr hxy
    have hn3 := HN1.out.trans (hn2.trans (Nf.set (w := w2) HX.out (by omega : 0 < 2) (.pointer (some ⟨y, 0, none⟩))))
    have c1 := hfo3.c1 HX.out
    have hlk := link_rt (a := y) hxr hyr hxy
    have HS := Lib.hid (tSay N _ ty _ y (ty x) _ hfo3 hf3 hy)
    have HL := Lib.hid (fun c s => show Rt (setUp up2 x (some y)) c s ↔ (Rt up c s ∧ s ≠ x) ∨ (Rt up c x ∧ s = y) from by rw [link_rt hxr hyr hxy, hrt, hrt])
    have HYY := Lib.hid (show ∀ r, Rt (setUp up2 x (some y)) y r → r = y from fun r h => h.one (.top (by unfold setUp; rw [if_neg (fun e => hxy e.symm)]; exact hyr)))
    have HXY := Lib.hid hxy
    have HBY := Lib.hid hby'
    have HY := Lib.hid hy
    have HN3 := Lib.hid hn3
    rw [hxr] at c0
    simp only [upV] at c0
    clear hy hby hf2 heq2 hfo2 hn2 hrt hxr hyr hby' hfo3 hf3 hn3 hlk
    go_wp2_with fail
    refine HS.out.mono ?_
    rintro e w3 ⟨r, up3, rfl, hr, hyr2, hf4, heq4, hfo4, hn4⟩
    obtain rfl := HYY.out r hyr2
    have HP := Lib.hid (show JnPost N up ty a b w (.returned (.bool (sayOk (ty r) (ty x)))) w3 from ⟨x, r, up3, _, HX.out, HY.out, HAX.out, HBY.out, hf4, HN3.out.trans hn4, .inr ⟨HXY.out, rfl, fun c s => (heq4 c s).trans (HL.out c s), hfo4⟩⟩)
    clear hr hyr2 hf4 heq4 hfo4 hn4
    go_wp2_with fail
    go_ret
    exact HP.out
end Go.Proofs.YtafjjececdhmjaaGreat

namespace Go.Proofs.YtafjjececdhmjaaGreat
open Go.RowKit

/-- Two places are of one class. -/
inductive Conn (cs : List Cn) : Pl → Pl → Prop where
  | refl (p : Pl) : Conn cs p p
  | left {p q r : Pl} (h : Cn.eq p q ∈ cs) (k : Conn cs q r) : Conn cs p r
  | right {p q r : Pl} (h : Cn.eq q p ∈ cs) (k : Conn cs q r) : Conn cs p r
theorem Conn.mono {cs cs' : List Cn} (h : ∀ c ∈ cs, c ∈ cs') {p q : Pl} (k : Conn cs p q) : Conn cs' p q := by
  induction k with
  | refl p => exact .refl p
  | left h1 _ ih => exact .left (h _ h1) ih
  | right h1 _ ih => exact .right (h _ h1) ih
theorem Conn.trans {cs : List Cn} {p q r : Pl} (h : Conn cs p q) (k : Conn cs q r) : Conn cs p r := by
  induction h with
  | refl p => exact k
  | left h1 _ ih => exact .left h1 (ih k)
  | right h1 _ ih => exact .right h1 (ih k)
theorem Conn.symm {cs : List Cn} {p q : Pl} (h : Conn cs p q) : Conn cs q p := by
  induction h with
  | refl p => exact .refl p
  | left h1 _ ih => exact ih.trans (.right h1 (.refl _))
  | right h1 _ ih => exact ih.trans (.left h1 (.refl _))
theorem Has.conn {cs : List Cn} {t : Int} {p q : Pl} (h : Conn cs p q) (k : Has cs t q) : Has cs t p := by
  induction h with
  | refl p => exact k
  | left h1 _ ih => exact .left h1 (ih k)
  | right h1 _ ih => exact .right h1 (ih k)
/-- What a forest says of the places that its nodes stand for is what follows from what is told. -/
structure Sm (N : Nat → Prop) (up : Nat → Option Nat) (ty : Nat → Int) (ps : List (Pl × Nat)) (cs : List Cn) : Prop where
  say : ∀ p t, Cn.say p t ∈ cs → t ≠ 0 ∧ ∃ a r, (p, a) ∈ ps ∧ Rt up a r ∧ ty r = t
  eq : ∀ p q, Cn.eq p q ∈ cs → ∃ a b r, (p, a) ∈ ps ∧ (q, b) ∈ ps ∧ Rt up a r ∧ Rt up b r
  bad : Cn.bad ∉ cs
  conn : ∀ p a q b r, (p, a) ∈ ps → (q, b) ∈ ps → Rt up a r → Rt up b r → Conn cs p q
  has : ∀ p a r, (p, a) ∈ ps → Rt up a r → ty r ≠ 0 → Has cs (ty r) p
/-- No place stands twice. -/
def KeyOne (ps : List (Pl × Nat)) : Prop := ∀ p a b, (p, a) ∈ ps → (p, b) ∈ ps → a = b
/-- Each node has a type that is one. -/
def Ty3 (N : Nat → Prop) (ty : Nat → Int) : Prop := ∀ a, N a → ty a = 0 ∨ ty a = 1 ∨ ty a = 2
theorem Sm.of_has {N : Nat → Prop} {up : Nat → Option Nat} {ty : Nat → Int} {ps : List (Pl × Nat)} {cs : List Cn} (S : Sm N up ty ps cs) (K : KeyOne ps) {t : Int} {p : Pl} (h : Has cs t p) : t ≠ 0 ∧ ∃ a r, (p, a) ∈ ps ∧ Rt up a r ∧ ty r = t := by
  induction h with
  | say h => exact S.say _ _ h
  | left h _ ih =>
    obtain ⟨h0, b, r, hb, hr, ht⟩ := ih
    obtain ⟨a, b', r', ha, hb', hra, hrb⟩ := S.eq _ _ h
    obtain rfl := K _ _ _ hb hb'
    obtain rfl := hr.one hrb
    exact ⟨h0, a, r, ha, hra, ht⟩
  | right h _ ih =>
    obtain ⟨h0, b, r, hb, hr, ht⟩ := ih
    obtain ⟨b', a, r', hb', ha, hrb, hra⟩ := S.eq _ _ h
    obtain rfl := K _ _ _ hb hb'
    obtain rfl := hr.one hrb
    exact ⟨h0, a, r, ha, hra, ht⟩
theorem Sm.not_torn {N : Nat → Prop} {up : Nat → Option Nat} {ty : Nat → Int} {ps : List (Pl × Nat)} {cs : List Cn} (S : Sm N up ty ps cs) (K : KeyOne ps) : ¬ Torn cs := by
  rintro (h | ⟨p, h1, h2⟩)
  · exact S.bad h
  · obtain ⟨_, a, r, ha, hr, ht⟩ := S.of_has K h1
    obtain ⟨_, a', r', ha', hr', ht'⟩ := S.of_has K h2
    obtain rfl := K _ _ _ ha ha'
    obtain rfl := hr.one hr'
    omega
/-- A node that stands alone. -/
structure Iso (N : Nat → Prop) (up : Nat → Option Nat) (ps : List (Pl × Nat)) (a : Nat) : Prop where
  nd : N a
  top : up a = none
  lone : ∀ b, Rt up b a → b = a
  off : ∀ p b, (p, b) ∈ ps → b ≠ a
/-- A node that stands for what was found in a rule. -/
def Src (N : Nat → Prop) (up : Nat → Option Nat) (ty : Nat → Int) (ps : List (Pl × Nat)) (a : Nat) : Sr → Prop
  | .any => Iso N up ps a ∧ ty a = 0
  | .ty t => Iso N up ps a ∧ ty a = t ∧ t ≠ 0
  | .pl p => (p, a) ∈ ps
theorem Iso.rt {N : Nat → Prop} {up : Nat → Option Nat} {ps : List (Pl × Nat)} {a r : Nat} (h : Iso N up ps a) (k : Rt up a r) : r = a := (Rt.one (.top h.top) k).symm
theorem Iso.far {N : Nat → Prop} {up : Nat → Option Nat} {ps : List (Pl × Nat)} {a r b : Nat} {p : Pl} (h : Iso N up ps a) (hp : (p, b) ∈ ps) (k : Rt up b r) : r ≠ a := by
  rintro rfl
  exact h.off _ _ hp (h.lone _ k)
theorem setTy_at (ty : Nat → Int) (r : Nat) (v : Int) : setTy ty r v r = v := by unfold setTy; rw [if_pos rfl]
theorem setTy_off (ty : Nat → Int) {r k : Nat} (v : Int) (h : k ≠ r) : setTy ty r v k = ty k := by unfold setTy; rw [if_neg h]
section
variable {N : Nat → Prop} {up up' : Nat → Option Nat} {ty : Nat → Int} {ps : List (Pl × Nat)} {cs : List Cn}
/-- A node that stands alone is given a type: no place hears of it. -/
theorem Sm.iso (S : Sm N up ty ps cs) {a : Nat} (hi : Iso N up ps a) (hrt : ∀ c s, Rt up' c s ↔ Rt up c s) (v : Int) : Sm N up' (setTy ty a v) ps cs where
  say p t h := by
    obtain ⟨h0, b, r, hb, hr, ht⟩ := S.say p t h
    exact ⟨h0, b, r, hb, (hrt _ _).2 hr, by rw [setTy_off _ _ (hi.far hb hr)]; exact ht⟩
  eq p q h := by
    obtain ⟨b, c, r, hb, hc, h1, h2⟩ := S.eq p q h
    exact ⟨b, c, r, hb, hc, (hrt _ _).2 h1, (hrt _ _).2 h2⟩
  bad := S.bad
  conn p b q c r hb hc h1 h2 := S.conn p b q c r hb hc ((hrt _ _).1 h1) ((hrt _ _).1 h2)
  has p b r hb hr := by
    have hr' := (hrt _ _).1 hr
    rw [setTy_off _ _ (hi.far hb hr')]
    exact S.has p b r hb hr'
theorem Sm.same (S : Sm N up ty ps cs) (hrt : ∀ c s, Rt up' c s ↔ Rt up c s) : Sm N up' ty ps cs where
  say p t h := by
    obtain ⟨h0, b, r, hb, hr, ht⟩ := S.say p t h
    exact ⟨h0, b, r, hb, (hrt _ _).2 hr, ht⟩
  eq p q h := by
    obtain ⟨b, c, r, hb, hc, h1, h2⟩ := S.eq p q h
    exact ⟨b, c, r, hb, hc, (hrt _ _).2 h1, (hrt _ _).2 h2⟩
  bad := S.bad
  conn p b q c r hb hc h1 h2 := S.conn p b q c r hb hc ((hrt _ _).1 h1) ((hrt _ _).1 h2)
  has p b r hb hr := S.has p b r hb ((hrt _ _).1 hr)
theorem mem_l {l r : List Cn} : ∀ c ∈ l, c ∈ l ++ r := fun _ h => List.mem_append_left _ h
theorem torn_two {cs : List Cn} {x t : Int} {p : Pl} (hx : x = 0 ∨ x = 1 ∨ x = 2) (ht : t = 0 ∨ t = 1 ∨ t = 2) (hx0 : x ≠ 0) (ht0 : t ≠ 0) (hne : x ≠ t) (h1 : Has cs x p) (h2 : Has cs t p) : Torn cs := by
  have : (x = 1 ∧ t = 2) ∨ (x = 2 ∧ t = 1) := by omega
  rcases this with ⟨rfl, rfl⟩ | ⟨rfl, rfl⟩
  · exact .inr ⟨p, h1, h2⟩
  · exact .inr ⟨p, h2, h1⟩
theorem sayOk_f {x t : Int} (h : sayOk x t = false) : t ≠ 0 ∧ x ≠ t ∧ x ≠ 0 := by
  unfold sayOk at h
  simp only [Bool.or_eq_false_iff, decide_eq_false_iff_not] at h
  exact ⟨h.1.1, h.1.2, h.2⟩
theorem sayOk_t {x t : Int} (h : sayOk x t = true) : t = 0 ∨ x = t ∨ x = 0 := by
  unfold sayOk at h
  simp only [Bool.or_eq_true, decide_eq_true_eq] at h
  rcases h with (h | h) | h
  · exact .inl h
  · exact .inr (.inl h)
  · exact .inr (.inr h)
/-- What is said of a node that stands for something. -/
theorem sm_say (S : Sm N up ty ps cs) (T : Ty3 N ty) {a r : Nat} {s : Sr} {t : Int} (hs : Src N up ty ps a s) (hr : Rt up a r) (hn : N r) (ht : t = 1 ∨ t = 2) (hrt : ∀ c s, Rt up' c s ↔ Rt up c s) :
    (sayOk (ty r) t = true → Sm N up' (setTy ty r (sayTy (ty r) t)) ps (cs ++ saySr s t)) ∧ (sayOk (ty r) t = false → Torn (cs ++ saySr s t)) := by
  cases s with
  | any =>
    obtain ⟨hi, h0⟩ := hs
    obtain rfl := hi.rt hr
    refine ⟨fun _ => ?_, fun h => absurd h0 (sayOk_f h).2.2⟩
    simp only [saySr, List.append_nil]
    exact S.iso hi hrt _
  | ty u =>
    obtain ⟨hi, h0, hu⟩ := hs
    obtain rfl := hi.rt hr
    refine ⟨fun h => ?_, fun h => .inl ?_⟩
    · have e : u = t := by rcases sayOk_t h with h | h | h <;> omega
      rw [show saySr (.ty u) t = [] by rw [saySr, if_pos e], List.append_nil]
      exact S.iso hi hrt _
    · obtain ⟨h1, h2, h3⟩ := sayOk_f h
      rw [saySr, if_neg (by omega)]
      simp
  | pl p =>
    have hs' : (p, a) ∈ ps := hs
    refine ⟨fun h => ?_, fun h => ?_⟩
    · have hv : sayTy (ty r) t = t := by
        unfold sayTy
        rcases sayOk_t h with h | h | h <;> split <;> omega
      have hk : ∀ k, ty k ≠ 0 → setTy ty r (sayTy (ty r) t) k = ty k := by
        intro k hk0
        by_cases e : k = r
        · subst e
          rw [setTy_at, hv]
          rcases sayOk_t h with h | h | h <;> omega
        · exact setTy_off _ _ e
      refine ⟨?_, ?_, ?_, ?_, ?_⟩
      · intro q u hq
        rcases List.mem_append.1 hq with hq | hq
        · obtain ⟨h0, b, r', hb, hr', h1⟩ := S.say q u hq
          exact ⟨h0, b, r', hb, (hrt _ _).2 hr', by rw [hk _ (by omega)]; exact h1⟩
        · simp only [saySr, List.mem_singleton, Cn.say.injEq] at hq
          obtain ⟨rfl, rfl⟩ := hq
          exact ⟨by omega, a, r, hs', (hrt _ _).2 hr, by rw [setTy_at]; exact hv⟩
      · intro q q' hq
        rcases List.mem_append.1 hq with hq | hq
        · obtain ⟨b, c, r', hb, hc, h1, h2⟩ := S.eq q q' hq
          exact ⟨b, c, r', hb, hc, (hrt _ _).2 h1, (hrt _ _).2 h2⟩
        · simp [saySr] at hq
      · intro hb
        rcases List.mem_append.1 hb with hb | hb
        · exact S.bad hb
        · simp [saySr] at hb
      · intro q b q' c r' hb hc h1 h2
        exact (S.conn q b q' c r' hb hc ((hrt _ _).1 h1) ((hrt _ _).1 h2)).mono mem_l
      · intro q b r' hb hr' h0
        have hr2 := (hrt _ _).1 hr'
        by_cases e : r' = r
        · subst e
          rw [setTy_at, hv]
          exact Has.conn ((S.conn q b p a r' hb hs' hr2 hr).mono mem_l) (.say (by simp [saySr]))
        · rw [setTy_off _ _ e] at h0 ⊢
          exact (S.has q b r' hb hr2 h0).mono mem_l
    · obtain ⟨h1, h2, h3⟩ := sayOk_f h
      exact torn_two (T r hn) (by omega) h3 h1 h2 ((S.has p a r hs' hr h3).mono mem_l) (.say (by simp [saySr]))
/-- Two that are of one class already. -/
theorem sm_join_same (S : Sm N up ty ps cs) {a b x : Nat} {s u : Sr} (hs : Src N up ty ps a s) (hu : Src N up ty ps b u) (ha : Rt up a x) (hb : Rt up b x) (hrt : ∀ c s, Rt up' c s ↔ Rt up c s) : Sm N up' ty ps (cs ++ joinSr s u) := by
  have none : joinSr s u = [] → Sm N up' ty ps (cs ++ joinSr s u) := fun e => by rw [e, List.append_nil]; exact S.same hrt
  cases s with
  | any => exact none rfl
  | ty t =>
    obtain ⟨hi, h0, ht⟩ := hs
    obtain rfl := hi.rt ha
    cases u with
    | any => exact none rfl
    | ty v =>
      obtain ⟨hi2, h2, hv⟩ := hu
      obtain rfl := hi2.rt hb
      exact none (by rw [joinSr, if_pos (by omega)])
    | pl q => exact absurd rfl (hi.far hu hb)
  | pl p =>
    have hs' : (p, a) ∈ ps := hs
    cases u with
    | any => exact none rfl
    | ty v =>
      obtain ⟨hi2, h2, hv⟩ := hu
      obtain rfl := hi2.rt hb
      exact absurd rfl (hi2.far hs' ha)
    | pl q =>
      have hu' : (q, b) ∈ ps := hu
      have S' := S.same hrt
      refine ⟨?_, ?_, ?_, ?_, ?_⟩
      · intro p' t h
        rcases List.mem_append.1 h with h | h
        · exact S'.say p' t h
        · simp [joinSr] at h
      · intro p' q' h
        rcases List.mem_append.1 h with h | h
        · exact S'.eq p' q' h
        · simp only [joinSr, List.mem_singleton, Cn.eq.injEq] at h
          obtain ⟨rfl, rfl⟩ := h
          exact ⟨a, b, x, hs', hu', (hrt _ _).2 ha, (hrt _ _).2 hb⟩
      · intro h
        rcases List.mem_append.1 h with h | h
        · exact S.bad h
        · simp [joinSr] at h
      · intro p' c q' d r hc hd h1 h2
        exact (S'.conn p' c q' d r hc hd h1 h2).mono mem_l
      · intro p' c r hc hr h0
        exact (S'.has p' c r hc hr h0).mono mem_l
/-- A node that stands for something, and the type of its class. -/
theorem src_cases {a x : Nat} {s : Sr} (S : Sm N up ty ps cs) (hs : Src N up ty ps a s) (ha : Rt up a x) :
    (s = .any ∧ ty x = 0 ∧ (∀ p c, (p, c) ∈ ps → ¬ Rt up c x)) ∨ (∃ t, s = .ty t ∧ t ≠ 0 ∧ ty x = t ∧ (∀ p c, (p, c) ∈ ps → ¬ Rt up c x)) ∨ ∃ p, s = .pl p ∧ (p, a) ∈ ps ∧ (∀ q c, (q, c) ∈ ps → Rt up c x → Conn cs q p) ∧ (ty x ≠ 0 → Has cs (ty x) p) := by
  cases s with
  | any =>
    obtain ⟨hi, h0⟩ := hs
    obtain rfl := hi.rt ha
    exact .inl ⟨rfl, h0, fun p c hc hr => hi.far hc hr rfl⟩
  | ty t =>
    obtain ⟨hi, h0, h1⟩ := hs
    obtain rfl := hi.rt ha
    exact .inr (.inl ⟨t, rfl, h1, h0, fun p c hc hr => hi.far hc hr rfl⟩)
  | pl p => exact .inr (.inr ⟨p, rfl, hs, fun q c hc hr => S.conn q c p a x hc hs hr ha, fun h => S.has p a x hs ha h⟩)
/-- Two classes become one. -/
theorem sm_join (S : Sm N up ty ps cs) (T : Ty3 N ty) {a b x y : Nat} {s u : Sr} (hs : Src N up ty ps a s) (hu : Src N up ty ps b u) (ha : Rt up a x) (hb : Rt up b y) (hx : N x) (hy : N y) (hxy : x ≠ y)
    (hrt : ∀ c s, Rt up' c s ↔ (Rt up c s ∧ s ≠ x) ∨ (Rt up c x ∧ s = y)) :
    (sayOk (ty y) (ty x) = true → Sm N up' (setTy ty y (sayTy (ty y) (ty x))) ps (cs ++ joinSr s u)) ∧ (sayOk (ty y) (ty x) = false → Torn (cs ++ joinSr s u)) := by
  have hsc := src_cases S hs ha
  have huc := src_cases S hu hb
  refine ⟨fun hok => ?_, fun hno => ?_⟩
  · have hzy : ty y ≠ 0 → sayTy (ty y) (ty x) = ty y := by
      intro h; unfold sayTy; rw [if_neg h]
    have hzx : ty x ≠ 0 → sayTy (ty y) (ty x) = ty x := by
      intro h; unfold sayTy
      split
      · rfl
      · rcases sayOk_t hok with h | h | h <;> omega
    have hz0 : sayTy (ty y) (ty x) ≠ 0 → ty x ≠ 0 ∨ ty y ≠ 0 := by
      intro h; unfold sayTy at h
      split at h
      · exact .inl h
      · exact .inr h
    -- the new node of a node that spoke for a class
    have key : ∀ c r, Rt up c r → ∃ r', Rt up' c r' ∧ (r = x → r' = y) ∧ (r ≠ x → r' = r) ∧ (ty r ≠ 0 → setTy ty y (sayTy (ty y) (ty x)) r' = ty r) := by
      intro c r h
      by_cases e : r = x
      · subst e
        exact ⟨y, (hrt _ _).2 (.inr ⟨h, rfl⟩), fun _ => rfl, fun h => absurd rfl h, fun h0 => by rw [setTy_at]; exact hzx h0⟩
      · refine ⟨r, (hrt _ _).2 (.inl ⟨h, e⟩), fun h => absurd h e, fun _ => rfl, fun h0 => ?_⟩
        by_cases e2 : r = y
        · subst e2
          rw [setTy_at]; exact hzy h0
        · exact setTy_off _ _ e2
    have ha' : Rt up' a y := (hrt _ _).2 (.inr ⟨ha, rfl⟩)
    have hb' : Rt up' b y := (hrt _ _).2 (.inl ⟨hb, fun e => hxy e.symm⟩)
    refine ⟨?_, ?_, ?_, ?_, ?_⟩
    · intro p t h
      rcases List.mem_append.1 h with h | h
      · obtain ⟨h0, c, r, hc, hr, ht⟩ := S.say p t h
        obtain ⟨r', hr', _, _, hk⟩ := key c r hr
        exact ⟨h0, c, r', hc, hr', by rw [hk (by omega)]; exact ht⟩
      · rcases hsc with ⟨rfl, _⟩ | ⟨v, rfl, hv0, hv, _⟩ | ⟨p0, rfl, hp0, _, _⟩
        · simp [joinSr] at h
        · rcases huc with ⟨rfl, _⟩ | ⟨v', rfl, hv0', hv', _⟩ | ⟨q0, rfl, hq0, _, _⟩
          · simp [joinSr] at h
          · simp only [joinSr] at h
            split at h <;> simp at h
          · simp only [joinSr, List.mem_singleton, Cn.say.injEq] at h
            obtain ⟨rfl, rfl⟩ := h
            exact ⟨hv0, b, y, hq0, hb', by rw [setTy_at, hzx (by omega)]; exact hv⟩
        · rcases huc with ⟨rfl, _⟩ | ⟨v', rfl, hv0', hv', _⟩ | ⟨q0, rfl, hq0, _, _⟩
          · simp [joinSr] at h
          · simp only [joinSr, List.mem_singleton, Cn.say.injEq] at h
            obtain ⟨rfl, rfl⟩ := h
            exact ⟨hv0', a, y, hp0, ha', by rw [setTy_at, hzy (by omega)]; exact hv'⟩
          · simp [joinSr] at h
    · intro p q h
      rcases List.mem_append.1 h with h | h
      · obtain ⟨c, d, r, hc, hd, h1, h2⟩ := S.eq p q h
        obtain ⟨r1, hr1, k1, k2, _⟩ := key c r h1
        obtain ⟨r2, hr2, k3, k4, _⟩ := key d r h2
        have : r1 = r2 := by
          by_cases e : r = x
          · rw [k1 e, k3 e]
          · rw [k2 e, k4 e]
        subst this
        exact ⟨c, d, r1, hc, hd, hr1, hr2⟩
      · rcases hsc with ⟨rfl, _⟩ | ⟨v, rfl, hv0, hv, _⟩ | ⟨p0, rfl, hp0, _, _⟩
        · simp [joinSr] at h
        · rcases huc with ⟨rfl, _⟩ | ⟨v', rfl, hv0', hv', _⟩ | ⟨q0, rfl, hq0, _, _⟩
          · simp [joinSr] at h
          · simp only [joinSr] at h
            split at h <;> simp at h
          · simp [joinSr] at h
        · rcases huc with ⟨rfl, _⟩ | ⟨v', rfl, hv0', hv', _⟩ | ⟨q0, rfl, hq0, _, _⟩
          · simp [joinSr] at h
          · simp [joinSr] at h
          · simp only [joinSr, List.mem_singleton, Cn.eq.injEq] at h
            obtain ⟨rfl, rfl⟩ := h
            exact ⟨a, b, y, hp0, hq0, ha', hb'⟩
    · intro h
      rcases List.mem_append.1 h with h | h
      · exact S.bad h
      · rcases hsc with ⟨rfl, _⟩ | ⟨v, rfl, hv0, hv, _⟩ | ⟨p0, rfl, hp0, _, _⟩
        · simp [joinSr] at h
        · rcases huc with ⟨rfl, _⟩ | ⟨v', rfl, hv0', hv', _⟩ | ⟨q0, rfl, hq0, _, _⟩
          · simp [joinSr] at h
          · have e : v = v' := by rcases sayOk_t hok with h | h | h <;> omega
            rw [joinSr, if_pos e] at h
            simp at h
          · simp [joinSr] at h
        · rcases huc with ⟨rfl, _⟩ | ⟨v', rfl, hv0', hv', _⟩ | ⟨q0, rfl, hq0, _, _⟩
          · simp [joinSr] at h
          · simp [joinSr] at h
          · simp [joinSr] at h
    · intro p c q d r hc hd h1 h2
      have two : ∀ p c q d, (p, c) ∈ ps → (q, d) ∈ ps → Rt up c x → Rt up d y → Conn (cs ++ joinSr s u) p q := by
        intro p c q d hc hd h1 h2
        rcases hsc with ⟨rfl, _, hn⟩ | ⟨v, rfl, _, _, hn⟩ | ⟨p0, rfl, hp0, hcn, _⟩
        · exact absurd h1 (hn _ _ hc)
        · exact absurd h1 (hn _ _ hc)
        · rcases huc with ⟨rfl, _, hn⟩ | ⟨v, rfl, _, _, hn⟩ | ⟨q0, rfl, hq0, hcn', _⟩
          · exact absurd h2 (hn _ _ hd)
          · exact absurd h2 (hn _ _ hd)
          · exact ((hcn p c hc h1).mono mem_l).trans (.left (by simp [joinSr]) ((hcn' q d hd h2).symm.mono mem_l))
      rcases (hrt _ _).1 h1 with ⟨h1, e1⟩ | ⟨h1, rfl⟩
      · rcases (hrt _ _).1 h2 with ⟨h2, e2⟩ | ⟨h2, rfl⟩
        · exact (S.conn p c q d r hc hd h1 h2).mono mem_l
        · exact (two q d p c hd hc h2 h1).symm
      · rcases (hrt _ _).1 h2 with ⟨h2, e2⟩ | ⟨h2, _⟩
        · exact two p c q d hc hd h1 h2
        · exact (S.conn p c q d x hc hd h1 h2).mono mem_l
    · intro p c r hc hr h0
      rcases (hrt _ _).1 hr with ⟨h1, e1⟩ | ⟨h1, rfl⟩
      · by_cases e : r = y
        · subst e
          rw [setTy_at] at h0 ⊢
          by_cases hy0 : ty r = 0
          · have hx0 : ty x ≠ 0 := (hz0 h0).resolve_right (fun h => h hy0)
            rw [hzx hx0]
            rcases huc with ⟨rfl, _, hn⟩ | ⟨v, rfl, _, _, hn⟩ | ⟨q0, rfl, hq0, hcn', _⟩
            · exact absurd h1 (hn _ _ hc)
            · exact absurd h1 (hn _ _ hc)
            · refine Has.conn ((hcn' p c hc h1).mono mem_l) ?_
              rcases hsc with ⟨rfl, hv, _⟩ | ⟨v, rfl, hv0, hv, _⟩ | ⟨p0, rfl, hp0, hcn, hh⟩
              · exact absurd hv hx0
              · exact .say (by simp [joinSr, hv])
              · exact .right (q := p0) (by simp [joinSr]) ((hh hx0).mono mem_l)
          · rw [hzy hy0]
            exact (S.has p c r hc h1 hy0).mono mem_l
        · rw [setTy_off _ _ e] at h0 ⊢
          exact (S.has p c r hc h1 h0).mono mem_l
      · rw [setTy_at] at h0 ⊢
        by_cases hx0 : ty x = 0
        · have hy0 : ty r ≠ 0 := (hz0 h0).resolve_left (fun h => h hx0)
          rw [hzy hy0]
          rcases hsc with ⟨rfl, _, hn⟩ | ⟨v, rfl, _, _, hn⟩ | ⟨p0, rfl, hp0, hcn, _⟩
          · exact absurd h1 (hn _ _ hc)
          · exact absurd h1 (hn _ _ hc)
          · refine Has.conn ((hcn p c hc h1).mono mem_l) ?_
            rcases huc with ⟨rfl, hv, _⟩ | ⟨v, rfl, hv0, hv, _⟩ | ⟨q0, rfl, hq0, hcn', hh⟩
            · exact absurd hv hy0
            · exact .say (by simp [joinSr, hv])
            · exact .left (q := q0) (by simp [joinSr]) ((hh hy0).mono mem_l)
        · rw [hzx hx0]
          exact (S.has p c x hc h1 hx0).mono mem_l
  · obtain ⟨hx0, hne, hy0⟩ := sayOk_f hno
    rcases hsc with ⟨rfl, hv, _⟩ | ⟨v, rfl, hv0, hv, _⟩ | ⟨p0, rfl, hp0, hcn, hh⟩
    · exact absurd hv hx0
    · rcases huc with ⟨rfl, hv', _⟩ | ⟨v', rfl, hv0', hv', _⟩ | ⟨q0, rfl, hq0, hcn', hh'⟩
      · exact absurd hv' hy0
      · exact .inl (by rw [joinSr, if_neg (by omega)]; simp)
      · exact torn_two (T _ hy) (T _ hx) hy0 hx0 hne ((hh' hy0).mono mem_l) (.say (by simp [joinSr, hv]))
    · rcases huc with ⟨rfl, hv', _⟩ | ⟨v', rfl, hv0', hv', _⟩ | ⟨q0, rfl, hq0, hcn', hh'⟩
      · exact absurd hv' hy0
      · exact torn_two (T _ hy) (T _ hx) hy0 hx0 hne (.say (by simp [joinSr, hv'])) ((hh hx0).mono mem_l)
      · exact torn_two (T _ hy) (T _ hx) hy0 hx0 hne ((hh' hy0).mono mem_l) (.right (q := p0) (by simp [joinSr]) ((hh hx0).mono mem_l))
end
end Go.Proofs.YtafjjececdhmjaaGreat

namespace Go.Proofs.YtafjjececdhmjaaGreat
open Go.RowKit

def plV (p : Pl) : Value := .agg #[.int .i64 p.rule, .string p.name, .int .i64 p.col]
/-- A graph: its nodes, where they point to, their types, the places' nodes, whether it is torn. -/
structure Gs where
  N : Nat → Prop
  up : Nat → Option Nat
  ty : Nat → Int
  ps : List (Pl × Nat)
  tn : Bool
/-- A node that lies in memory as a place's. -/
def SpotAt (w : World) (x : Pl × Nat) : Prop := ∃ (cs : Array Value) (t : TypeId), w.heap[x.2]? = some (.cells cs t (0, 0)) ∧ cs.size = 5 ∧ cs[2]? = some (.int .i64 x.1.rule) ∧ cs[3]? = some (.string x.1.name) ∧ cs[4]? = some (.int .i64 x.1.col)
/-- A graph in memory that says what is told. -/
structure Gst (b0 g m : Nat) (Kn : Pl → Prop) (cs : List Cn) (s : Gs) (w : World) : Prop where
  gb : ∃ t, w.heap[g]? = some (.cells #[.map (some m), .bool s.tn] t (0, 0))
  mb : ∃ es clock, w.heap[m]? = some (.map es clock) ∧ es.toList.map (fun e => (e.key, e.val)) = s.ps.map (fun x => (plV x.1, ptrOf x.2)) ∧ MapKept.Stamped es clock
  lo : b0 ≤ g ∧ b0 ≤ m ∧ ∀ a, s.N a → b0 ≤ a
  fo : Fo w s.N s.up s.ty
  fa : ∃ rk, Falls s.up rk
  out : ∀ a, ¬ s.N a → s.up a = none
  t3 : Ty3 s.N s.ty
  nt : ∀ x ∈ s.ps, s.N x.2 ∧ Kn x.1 ∧ SpotAt w x
  key : KeyOne s.ps
  sm0 : s.tn = false → Sm s.N s.up s.ty s.ps cs
  sm1 : s.tn = true → Torn cs
/-- What work on the graph leaves: the places that there are, and the nodes that stand alone and were not used up. -/
structure Keeps (D : Nat → Prop) (s s' : Gs) : Prop where
  ps : ∀ x ∈ s.ps, x ∈ s'.ps
  iso : ∀ c, ¬ D c → Iso s.N s.up s.ps c → Iso s'.N s'.up s'.ps c ∧ s'.ty c = s.ty c
theorem Keeps.refl (D : Nat → Prop) (s : Gs) : Keeps D s s := ⟨fun _ h => h, fun _ _ h => ⟨h, rfl⟩⟩
theorem Keeps.trans {D D' : Nat → Prop} {a b c : Gs} (h : Keeps D a b) (k : Keeps D' b c) (hd : ∀ i, D' i → D i) : Keeps D a c :=
  ⟨fun x hx => k.ps x (h.ps x hx), fun i hi ho => by
    obtain ⟨h1, h2⟩ := h.iso i hi ho
    obtain ⟨h3, h4⟩ := k.iso i (fun h => hi (hd i h)) h1
    exact ⟨h3, h4.trans h2⟩⟩
theorem Keeps.mono {D D' : Nat → Prop} {a b : Gs} (h : Keeps D a b) (hd : ∀ i, D i → D' i) : Keeps D' a b := ⟨h.ps, fun i hi => h.iso i (fun h => hi (hd i h))⟩
def SrcG (s : Gs) (a : Nat) (x : Sr) : Prop := Src s.N s.up s.ty s.ps a x
theorem Keeps.src {D : Nat → Prop} {s s' : Gs} (h : Keeps D s s') {a : Nat} {x : Sr} (hd : ¬ D a) (k : SrcG s a x) : SrcG s' a x := by
  cases x with
  | any =>
    obtain ⟨h1, h2⟩ := k
    obtain ⟨h3, h4⟩ := h.iso a hd h1
    exact ⟨h3, h4.trans h2⟩
  | ty t =>
    obtain ⟨h1, h2, h5⟩ := k
    obtain ⟨h3, h4⟩ := h.iso a hd h1
    exact ⟨h3, h4.trans h2, h5⟩
  | pl p => exact h.ps _ k
theorem SrcG.nd {b0 g m : Nat} {Kn : Pl → Prop} {cs : List Cn} {s : Gs} {w : World} (h : Gst b0 g m Kn cs s w) {a : Nat} {x : Sr} (k : SrcG s a x) : s.N a := by
  cases x with
  | any => exact k.1.nd
  | ty t => exact k.1.nd
  | pl p => exact (h.nt _ k).1
theorem Gst.ng {b0 g m : Nat} {Kn : Pl → Prop} {cs : List Cn} {s : Gs} {w : World} (h : Gst b0 g m Kn cs s w) : ¬ s.N g := by
  intro hn
  obtain ⟨t, hb⟩ := h.gb
  obtain ⟨c, t2, hb2, h0, _⟩ := h.fo.bk g hn
  rw [hb] at hb2
  injection hb2 with e
  injection e with e1
  subst e1
  cases hu : s.up g <;> rw [hu] at h0 <;> simp [upV] at h0
theorem Gst.nm {b0 g m : Nat} {Kn : Pl → Prop} {cs : List Cn} {s : Gs} {w : World} (h : Gst b0 g m Kn cs s w) : ¬ s.N m := by
  intro hn
  obtain ⟨es, clock, hb, _⟩ := h.mb
  obtain ⟨c, t2, hb2, h0, _⟩ := h.fo.bk m hn
  rw [hb] at hb2
  injection hb2 with e
  cases e
theorem Gst.gm {b0 g m : Nat} {Kn : Pl → Prop} {cs : List Cn} {s : Gs} {w : World} (h : Gst b0 g m Kn cs s w) : g ≠ m := by
  rintro rfl
  obtain ⟨es, clock, hb, _⟩ := h.mb
  obtain ⟨t, hb2⟩ := h.gb
  rw [hb] at hb2
  injection hb2 with e
  cases e
/-- The constraints in another order, or some of them twice. -/
theorem Has.same {cs cs' : List Cn} (h : ∀ c, c ∈ cs ↔ c ∈ cs') {t : Int} {p : Pl} (k : Has cs t p) : Has cs' t p := k.mono fun c => (h c).1
theorem Gst.same {b0 g m : Nat} {Kn : Pl → Prop} {cs cs' : List Cn} {s : Gs} {w : World} (h : Gst b0 g m Kn cs s w) (e : ∀ c, c ∈ cs ↔ c ∈ cs') : Gst b0 g m Kn cs' s w :=
  { h with
    sm0 := fun h0 => by
      have S := h.sm0 h0
      exact ⟨fun p t hp => S.say p t ((e _).2 hp), fun p q hp => S.eq p q ((e _).2 hp), fun hb => S.bad ((e _).2 hb), fun p a q b r h1 h2 h3 h4 => (S.conn p a q b r h1 h2 h3 h4).mono fun c => (e c).1, fun p a r h1 h2 h3 => (S.has p a r h1 h2 h3).mono fun c => (e c).1⟩
    sm1 := fun h1 => (h.sm1 h1).mono fun c => (e c).1 }
theorem SpotAt.nf {N : Nat → Prop} {w w' : World} {x : Pl × Nat} (h : SpotAt w x) (hx : N x.2) (k : Nf N w w') : SpotAt w' x := by
  obtain ⟨cs, t, hb, h1, h2, h3, h4⟩ := h
  obtain ⟨cs', hb', hs, hq⟩ := k.rest x.2 hx cs t (0, 0) hb
  exact ⟨cs', t, hb', hs.trans h1, (hq 2 (by omega)).trans h2, (hq 3 (by omega)).trans h3, (hq 4 (by omega)).trans h4⟩
theorem Nf.below {N : Nat → Prop} {w w' : World} {b0 : Nat} (h : Nf N w w') (hb : ∀ a, N a → b0 ≤ a) : Below b0 w w' :=
  ⟨h.os, h.tape, h.output, Nat.le_of_eq h.size.symm, fun k hk => h.block k fun hn => by have := hb k hn; omega⟩
theorem Fo.off {w : World} {N : Nat → Prop} {up : Nat → Option Nat} {ty : Nat → Int} (h : Fo w N up ty) {w' : World} (hb : ∀ a, N a → w'.heap[a]? = w.heap[a]?) : Fo w' N up ty :=
  ⟨fun a ha => by rw [hb a ha]; exact h.bk a ha, h.cl⟩
theorem SpotAt.off {w w' : World} {x : Pl × Nat} (h : SpotAt w x) (hb : w'.heap[x.2]? = w.heap[x.2]?) : SpotAt w' x := by
  obtain ⟨cs, t, h1⟩ := h
  exact ⟨cs, t, by rw [hb]; exact h1⟩
/-- The graph after work on its nodes: the graph's own cells stand. -/
theorem Gst.nodes {b0 g m : Nat} {Kn : Pl → Prop} {cs cs' : List Cn} {s : Gs} {w w' : World} (h : Gst b0 g m Kn cs s w) {up' : Nat → Option Nat} {ty' : Nat → Int} {rk' : Nat → Nat} {tn' : Bool}
    (hf : Falls up' rk') (ho : ∀ a, ¬ s.N a → up' a = none) (h3 : Ty3 s.N ty') (hfo : Fo w' s.N up' ty') (hn : Nf s.N w w') (hs0 : tn' = false → Sm s.N up' ty' s.ps cs') (hs1 : tn' = true → Torn cs') :
    Gst b0 g m Kn cs' { s with up := up', ty := ty', tn := tn' } (w'.setCell ⟨g, 1, none⟩ (.bool tn')) := by
  obtain ⟨t, hg⟩ := h.gb
  obtain ⟨es, clock, hm, he, hst⟩ := h.mb
  have hg' : w'.heap[g]? = some (.cells #[.map (some m), .bool s.tn] t (0, 0)) := (hn.block g h.ng).trans hg
  have hoff : ∀ a, a ≠ g → (w'.setCell ⟨g, 1, none⟩ (.bool tn')).heap[a]? = w'.heap[a]? := fun a ha => Below.heap_setCell w' ⟨g, 1, none⟩ _ a ha
  have hnd : ∀ a, s.N a → a ≠ g := fun a ha e => h.ng (e ▸ ha)
  refine ⟨⟨t, ?_⟩, ⟨es, clock, ?_, he, hst⟩, h.lo, hfo.off fun a ha => hoff a (hnd a ha), ⟨rk', hf⟩, ho, h3, fun x hx => ?_, h.key, hs0, hs1⟩
  · simp [World.setCell, Array.getElem?_modify, hg']
  · exact (hoff m (Ne.symm h.gm)).trans ((hn.block m h.nm).trans hm)
  · obtain ⟨h1, h2, h4⟩ := h.nt x hx
    exact ⟨h1, h2, (h4.nf h1 hn).off (hoff _ (hnd _ h1))⟩
theorem up_none {up up' : Nat → Option Nat} {k : Nat} (h : up k = none) (hr : Rt up' k k ↔ Rt up k k) : up' k = none := (hr.2 (.top h)).root
theorem Ty3.set {N : Nat → Prop} {ty : Nat → Int} (h : Ty3 N ty) {r : Nat} {x t : Int} (hx : x = 0 ∨ x = 1 ∨ x = 2) (ht : t = 0 ∨ t = 1 ∨ t = 2) : Ty3 N (setTy ty r (sayTy x t)) := by
  intro a ha
  unfold setTy sayTy
  split
  · split
    · exact ht
    · exact hx
  · exact h a ha
theorem Iso.of {N N' : Nat → Prop} {up up' : Nat → Option Nat} {ps ps' : List (Pl × Nat)} {c : Nat} (h : Iso N up ps c) (hn : N' c) (hrt : ∀ b, Rt up' b c ↔ Rt up b c) (hp : ∀ p b, (p, b) ∈ ps' → b = c → (p, b) ∈ ps) : Iso N' up' ps' c :=
  ⟨hn, ((hrt c).2 (.top h.top)).root, fun b hb => h.lone b ((hrt b).1 hb), fun p b hb e => h.off p b (hp p b hb e) e⟩
/-- What work on the graph leaves of the rest of memory: blocks that are none of the graph's stand; new nodes are new blocks. -/
structure Gfr (g m : Nat) (N N' : Nat → Prop) (w w' : World) : Prop where
  size : w.heap.size ≤ w'.heap.size
  block : ∀ k, k < w.heap.size → ¬ N k → k ≠ g → k ≠ m → w'.heap[k]? = w.heap[k]?
  grow : ∀ k, N' k → N k ∨ w.heap.size ≤ k
theorem Gfr.refl (g m : Nat) (N : Nat → Prop) (w : World) : Gfr g m N N w w := ⟨Nat.le_refl _, fun _ _ _ _ _ => rfl, fun _ h => .inl h⟩
theorem Gfr.trans {g m : Nat} {N N1 N2 : Nat → Prop} {a b c : World} (h : Gfr g m N N1 a b) (k : Gfr g m N1 N2 b c) : Gfr g m N N2 a c :=
  ⟨Nat.le_trans h.size k.size, fun i hi hn hg hm => by
    have h1 : ¬ N1 i := fun h1 => by
      rcases h.grow i h1 with h2 | h2
      · exact hn h2
      · omega
    have := h.size
    exact (k.block i (by omega) h1 hg hm).trans (h.block i hi hn hg hm), fun i hi => by
    have := h.size
    rcases k.grow i hi with h1 | h1
    · exact h.grow i h1
    · exact .inr (by omega)⟩
/-- A block that is none of the graph's. -/
def Apart (g m : Nat) (N : Nat → Prop) (w : World) (k : Nat) : Prop := k < w.heap.size ∧ ¬ N k ∧ k ≠ g ∧ k ≠ m
theorem Gfr.apart {g m : Nat} {N N' : Nat → Prop} {w w' : World} (h : Gfr g m N N' w w') {k : Nat} (hk : Apart g m N w k) : Apart g m N' w' k ∧ w'.heap[k]? = w.heap[k]? :=
  ⟨⟨Nat.lt_of_lt_of_le hk.1 h.size, fun h1 => by
    rcases h.grow k h1 with h2 | h2
    · exact hk.2.1 h2
    · have := hk.1; omega, hk.2.2⟩, h.block k hk.1 hk.2.1 hk.2.2.1 hk.2.2.2⟩
theorem Gfr.of_below {g m : Nat} {N : Nat → Prop} {w w' : World} (h : Below w.heap.size w w') : Gfr g m N N w w' := ⟨h.size, fun k hk _ _ _ => h.block k hk, fun _ h => .inl h⟩
theorem Nf.gfr {g m : Nat} {N : Nat → Prop} {w w' : World} (h : Nf N w w') (v : Value) : Gfr g m N N w (w'.setCell ⟨g, 1, none⟩ v) :=
  ⟨by simp [World.setCell, h.size], fun k _ hn hg _ => (Below.heap_setCell w' ⟨g, 1, none⟩ _ k hg).trans (h.block k hn), fun _ h => .inl h⟩
/-- A node has been told a type. -/
theorem Gst.said {b0 g m : Nat} {Kn : Pl → Prop} {cs : List Cn} {s : Gs} {w w' : World} (h : Gst b0 g m Kn cs s w) {a r : Nat} {x : Sr} (hx : SrcG s a x) {t : Int} (ht : t = 1 ∨ t = 2) {up' : Nat → Option Nat} {rk' : Nat → Nat}
    (hr : s.N r) (har : Rt s.up a r) (hf : Falls up' rk') (hrt : ∀ b c, Rt up' b c ↔ Rt s.up b c) (hfo : Fo w' s.N up' (setTy s.ty r (sayTy (s.ty r) t))) (hn : Nf s.N w w') :
    ∃ s', s'.tn = (!(sayOk (s.ty r) t) || s.tn) ∧ Gst b0 g m Kn (cs ++ saySr x t) s' (w'.setCell ⟨g, 1, none⟩ (.bool (!(sayOk (s.ty r) t) || s.tn))) ∧ Keeps (fun i => i = a) s s' ∧ Below b0 w (w'.setCell ⟨g, 1, none⟩ (.bool (!(sayOk (s.ty r) t) || s.tn))) ∧ Gfr g m s.N s'.N w (w'.setCell ⟨g, 1, none⟩ (.bool (!(sayOk (s.ty r) t) || s.tn))) := by
  refine ⟨{ s with up := up', ty := setTy s.ty r (sayTy (s.ty r) t), tn := !(sayOk (s.ty r) t) || s.tn }, rfl, h.nodes (up' := up') (ty' := setTy s.ty r (sayTy (s.ty r) t)) (tn' := !(sayOk (s.ty r) t) || s.tn) hf (fun k hk => up_none (h.out k hk) (hrt k k)) (h.t3.set (h.t3 r hr) (by omega)) hfo hn (fun h0 => ?_) (fun h1 => ?_), ⟨fun _ h => h, fun c hc hi => ?_⟩, (hn.below h.lo.2.2).setCell h.lo.1 _, hn.gfr _⟩
  · simp only [Bool.or_eq_false_iff, Bool.not_eq_false'] at h0
    exact (sm_say (h.sm0 h0.2) h.t3 hx har hr ht hrt).1 h0.1
  · cases htn : s.tn with
    | true => exact (h.sm1 htn).mono fun c hc => List.mem_append_left _ hc
    | false =>
      rw [htn, Bool.or_false] at h1
      simp only [Bool.not_eq_true'] at h1
      exact (sm_say (h.sm0 htn) h.t3 hx har hr ht hrt).2 h1
  · refine ⟨hi.of hi.nd (fun b => hrt b c) fun p b hb _ => hb, setTy_off _ _ ?_⟩
    rintro rfl
    exact hc (hi.lone a har).symm
/-- Two nodes have been joined. -/
theorem Gst.joined {b0 g m : Nat} {Kn : Pl → Prop} {cs : List Cn} {s : Gs} {w w' : World} (h : Gst b0 g m Kn cs s w) {a b : Nat} {x y : Sr} (hx : SrcG s a x) (hy : SrcG s b y) {e : Ending} (hj : JnPost s.N s.up s.ty a b w e w') :
    ∃ (ok : Bool) (s' : Gs), e = .returned (.bool ok) ∧ w'.cell? ⟨g, 1, none⟩ = some (.bool s.tn) ∧ s'.tn = (!ok || s.tn) ∧ Gst b0 g m Kn (cs ++ joinSr x y) s' (w'.setCell ⟨g, 1, none⟩ (.bool (!ok || s.tn))) ∧ Keeps (fun i => i = a ∨ i = b) s s' ∧ Below b0 w (w'.setCell ⟨g, 1, none⟩ (.bool (!ok || s.tn))) ∧ Gfr g m s.N s'.N w (w'.setCell ⟨g, 1, none⟩ (.bool (!ok || s.tn))) := by
  obtain ⟨r, q, up', rk', hr, hq, har, hbq, hf, hn, hcase⟩ := hj
  have hcell : w'.cell? ⟨g, 1, none⟩ = some (.bool s.tn) := by
    obtain ⟨t, hg⟩ := h.gb
    rw [Lib.cell_of_heap ((hn.block g h.ng).trans hg)]
    rfl
  rcases hcase with ⟨hrq, he, hrt, hfo⟩ | ⟨hrq, he, hrt, hfo⟩
  · subst hrq
    refine ⟨true, { s with up := up', tn := !true || s.tn }, he, hcell, rfl, h.nodes (up' := up') (ty' := s.ty) (tn' := !true || s.tn) hf (fun k hk => up_none (h.out k hk) (hrt k k)) h.t3 hfo hn (fun h0 => ?_) (fun h1 => ?_), ⟨fun _ h => h, fun c hc hi => ?_⟩, (hn.below h.lo.2.2).setCell h.lo.1 _, hn.gfr _⟩
    · exact sm_join_same (h.sm0 (by simpa using h0)) hx hy har hbq hrt
    · exact (h.sm1 (by simpa using h1)).mono fun c hc => List.mem_append_left _ hc
    · exact ⟨hi.of hi.nd (fun b => hrt b c) fun p b hb _ => hb, rfl⟩
  · have hx' : ∀ k, ¬ s.N k → k ≠ r := fun k hk e => hk (e ▸ hr)
    refine ⟨sayOk (s.ty q) (s.ty r), _, he, hcell, rfl, h.nodes (tn' := !(sayOk (s.ty q) (s.ty r)) || s.tn) hf (fun k hk => ((hrt k k).2 (.inl ⟨.top (h.out k hk), hx' k hk⟩)).root) (h.t3.set (h.t3 q hq) (h.t3 r hr)) hfo hn (fun h0 => ?_) (fun h1 => ?_),
      ⟨fun _ h => h, fun c hc hi => ?_⟩, (hn.below h.lo.2.2).setCell h.lo.1 _, hn.gfr _⟩
    · simp only [Bool.or_eq_false_iff, Bool.not_eq_false'] at h0
      exact (sm_join (h.sm0 h0.2) h.t3 hx hy har hbq hr hq hrq hrt).1 h0.1
    · cases htn : s.tn with
      | true => exact (h.sm1 htn).mono fun c hc => List.mem_append_left _ hc
      | false =>
        rw [htn, Bool.or_false] at h1
        simp only [Bool.not_eq_true'] at h1
        exact (sm_join (h.sm0 htn) h.t3 hx hy har hbq hr hq hrq hrt).2 h1
    · have hcr : c ≠ r := by rintro rfl; exact hc (.inl (hi.lone a har).symm)
      have hcq : c ≠ q := by rintro rfl; exact hc (.inr (hi.lone b hbq).symm)
      refine ⟨hi.of hi.nd (fun b => ?_) fun p b hb _ => hb, setTy_off _ _ hcq⟩
      rw [hrt]
      exact ⟨fun k => k.elim (fun k => k.1) (fun k => absurd k.2 hcq), fun k => .inl ⟨k, hcr⟩⟩
/-- What work on the graph leaves. -/
def GPost (b0 g m : Nat) (Kn : Pl → Prop) (cs : List Cn) (D : Nat → Prop) (s : Gs) (w : World) (R : Value → Gs → Prop) (e : Ending) (w' : World) : Prop :=
  ∃ v s', e = .returned v ∧ R v s' ∧ Gst b0 g m Kn cs s' w' ∧ Keeps D s s' ∧ Below b0 w w' ∧ Gfr g m s.N s'.N w w'
def isUnit (v : Value) (_ : Gs) : Prop := v = .tuple #[]
set_option maxHeartbeats 4000000 in
theorem gSay {b0 g m : Nat} {Kn : Pl → Prop} {cs : List Cn} {s : Gs} {w : World} (h : Gst b0 g m Kn cs s w) {a : Nat} {x : Sr} (hx : SrcG s a x) {t : Int} (ht : t = 1 ∨ t = 2) :
    Calls Tryz.prog 44 #[.pointer (some ⟨g, 0, none⟩), .pointer (some ⟨a, 0, none⟩), .int .i8 t] w (GPost b0 g m Kn (cs ++ saySr x t) (fun i => i = a) s w isUnit) := by
  obtain ⟨rk, hfk⟩ := h.fa
  have HC := Lib.hid (tSay s.N s.up s.ty rk a t w h.fo hfk (hx.nd h))
  have HG := Lib.hid h
  have HX := Lib.hid hx
  have HT := Lib.hid ht
  clear h hx ht hfk
  go_enter Tryz.func44, Tryz.ntmps44
  go_wp2_with fail
  refine HC.out.mono ?_
  rintro e w1 ⟨r, up', rfl, hr, hrt, hfa, heq, hfo, hnf⟩
  obtain ⟨tt, hg⟩ := HG.out.gb
  have c1 : w1.cell? ⟨g, 1, none⟩ = some (.bool s.tn) := by
    rw [Lib.cell_of_heap ((hnf.block g HG.out.ng).trans hg)]
    rfl
  have f1 : w1.frozen? ⟨g, 1, none⟩ = false := Lib.frozen_of_heap ((hnf.block g HG.out.ng).trans hg) 1
  have HS := Lib.hid (HG.out.said HX.out HT.out hr hrt hfa heq hfo hnf)
  clear hr hrt hfa heq hfo hnf hg
  have HB := Lib.hid (show ∀ b, b = (!(sayOk (s.ty r) t) || s.tn) → GPost b0 g m Kn (cs ++ saySr x t) (fun i => i = a) s w isUnit (.returned (.tuple #[])) (w1.setCell ⟨g, 1, none⟩ (.bool b)) from fun b e => by
    subst e
    obtain ⟨s', _, h1, h2, h3⟩ := HS.out
    exact ⟨_, s', rfl, rfl, h1, h2, h3⟩)
  cases hok : sayOk (s.ty r) t with
  | true =>
    rw [hok] at HB
    go_wp2_with fail
    go_end0
    exact HB.out _ (by simp)
  | false =>
    rw [hok] at HB
    go_wp2_with fail
    go_end0
    exact HB.out _ (by simp)
set_option maxHeartbeats 4000000 in
theorem gJoin {b0 g m : Nat} {Kn : Pl → Prop} {cs : List Cn} {s : Gs} {w : World} (h : Gst b0 g m Kn cs s w) {a b : Nat} {x y : Sr} (hx : SrcG s a x) (hy : SrcG s b y) :
    Calls Tryz.prog 46 #[.pointer (some ⟨g, 0, none⟩), .pointer (some ⟨a, 0, none⟩), .pointer (some ⟨b, 0, none⟩)] w (GPost b0 g m Kn (cs ++ joinSr x y) (fun i => i = a ∨ i = b) s w isUnit) := by
  obtain ⟨rk, hfk⟩ := h.fa
  have HC := Lib.hid (tJoin s.N s.up s.ty rk a b w h.fo hfk (hx.nd h) (hy.nd h))
  have HJ := Lib.hid (fun e w' => h.joined (e := e) (w' := w') hx hy)
  have HF := Lib.hid (show ∀ w', Nf s.N w w' → w'.frozen? ⟨g, 1, none⟩ = false from fun w' hn => by
    obtain ⟨tt, hg⟩ := h.gb
    exact Lib.frozen_of_heap ((hn.block g h.ng).trans hg) 1)
  clear h hx hy hfk
  go_enter Tryz.func46, Tryz.ntmps46
  go_wp2_with fail
  refine HC.out.mono ?_
  intro e w1 hjn
  have f1 : w1.frozen? ⟨g, 1, none⟩ = false := by
    obtain ⟨_, _, _, _, _, _, _, _, _, hn, _⟩ := hjn
    exact HF.out w1 hn
  obtain ⟨ok, s', rfl, c1, h0, h1, h2, h3⟩ := HJ.out e w1 hjn
  have HB := Lib.hid (show ∀ b', b' = (!ok || s.tn) → GPost b0 g m Kn (cs ++ joinSr x y) (fun i => i = a ∨ i = b) s w isUnit (.returned (.tuple #[])) (w1.setCell ⟨g, 1, none⟩ (.bool b')) from fun b e => by
    subst e
    exact ⟨_, s', rfl, rfl, h1, h2, h3⟩)
  clear hjn h0 h1 h2 h3
  cases ok with
  | true =>
    go_wp2_with fail
    go_end0
    exact HB.out _ (by simp)
  | false =>
    go_wp2_with fail
    go_end0
    exact HB.out _ (by simp)
end Go.Proofs.YtafjjececdhmjaaGreat
