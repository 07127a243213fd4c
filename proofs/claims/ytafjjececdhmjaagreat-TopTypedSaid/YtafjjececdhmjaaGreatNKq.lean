/- Signatures gathered from a map of arities: the state, its steps. The sort of signatures, the search among them: the contracts of Infer's closures, of slices.SortFunc and slices.BinarySearchFunc at them. Conditions: as told. the row lies in memory as it is told. -/
import Derived.Test.YtafjjececdhmjaaGreatNKi
import Derived.Maps.Range
import Derived.Laws.MakeOwn
import Derived.Maps.OwnSet
import Derived.Sort.MapsRangeIn
import Derived.Test.YtafjjececdhmjaaGreatNShelf2
namespace Go.Proofs.YtafjjececdhmjaaGreat
open Go.RowKit Go.Maps

theorem infoTy : (Tryz.prog.info? 48).map (fun i => (i.zero, i.size, i.bytes)) = some (some (.int .i8 0), 1, 1) := by kernel_rfl
theorem infoSg : (Tryz.prog.info? 46).map (fun i => (i.zero, i.size, i.bytes)) = some (some (.agg #[.string ⟨#[]⟩, .slice none 0 0]), 2, 40) := by kernel_rfl
theorem made_ty (n : Nat) : madeCells #[.int .i8 0] n = ((List.replicate n (0 : Int)).map fun c => Value.int .i8 c).toArray := by
  apply Array.ext
  · simp [madeCells]
  · intro i h1 h2
    simp [madeCells, Nat.mod_one]
theorem rep_ty (n : Nat) : ((List.replicate n (0 : Int)).map fun c => Value.int .i8 c).toArray = Array.replicate n (Value.int .i8 0) := by simp
theorem make_ty (n : Nat) (hn : n ≤ 1000) (w : World) : (Instr.makeSlice 44 (.int .i64 (n : Int)) (.int .i64 (n : Int))).run Tryz.prog w = .ok (.slice (some ⟨w.heap.size, 0, none⟩) n n) (w.alloc (.cells (Array.replicate n (Value.int .i8 0)) 48)) := by
  obtain ⟨i, hi, hzz⟩ := Option.map_eq_some_iff.1 infoTy
  simp only [Prod.mk.injEq] at hzz
  obtain ⟨hz, hs, hb⟩ := hzz
  have h := run_makeSlice (P := Tryz.prog) w 44 48 i _ Tryz.underlying44 hi hz .i64 .i64 (n : Int) (n : Int) (by omega) (Int.le_refl _) (by rw [hs]; omega) (by rw [hb]; omega) (by omega)
  rw [h, hs, Int.toNat_natCast, Nat.mul_one, ← rep_ty, ← made_ty]
  rfl
theorem ownR_lt {w : World} {B n k : Nat} {e : TypeId} {v : Value} {xs : List Value} (h : w.ownsRow B e k v n xs) {g : Nat} (hg : v.ownBlock = some g) : B ≤ g ∧ g < w.heap.size := by
  rcases h.2 with ⟨hv, _⟩ | ⟨g', cap, cur, hv, hB, hg2, _⟩
  · rw [hv] at hg; cases hg
  · rw [hv] at hg
    obtain rfl : g' = g := by simpa [Value.ownBlock] using hg
    exact ⟨hB, (Array.getElem?_eq_some_iff.1 hg2).1⟩
theorem ownR_slice {w : World} {B n k : Nat} {e : TypeId} {v : Value} {xs : List Value} (h : w.ownsRow B e k v n xs) : ∃ p cap, v = .slice p n cap := by
  rcases h.2 with ⟨hv, hn⟩ | ⟨g, cap, cur, hv, _⟩
  · exact ⟨none, 0, by rw [hv, hn]⟩
  · exact ⟨_, cap, hv⟩
theorem ownR_alloc {w : World} {B n k : Nat} {e : TypeId} {v : Value} {xs : List Value} (h : w.ownsRow B e k v n xs) (o : Obj) : (w.alloc o).ownsRow B e k v n xs := by
  refine ⟨h.1, ?_⟩
  rcases h.2 with h2 | ⟨g, cap, cur, hv, hB, hg2, h3⟩
  · exact .inl h2
  · exact .inr ⟨g, cap, cur, hv, hB, (Lib.alloc_old w o g (Array.getElem?_eq_some_iff.1 hg2).1).trans hg2, h3⟩
theorem ownR_kept {w w' : World} {B n k : Nat} {e : TypeId} {v : Value} {xs : List Value} {row : Option Nat} (h : w.ownsRow B e k v n xs) (hg : w.grownBy w' row) (hr : v.ownBlock ≠ row ∨ v.ownBlock = none) : w'.ownsRow B e k v n xs := by
  refine ⟨h.1, ?_⟩
  rcases h.2 with h2 | ⟨g, cap, cur, hv, hB, hg2, h3⟩
  · exact .inl h2
  · refine .inr ⟨g, cap, cur, hv, hB, (hg.block g (Array.getElem?_eq_some_iff.1 hg2).1 fun e => ?_).trans hg2, h3⟩
    rcases hr with h4 | h4
    · exact h4 (by rw [hv]; exact e)
    · rw [hv] at h4; cases h4
section
variable {P : Program} {w : World}

theorem app_twoR {base t ty e : Nat} {i : TypeInfo} {z : Value} {size bytes : Nat} (ht : P.underlying t = some (.slice e)) (hi : P.info? e = some i) (hz : i.zero = some z)
    (hsize : i.size = size) (hby : i.bytes = bytes) (hzs : z.cells.size = size) (hsz : 0 < size) {v : Value} {n : Nat} {xs : List Value} (hown : w.ownsRow base e size v n xs)
    {a : Addr} {m c : Nat} {news : List Value} (hl : news.length = m * size) (hnews : ∀ j u, news[j]? = some u → w.cell? (a.add j) = some u) (h1 : ∀ u ∈ news, u.oneCell' = true)
    (h63 : n + m ≤ maxLen) (hbytes : (n + m) * bytes ≤ 140737488355328) {v' : Value} {w' : World} (hr : (Builtin.append_ #[t, t] ty #[v, .slice (some a) m c]).run P w = .ok v' w') :
    v'.ownBlock = v.ownBlock ∨ ((∀ g, v'.ownBlock = some g → w.heap.size ≤ g) ∧ ∀ k, k < w.heap.size → w'.heap[k]? = w.heap[k]?) := by
  rcases hown.2 with ⟨rfl, rfl⟩ | ⟨g, cap, cur, rfl, hbg, hg, hnc, hcm, hcs, htake⟩
  · obtain ⟨v2, w2, h2, h3, h4, _⟩ := run_append_own (P := P) w w.heap.size t ty e i z size bytes ht hi hz hsize hby hzs hsz (.slice none 0 0) 0 xs ⟨hown.1, .inl ⟨rfl, rfl⟩⟩ a m c news hl hnews h1 h63 hbytes (Nat.le_refl _)
    rw [hr] at h2
    injection h2 with h2 h5
    subst h2 h5
    exact .inr ⟨fun g' hg' => (ownR_lt h3 hg').1, fun k hk => h4.block k hk (by simp [Value.ownBlock])⟩
  · subst hsize
    subst hby
    by_cases hroom : n + m ≤ cap
    · have h2 := run_append_room (P := P) w t ty e i ht hi g n cap cur hg a m c news hl hnews h1 hroom (by rw [hl, hcs, ← Nat.add_mul]; exact Nat.mul_le_mul_right _ hroom)
      rw [hr] at h2
      injection h2 with h2 _
      subst h2
      exact .inl rfl
    · have hsmall : n + m ≤ 9223372036854775807 := by simp only [maxLen] at h63; omega
      have h2 := run_append_grow (P := P) w t ty e i z ht hi hz ⟨g, 0, none⟩ n cap xs hown.1 (hown.cells (g := g) rfl) a m c news hl hnews (by omega) (by omega) (growslice_fits (by omega) hbytes)
      rw [hr] at h2
      injection h2 with h2 h5
      subst h2 h5
      refine .inr ⟨fun g' hg' => ?_, fun k hk => Lib.alloc_old w.drew _ k hk⟩
      simp [Value.ownBlock] at hg'
      omega
/-- At a step of the walk. -/
theorem wpOwnR {ops : Array Oper} {rest : List Oper} {o : Oper} {a : Act} {Q : Exit → Act → World → Prop} (hgd : o.guard = none) (s x : Operand) (t : TypeId)
    (ho : o.op = .call { callee := .builtin .append, args := #[s, x], argTypes := #[t, t] })
    (base : Nat) (e : TypeId) (i : TypeInfo) (z : Value) (size bytes : Nat) (ht : P.underlying t = some (.slice e)) (hi : P.info? e = some i) (hz : i.zero = some z)
    (hsize : i.size = size) (hby : i.bytes = bytes) (hzs : z.cells.size = size) (hsz : 0 < size)
    (v : Value) (n : Nat) (xs : List Value) (hs : a.eval s = v) (hown : w.ownsRow base e size v n xs)
    (ad : Addr) (m c : Nat) (news : List Value) (hx : a.eval x = .slice (some ad) m c) (hl : news.length = m * size) (hnews : ∀ j u, news[j]? = some u → w.cell? (ad.add j) = some u) (h1 : ∀ u ∈ news, u.oneCell' = true)
    (h63 : n + m ≤ maxLen) (hbytes : (n + m) * bytes ≤ 140737488355328) (hbase : base ≤ w.heap.size)
    (h : ∀ v' w', w'.ownsRow base e size v' (n + m) (xs ++ news) → w.grownBy w' v.ownBlock → (v'.ownBlock = v.ownBlock ∨ ((∀ g, v'.ownBlock = some g → w.heap.size ≤ g) ∧ ∀ k, k < w.heap.size → w'.heap[k]? = w.heap[k]?)) → wpList P ops Q rest (a.put o.dst v') w') : wpList P ops Q (o :: rest) a w := by
  refine wpList_plain hgd fun K hK => ?_
  obtain ⟨v', w', hr, h2, h3, _⟩ := run_append_own (P := P) w base t o.type e i z size bytes ht hi hz hsize hby hzs hsz v n xs hown ad m c news hl hnews h1 h63 hbytes hbase
  have h5 := app_twoR ht hi hz hsize hby hzs hsz hown hl hnews h1 h63 hbytes hr
  unfold Oper.wp execOp
  simp only [ho, resolve, invoke, builtin, Sem.run_bind, Sem.run_pure, Result.andThen_ok, List.map_toArray, List.map_cons, List.map_nil, hs, hx, hr]
  exact hK _ _ (h v' w' h2 h3 h5)
end
def sgVs (l : List Sg) : List Value := l.flatMap Sg.cells
theorem sgVs_snoc (l : List Sg) (s : Sg) : sgVs (l ++ [s]) = sgVs l ++ [.string s.name, .slice (some ⟨s.cp, 0, none⟩) s.cols.length s.cols.length] := by simp [sgVs, Sg.cells]
/-- The state of the gathering. -/
structure OutS (V4 : World) (bm r nb : Nat) (D : DataW Unit) (prs : List (List UInt8 × Nat)) (sg : List Sg) (left : Lit → Bool) (cnt : Nat) (v : Value) (wr : World) : Prop where
  bw : Below V4.heap.size V4 wr
  rg : wr.ranges Tryz.prog 9 (plainElem Tryz.prog 3) bm r nb D left cnt
  rr : V4.heap.size ≤ r
  ow : wr.ownsRow V4.heap.size 46 2 v sg.length (sgVs sg)
  co : ∀ s ∈ sg, SgCols wr V4.heap.size s ∧ s.cols = List.replicate s.cols.length 0
  nd : (sg.map Sg.cp).Nodup
  nm : (sg.map fun s => bl s.name).Nodup
  ap : ∀ s ∈ sg, v.ownBlock ≠ some s.cp ∧ s.cp ≠ r
  vr : v.ownBlock ≠ some r
  in_ : ∀ s ∈ sg, (bl s.name, s.cols.length) ∈ prs ∧ left (.string (bl s.name)) = false
  all : ∀ u n, (u, n) ∈ prs → left (.string u) = true ∨ ∃ s ∈ sg, bl s.name = u
  le : sg.length + cnt ≤ nb
theorem OutS.step {V4 : World} {bm r nb : Nat} {D : DataW Unit} {prs : List (List UInt8 × Nat)} {sg : List Sg} {left : Lit → Bool} {cnt cnt' : Nat} {v v' : Value} {wr w' w3 : World} (h : OutS V4 bm r nb D prs sg left cnt v wr) (hbm : bm < V4.heap.size) {s : ByteArray} {n : Nat} (hs : left (.string (bl s)) = true) (hin : (bl s, n) ∈ prs)
    (hcnt : cnt' < cnt) (hr : w'.ranges Tryz.prog 9 (plainElem Tryz.prog 3) bm r nb D (fun x => left x && !x.sameKey (.string (bl s))) cnt') (hg : wr.grownBy w' (some r)) (hsz : w'.heap.size = wr.heap.size)
    {U : World} (hU : U = (w'.alloc (.cells (Array.replicate n (Value.int .i8 0)) 48)).alloc (.cells #[.string s, .slice (some ⟨wr.heap.size, 0, none⟩) n n] 46))
    (hown : w3.ownsRow V4.heap.size 46 2 v' (sg.length + 1) (sgVs (sg ++ [⟨s, wr.heap.size, List.replicate n 0⟩]))) (hg3 : U.grownBy w3 v.ownBlock) (hpl : ∀ g, v'.ownBlock = some g → v.ownBlock = some g ∨ wr.heap.size + 2 ≤ g) :
    OutS V4 bm r nb D prs (sg ++ [⟨s, wr.heap.size, List.replicate n 0⟩]) (fun x => left x && !x.sameKey (.string (bl s))) cnt' v' w3 := by
  have hUs : U.heap.size = wr.heap.size + 2 := by rw [hU]; simp [hsz]
  have hVw := h.bw.size
  have hold : ∀ k, k < wr.heap.size → k ≠ r → v.ownBlock ≠ some k → w3.heap[k]? = wr.heap[k]? := fun k h1 h2 h3 => by
    rw [hg3.block k (by omega) (fun e => h3 e.symm), hU, Lib.alloc_old _ _ _ (by simp; omega), Lib.alloc_old _ _ _ (by omega)]
    exact hg.block k h1 (fun e => h2 (by simpa using e))
  have hcp : w3.heap[wr.heap.size]? = some (.cells ((List.replicate n (0 : Int)).map fun c => Value.int .i8 c).toArray 48 (0, 0)) := by
    rw [rep_ty, hg3.block _ (by omega) (fun e => by have := (ownR_lt h.ow e.symm).2; omega), hU, Lib.alloc_old _ _ _ (by simp; omega), ← hsz]
    exact heap_alloc_new w' _
  have hrlt := h.rg.lt
  have hrow : w3.ranges Tryz.prog 9 (plainElem Tryz.prog 3) bm r nb D (fun x => left x && !x.sameKey (.string (bl s))) cnt' := by
    have h1 := (hr.alloc (.cells (Array.replicate n (Value.int .i8 0)) 48)).alloc (.cells #[.string s, .slice (some ⟨wr.heap.size, 0, none⟩) n n] 46)
    rw [← hU] at h1
    exact h1.kept hg3 (fun e => by have := (ownR_lt h.ow e.symm).1; omega) (fun e => h.vr e.symm)
  refine ⟨⟨hg3.os.trans (by rw [hU]; exact hg.os.trans h.bw.os), hg3.tape.trans (by rw [hU]; exact hg.tape.trans h.bw.tape), hg3.output.trans (by rw [hU]; exact hg.output.trans h.bw.output), by have := hg3.size; omega, fun k hk => (hold k (by omega) (by have := h.rr; omega) (fun e => by have := (ownR_lt h.ow e).1; omega)).trans (h.bw.block k hk)⟩, hrow, h.rr, by simpa using hown, fun t ht => ?_, ?_, ?_, fun t ht => ?_, fun e => ?_, fun t ht => ?_, fun u m hu => ?_, by have := h.le; simp; omega⟩
  · rcases List.mem_append.1 ht with h1 | h1
    · obtain ⟨⟨h2, h3⟩, h4⟩ := h.co t h1
      exact ⟨⟨h2, (hold t.cp (Array.getElem?_eq_some_iff.1 h3).1 (h.ap t h1).2 (h.ap t h1).1).trans h3⟩, h4⟩
    · rw [List.mem_singleton.1 h1]
      exact ⟨⟨hVw, hcp⟩, by simp⟩
  · rw [List.map_append, List.nodup_append]
    refine ⟨h.nd, by simp, fun a ha b hb => ?_⟩
    obtain ⟨t, ht, rfl⟩ := List.mem_map.1 ha
    simp only [List.map_cons, List.map_nil, List.mem_singleton] at hb
    have := (Array.getElem?_eq_some_iff.1 (h.co t ht).1.2).1
    omega
  · rw [List.map_append, List.nodup_append]
    refine ⟨h.nm, by simp, fun a ha b hb => ?_⟩
    obtain ⟨t, ht, rfl⟩ := List.mem_map.1 ha
    simp only [List.map_cons, List.map_nil, List.mem_singleton] at hb
    rintro rfl
    have h5 := (h.in_ t ht).2
    rw [hb, hs] at h5
    cases h5
  · rcases List.mem_append.1 ht with h1 | h1
    · refine ⟨fun e => ?_, (h.ap t h1).2⟩
      have := (Array.getElem?_eq_some_iff.1 (h.co t h1).1.2).1
      rcases hpl _ e with h2 | h2
      · exact (h.ap t h1).1 h2
      · omega
    · rw [List.mem_singleton.1 h1]
      refine ⟨fun e => ?_, fun e => by simp only at e; omega⟩
      simp only at e
      rcases hpl _ e with h2 | h2
      · have := (ownR_lt h.ow h2).2; omega
      · omega
  · rcases hpl _ e with h2 | h2
    · exact h.vr h2
    · omega
  · rcases List.mem_append.1 ht with h1 | h1
    · obtain ⟨h2, h3⟩ := h.in_ t h1
      exact ⟨h2, by rw [h3]; rfl⟩
    · rw [List.mem_singleton.1 h1]
      refine ⟨by simpa using hin, ?_⟩
      show (left (.string (bl s)) && !(bl s == bl s)) = false
      simp
  · rcases h.all u m hu with h1 | ⟨t, ht, h2⟩
    · by_cases e : u = bl s
      · exact .inr ⟨⟨s, wr.heap.size, List.replicate n 0⟩, List.mem_append_right _ (List.mem_singleton.2 rfl), e.symm⟩
      · refine .inl ?_
        show (left (.string u) && !(u == bl s)) = true
        rw [h1]
        simpa using e
    · exact .inr ⟨t, List.mem_append_left _ ht, h2⟩
theorem key_str {s : ByteArray} {kl : Lit} (h : keyOf Tryz.prog 9 (.string s) = some kl) : kl = .string (bl s) := by
  rw [keyOf_string Tryz.underlying9] at h
  simp only [mapKey, Tryz.underlying9] at h
  split at h <;> simp_all [bl]
/-- What comes out of the map. -/
theorem seen_next {D : DataW Unit} {prs : List (List UInt8 × Nat)} (hS : SeenD D prs) {key val : Value} {kl : Lit} {y : DataW Unit × List MemPlace} (hk : keyOf Tryz.prog 9 key = some kl) (hR : plainElem Tryz.prog 3 val = some y) (hat : ∀ zd, D.atKey kl zd = y.1) :
    ∃ (s : ByteArray) (n : Nat), key = .string s ∧ val = .int .i64 (n : Int) ∧ kl = .string (bl s) ∧ (bl s, n) ∈ prs := by
  obtain ⟨s, rfl⟩ := Maps.keyOf_string_inv Tryz.underlying9 hk
  obtain rfl := key_str hk
  obtain ⟨c, rfl, rfl, _⟩ := plainElem_int_inv Tryz.underlying3 hR
  by_cases hx : ∃ n, (bl s, n) ∈ prs
  · obtain ⟨n, hn⟩ := hx
    have h1 := hS.yes _ n hn (.lit (.bool true))
    rw [hat] at h1
    injection h1 with h2
    injection h2 with _ h3
    exact ⟨s, n, rfl, by rw [h3], rfl, hn⟩
  · have h1 := hS.no (bl s) (fun n hn => hx ⟨n, hn⟩) (.lit (.bool true))
    rw [hat] at h1
    cases h1
theorem ar24 {d : Nat} {xs : List (Ru d)} (hu : ∀ x ∈ xs, UseOk x) : ∀ v n, (v, n) ∈ proPr xs → n ≤ 24 := by
  intro v n h
  obtain ⟨x, hx, h1⟩ := List.mem_flatMap.1 h
  have h2 := (hu x hx).1
  unfold ruOk at h2
  simp only [Bool.and_eq_true, decide_eq_true_eq, List.all_eq_true] at h2
  unfold prOf rpr at h1
  rcases List.mem_cons.1 h1 with h3 | h3
  · injection h3 with _ h4
    omega
  · obtain ⟨y, hy, h4⟩ := List.mem_flatMap.1 h3
    unfold lpr at h4
    split at h4
    · simp at h4
    · rename_i h5
      simp only [List.mem_singleton, Prod.mk.injEq] at h4
      have h6 := h2.1.2 y hy
      unfold ltOk at h6
      split at h6
      · simp only [Bool.and_eq_true] at h6
        have := atOk_24 h6.1.1.1
        omega
      · cases h6
theorem OutS.start {V4 w5 : World} {bm nb : Nat} {D : DataW Unit} {prs : List (List UInt8 × Nat)} (hS : SeenD D prs) (hr : w5.ranges Tryz.prog 9 (plainElem Tryz.prog 3) bm V4.heap.size nb D (Maps.has D) (Maps.size D)) (hg : V4.grownBy w5 none) (_ : w5.heap.size = V4.heap.size + 1) :
    OutS V4 bm V4.heap.size nb D prs [] (Maps.has D) (Maps.size D) (.slice none 0 0) w5 := by
  refine ⟨⟨hg.os, hg.tape, hg.output, hg.size, fun k hk => hg.block k hk (by simp)⟩, hr, Nat.le_refl _, ⟨rfl, .inl ⟨rfl, rfl⟩⟩, fun s h => by simp at h, by simp, by simp, fun s h => by simp at h, by simp [Value.ownBlock], fun s h => by simp at h, fun u n hu => .inl ?_, ?_⟩
  rotate_left
  · obtain ⟨es, clock, since, seen, c0, _, _, h1, _, _, _, h2, _⟩ := hr
    have h3 : (leftOf es seen).size ≤ es.size := Array.size_filter_le
    simp only [List.length_nil]
    omega
  have h1 := hS.yes u n hu (.lit (.bool true))
  cases hh : Maps.has D (.string u) with
  | true => rfl
  | false =>
    obtain ⟨es, rfl⟩ := hr.owns.isMap
    have h2 : es.find? (fun p => p.1.sameKey (.string u)) = none := by
      rw [List.find?_eq_none]
      intro p hp
      have h3 : es.any (fun p => p.1.sameKey (.string u)) = false := hh
      rw [List.any_eq_false] at h3
      exact h3 p hp
    unfold DataW.atKey at h1
    simp only [h2] at h1
    cases h1
end Go.Proofs.YtafjjececdhmjaaGreat

namespace Go.Proofs.YtafjjececdhmjaaGreat
open Go.RowKit Go.Maps Go.Sort

instance : Inhabited Sg := ⟨⟨⟨#[]⟩, 0, []⟩⟩
theorem tCompare (a b : ByteArray) (w : World) : Calls Tryz.prog 21 #[.string a, .string b] w fun e w' => e = .returned (.int .i64 (Lib.compareBytes (bl a) (bl b))) ∧ w' = w := Tryz.strings_Compare a b w
def cfSg (x y : Sg) : Int := Lib.compareBytes (bl x.name) (bl y.name)
theorem cmp_self : ∀ a : List UInt8, Lib.compareBytes a a = 0
  | [] => rfl
  | x :: r => by
    unfold Lib.compareBytes
    rw [if_neg (by simp), if_neg (by simp)]
    exact cmp_self r
theorem cmp_lt_iff : ∀ a b : List UInt8, Lib.compareBytes a b < 0 ↔ a < b
  | [], [] => by simp [Lib.compareBytes]
  | [], _ :: _ => by simp [Lib.compareBytes]
  | _ :: _, [] => by simp [Lib.compareBytes]
  | x :: r, y :: s => by
    have ih := cmp_lt_iff r s
    unfold Lib.compareBytes
    rw [List.cons_lt_cons_iff]
    by_cases h1 : x < y
    · simp [h1]
    · by_cases h2 : y < x
      · have h3 : x ≠ y := fun e => by rw [e] at h2; exact absurd h2 (by simp)
        simp [h1, h2, h3]
      · have h3 : x = y := UInt8.le_antisymm (by simpa using h2) (by simpa using h1)
        simp [h3, ih]
theorem cmp_zero : ∀ a b : List UInt8, Lib.compareBytes a b = 0 ↔ a = b
  | [], [] => by simp [Lib.compareBytes]
  | [], _ :: _ => by simp [Lib.compareBytes]
  | _ :: _, [] => by simp [Lib.compareBytes]
  | x :: r, y :: s => by
    have ih := cmp_zero r s
    unfold Lib.compareBytes
    by_cases h1 : x < y
    · have h3 : x ≠ y := fun e => by rw [e] at h1; exact absurd h1 (by simp)
      simp [h1, h3]
    · by_cases h2 : y < x
      · have h3 : x ≠ y := fun e => by rw [e] at h2; exact absurd h2 (by simp)
        simp [h1, h2, h3]
      · have h3 : x = y := UInt8.le_antisymm (by simpa using h2) (by simpa using h1)
        simp [h3, ih]
theorem lt_sg (x y : Sg) : ltOf cfSg x y = decide (bl x.name < bl y.name) := by
  unfold ltOf cfSg
  exact decide_eq_decide.2 (cmp_lt_iff _ _)
theorem swo_sg : SWO (ltOf cfSg) where
  irrefl x := by rw [lt_sg]; simp
  trans x y z h1 h2 := by rw [lt_sg] at *; simp only [decide_eq_true_eq] at *; exact List.lt_trans h1 h2
  ntrans x y z h1 h2 := by rw [lt_sg] at *; simp only [decide_eq_false_iff_not] at *; exact fun h => by
                             have h3 := List.not_lt.1 h1
                             have h4 := List.not_lt.1 h2
                             exact (List.not_lt.2 (List.le_trans h4 h3)) h
set_option maxHeartbeats 1000000 in
/-- Infer's first closure: which of two signatures comes first. -/
theorem tLess (x y : Sg) (W : World) : Calls Tryz.prog 20 #[.agg x.cells.toArray, .agg y.cells.toArray] W fun e w' => e = .returned (.int .i64 (cfSg x y)) ∧ ∃ q os', w' = grow (W.drewN q) os' := by
  obtain ⟨n1, c1, l1⟩ := x
  obtain ⟨n2, c2, l2⟩ := y
  have hcon := fun W' => tCompare n1 n2 W'
  have HR := Lib.hid (show cfSg ⟨n1, c1, l1⟩ ⟨n2, c2, l2⟩ = Lib.compareBytes (bl n1) (bl n2) from rfl)
  rw [HR.out]
  clear HR
  generalize Lib.compareBytes (bl n1) (bl n2) = r at hcon ⊢
  show Calls _ _ #[.agg #[.string n1, .slice (some ⟨c1, 0, none⟩) l1.length l1.length], .agg #[.string n2, .slice (some ⟨c2, 0, none⟩) l2.length l2.length]] W _
  go_enter Tryz.func20, Tryz.ntmps20
  go_wp2_with fail
  refine (hcon _).mono ?_
  rintro e w' ⟨rfl, hw⟩
  rw [hw]
  clear hw
  go_wp2_with fail
  go_ret
  exact ⟨rfl, 0, _, by rw [alloc_eq_grow, alloc_eq_grow, grow_grow]; rfl⟩
set_option maxHeartbeats 1000000 in
/-- Infer's second closure: a signature against a name. -/
theorem tAgainst (x : Sg) (b : ByteArray) (W : World) : Calls Tryz.prog 23 #[.agg #[.string x.name, .slice (some ⟨x.cp, 0, none⟩) x.cols.length x.cols.length], .string b] W fun e w' => e = .returned (.int .i64 (Lib.compareBytes (bl x.name) (bl b))) ∧ Below W.heap.size W w' := by
  obtain ⟨n1, c1, l1⟩ := x
  have hcon := fun W' => tCompare n1 b W'
  simp only
  have HB := Lib.hid (below_alloc W (.cells #[.string n1, .slice (some ⟨c1, 0, none⟩) l1.length l1.length] 46))
  generalize Lib.compareBytes (bl n1) (bl b) = r at hcon ⊢
  go_enter Tryz.func23, Tryz.ntmps23
  go_wp2_with fail
  refine (hcon _).mono ?_
  rintro e w' ⟨rfl, hw⟩
  rw [hw]
  clear hw
  go_wp2_with fail
  go_ret
  exact ⟨rfl, HB.out⟩
theorem cmpLays20 (blk off size : Nat) (w : World) : CmpLays Tryz.prog 20 #[] Sg.cells 2 cfSg blk off size w := fun _ _ _ _ x y => tLess x y _
theorem isAggSg (w : World) : (isAgg 46).run Tryz.prog w = .ok true w := by kernel_rfl
theorem sizeOfSg (w : World) : (Go.sizeOf 46).run Tryz.prog w = .ok 2 w := by kernel_rfl
theorem enterLess (args : Array Value) (w : World) : (callFunc 20 args).run Tryz.prog w = .ok (.enter 20 args) w := by kernel_rfl
theorem enterAgainst (args : Array Value) (w : World) : (callFunc 23 args).run Tryz.prog w = .ok (.enter 23 args) w := by kernel_rfl
/-- The sort. -/
theorem tSortSg (blk cap : Nat) (d : Array Sg) (w : World) (hH : HoldsK Sg.cells 2 w blk 0 d) (hblk : blk < w.heap.size) (hsz : d.size < 1000000000000) :
    Calls Tryz.prog 19 #[.slice (some ⟨blk, 0, none⟩) d.size cap, .func (.func 20) #[] #[]] w fun e w' =>
      e = .returned (.tuple #[]) ∧ ∃ d' n os, PermIn 0 d.size d d' ∧ SortedIn (ltOf cfSg) 0 d.size d' ∧ w' = sortWorldK Sg.cells 2 w blk 0 n d' os :=
  AnyQ.slices_SortFunc Tryz.sortSg 2 isAggSg sizeOfSg Sg.cells (fun _ => rfl) (fun x v hv => by simp [Sg.cells] at hv; rcases hv with rfl | rfl <;> rfl) cfSg swo_sg 20 #[] blk 0 cap d w enterLess (cmpLays20 blk 0 d.size w) hH hblk (by omega)
theorem tSortNone (p : Option Addr) (cap : Nat) (w : World) : Calls Tryz.prog 19 #[.slice p 0 cap, .func (.func 20) #[] #[]] w fun e w' => e = .returned (.tuple #[]) ∧ w' = w :=
  AnyF.slices_SortFunc_none Tryz.sortSg p cap _ w
/-- Signatures in a row of memory. -/
def SgRow (w : World) (blk : Nat) (d : List Sg) : Prop := blk < w.heap.size ∧ ∀ i, (h : i < d.length) → w.cell? ⟨blk, i * 2, none⟩ = some (.string d[i].name) ∧ w.cell? ⟨blk, i * 2 + 1, none⟩ = some (.slice (some ⟨d[i].cp, 0, none⟩) d[i].cols.length d[i].cols.length)
theorem SgRow.off {w w' : World} {blk : Nat} {d : List Sg} (h : SgRow w blk d) (hb : w'.heap[blk]? = w.heap[blk]?) (hs : w.heap.size ≤ w'.heap.size) : SgRow w' blk d :=
  ⟨Nat.lt_of_lt_of_le h.1 hs, fun i hi => ⟨(World.cell?_of_block (w := w) (a := ⟨blk, i * 2, none⟩) hb).trans (h.2 i hi).1, (World.cell?_of_block (w := w) (a := ⟨blk, i * 2 + 1, none⟩) hb).trans (h.2 i hi).2⟩⟩
/-- What is known in the search: where it cannot be. -/
structure BsR (d : List Sg) (b : ByteArray) (lo hi : Nat) : Prop where
  le : lo ≤ hi
  n_ : hi ≤ d.length
  lo_ : ∀ t, (h : t < d.length) → t < lo → bl d[t].name < bl b
  hi_ : ∀ t, (h : t < d.length) → hi ≤ t → ¬ bl d[t].name < bl b
set_option maxHeartbeats 4000000 in
set_option maxRecDepth 100000 in
theorem tSearch (blk cap : Nat) (d : List Sg) (b : ByteArray) (w : World) (hR : SgRow w blk d) (hs : ∀ i j, (hi : i < d.length) → (hj : j < d.length) → i < j → bl d[i].name < bl d[j].name) (j0 : Nat) (hj0 : j0 < d.length) (hb0 : bl d[j0].name = bl b) (hn : d.length ≤ 1000000000000) :
    Calls Tryz.prog 22 #[.slice (some ⟨blk, 0, none⟩) d.length cap, .string b, .func (.func 23) #[] #[]] w fun e w' => (∃ ok : Bool, e = .returned (.tuple #[.int .i64 (j0 : Int), .bool ok])) ∧ Below w.heap.size w w' := by
  have HR := Lib.hid hR; clear hR
  have HS := Lib.hid hs; clear hs
  have HB0 := Lib.hid hb0; clear hb0
  have hF := enterAgainst
  go_enter Tryz.func22, Tryz.ntmps22
  go_wp2_with fail
  go_loopw [9, 10, 11] (fun i j _ wr => ∃ lo hi : Nat, i = .int .i64 lo ∧ j = .int .i64 hi ∧ BsR d b lo hi ∧ Below w.heap.size w wr) (fun i j _ _ => (intOf j).toNat - (intOf i).toNat)
  case atStart => exact ⟨0, d.length, rfl, rfl, ⟨by omega, by omega, fun t _ h => by omega, fun t h1 h2 => by omega⟩, Below.refl _ _⟩
  case round =>
    obtain ⟨lo, hi, rfl, rfl, hbs, hb⟩ := hrel
    have HBS := Lib.hid hbs
    have HB := Lib.hid hb; clear hb
    have hle := hbs.le
    have hnn := hbs.n_
    clear hbs
    by_cases hlt : lo < hi
    · have hhd : (lo + hi) / 2 < d.length := by omega
      have hh0 : (0 : Int) ≤ (((lo + hi) / 2 : Nat) : Int) := by omega
      have hh3 : (((lo + hi) / 2 : Nat) : Int) < (d.length : Int) := by omega
      obtain ⟨y0, y1⟩ := (HR.out.off (HB.out.block blk HR.out.1) HB.out.size).2 _ hhd
      have HLO := Lib.hid (fun (h : bl (d[(lo + hi) / 2]).name < bl b) => (show BsR d b ((lo + hi) / 2 + 1) hi from ⟨by omega, HBS.out.n_, fun t h1 h2 => by
        by_cases e : t = (lo + hi) / 2
        · subst e; exact h
        · exact List.lt_trans (HS.out t _ h1 hhd (by omega)) h, HBS.out.hi_⟩))
      have HHI := Lib.hid (fun (h : ¬ bl (d[(lo + hi) / 2]).name < bl b) => (show BsR d b lo ((lo + hi) / 2) from ⟨by omega, by omega, HBS.out.lo_, fun t h1 h2 => by
        by_cases e : t = (lo + hi) / 2
        · subst e; exact h
        · exact fun h3 => h (List.lt_trans (HS.out _ t hhd h1 (by omega)) h3)⟩))
      obtain ⟨x, hx⟩ : ∃ x, x = d[(lo + hi) / 2] := ⟨_, rfl⟩
      rw [← hx] at y0 y1 HLO HHI
      clear hx
      have HC := fun W => tAgainst x b W
      obtain ⟨c, hc⟩ : ∃ c, c = Lib.compareBytes (bl x.name) (bl b) := ⟨_, rfl⟩
      rw [← hc] at HC
      have HCL := Lib.hid (show c < 0 ↔ bl x.name < bl b by rw [hc]; exact cmp_lt_iff _ _)
      clear hc
      by_cases hcn : c < 0
      · have HN := Lib.hid (HLO.out (HCL.out.1 hcn))
        go_wp2_with fail
        refine (HC _).mono ?_
        rintro e w1 ⟨rfl, hb1⟩
        have HB1 := Lib.hid (HB.out.trans (hb1.mono HB.out.size))
        clear hb1 y0 y1
        go_wp2_with fail
        go_roundw
        case rel => exact ⟨(lo + hi) / 2 + 1, hi, by go_num, rfl, HN.out, HB1.out⟩
        case measure => simp [intOf]; omega
      · have HN := Lib.hid (HHI.out (fun h => hcn (HCL.out.2 h)))
        go_wp2_with fail
        refine (HC _).mono ?_
        rintro e w1 ⟨rfl, hb1⟩
        have HB1 := Lib.hid (HB.out.trans (hb1.mono HB.out.size))
        clear hb1 y0 y1
        go_wp2_with fail
        go_roundw
        case rel => exact ⟨lo, (lo + hi) / 2, rfl, rfl, HN.out, HB1.out⟩
        case measure => simp [intOf]; omega
    · obtain rfl : lo = hi := by omega
      have hj : lo = j0 := by
        have h1 : ¬ j0 < lo := fun h => by
          have := HBS.out.lo_ j0 hj0 h
          rw [HB0.out] at this
          exact List.lt_irrefl _ this
        refine Classical.byContradiction fun h2 => ?_
        have h3 := HBS.out.hi_ lo (by omega) (Nat.le_refl _)
        have h4 := HS.out lo j0 (by omega) hj0 (by omega)
        rw [HB0.out] at h4
        exact h3 h4
      subst hj
      obtain ⟨y0, y1⟩ := (HR.out.off (HB.out.block blk HR.out.1) HB.out.size).2 _ hj0
      have hh0 : (0 : Int) ≤ (lo : Int) := by omega
      have hh3 : (lo : Int) < (d.length : Int) := by omega
      obtain ⟨x, hx⟩ : ∃ x, x = d[lo] := ⟨_, rfl⟩
      rw [← hx] at y0 y1
      clear hx HB0
      have HC := fun W => tAgainst x b W
      obtain ⟨c, hc⟩ : ∃ c, c = Lib.compareBytes (bl x.name) (bl b) := ⟨_, rfl⟩
      rw [← hc] at HC
      clear hc
      go_wp2_with fail
      refine (HC _).mono ?_
      rintro e w1 ⟨rfl, hb1⟩
      have HB1 := Lib.hid (HB.out.trans (hb1.mono HB.out.size))
      clear hb1 y0 y1
      cases hcz : (c == 0) with
      | true =>
        go_wp2_with fail
        refine bodyPost_ret (results_tmp2 rfl _ _ _) rfl ?_
        exact ⟨⟨_, rfl⟩, HB1.out⟩
      | false =>
        go_wp2_with fail
        refine bodyPost_ret (results_tmp2 rfl _ _ _) rfl ?_
        exact ⟨⟨_, rfl⟩, HB1.out⟩
end Go.Proofs.YtafjjececdhmjaaGreat
