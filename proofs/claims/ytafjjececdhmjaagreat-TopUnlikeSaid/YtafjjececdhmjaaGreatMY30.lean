/- Signatures gathered from a map of arities: the state, its steps. Conditions: as told. -/
import Derived.Test.YtafjjececdhmjaaGreatMKi
import Derived.Maps.Range
import Derived.Laws.MakeOwn
import Derived.Maps.OwnSet
import Derived.Sort.MapsRangeIn
namespace Go.Proofs.YtafjjececdhmjaaGreat
open Go.RowKit Go.Maps

theorem infoTy : (Tryz.prog.info? 48).map (fun i => (i.zero, i.size, i.bytes)) = some (some (.int .i8 0), 1, 1) := by kernel_rfl
theorem infoSg : (Tryz.prog.info? 46).map (fun i => (i.zero, i.size, i.bytes)) = some (some (.agg #[.string ⟨#[]⟩, .slice none 0 0]), 2, 40) := by kernel_rfl
theorem made_ty (n : Nat) : madeCells #[.int .i8 0] n = ((List.replicate n (0 : Int)).map fun c => Value.int .i8 c).toArray := by
  apply Array.ext
  · simp [madeCells]
  · intro i h1 h2
    simp [madeCells, Nat.mod_one]
theorem rep_ty (n : Nat) : ((List.replicate n (0 : Int)).map fun c => Value.int .i8 c).toArray = Array.replicate n (Value.int .i8 0) := by simp
theorem make_ty (n : Nat) (hn : n ≤ 1000) (w : World) : (Instr.makeSlice 44 (.int .i64 (n : Int)) (.int .i64 (n : Int))).run Tryz.prog w = .ok (.slice (some ⟨w.heap.size, 0, none⟩) n n) (w.alloc (.cells (Array.replicate n (Value.int .i8 0)) 48)) := by
  obtain ⟨i, hi, hzz⟩ := Option.map_eq_some_iff.1 infoTy
  simp only [Prod.mk.injEq] at hzz
  obtain ⟨hz, hs, hb⟩ := hzz
  have h := run_makeSlice (P := Tryz.prog) w 44 48 i _ Tryz.underlying44 hi hz .i64 .i64 (n : Int) (n : Int) (by omega) (Int.le_refl _) (by rw [hs]; omega) (by rw [hb]; omega) (by omega)
  rw [h, hs, Int.toNat_natCast, Nat.mul_one, ← rep_ty, ← made_ty]
  rfl
theorem ownR_lt {w : World} {B n k : Nat} {e : TypeId} {v : Value} {xs : List Value} (h : w.ownsRow B e k v n xs) {g : Nat} (hg : v.ownBlock = some g) : B ≤ g ∧ g < w.heap.size := by
  rcases h.2 with ⟨hv, _⟩ | ⟨g', cap, cur, hv, hB, hg2, _⟩
  · rw [hv] at hg; cases hg
  · rw [hv] at hg
    obtain rfl : g' = g := by simpa [Value.ownBlock] using hg
    exact ⟨hB, (Array.getElem?_eq_some_iff.1 hg2).1⟩
theorem ownR_slice {w : World} {B n k : Nat} {e : TypeId} {v : Value} {xs : List Value} (h : w.ownsRow B e k v n xs) : ∃ p cap, v = .slice p n cap := by
  rcases h.2 with ⟨hv, hn⟩ | ⟨g, cap, cur, hv, _⟩
  · exact ⟨none, 0, by rw [hv, hn]⟩
  · exact ⟨_, cap, hv⟩
theorem ownR_alloc {w : World} {B n k : Nat} {e : TypeId} {v : Value} {xs : List Value} (h : w.ownsRow B e k v n xs) (o : Obj) : (w.alloc o).ownsRow B e k v n xs := by
  refine ⟨h.1, ?_⟩
  rcases h.2 with h2 | ⟨g, cap, cur, hv, hB, hg2, h3⟩
  · exact .inl h2
  · exact .inr ⟨g, cap, cur, hv, hB, (Lib.alloc_old w o g (Array.getElem?_eq_some_iff.1 hg2).1).trans hg2, h3⟩
theorem ownR_kept {w w' : World} {B n k : Nat} {e : TypeId} {v : Value} {xs : List Value} {row : Option Nat} (h : w.ownsRow B e k v n xs) (hg : w.grownBy w' row) (hr : v.ownBlock ≠ row ∨ v.ownBlock = none) : w'.ownsRow B e k v n xs := by
  refine ⟨h.1, ?_⟩
  rcases h.2 with h2 | ⟨g, cap, cur, hv, hB, hg2, h3⟩
  · exact .inl h2
  · refine .inr ⟨g, cap, cur, hv, hB, (hg.block g (Array.getElem?_eq_some_iff.1 hg2).1 fun e => ?_).trans hg2, h3⟩
    rcases hr with h4 | h4
    · exact h4 (by rw [hv]; exact e)
    · rw [hv] at h4; cases h4
section
variable {P : Program} {w : World}

theorem app_twoR {base t ty e : Nat} {i : TypeInfo} {z : Value} {size bytes : Nat} (ht : P.underlying t = some (.slice e)) (hi : P.info? e = some i) (hz : i.zero = some z)
    (hsize : i.size = size) (hby : i.bytes = bytes) (hzs : z.cells.size = size) (hsz : 0 < size) {v : Value} {n : Nat} {xs : List Value} (hown : w.ownsRow base e size v n xs)
    {a : Addr} {m c : Nat} {news : List Value} (hl : news.length = m * size) (hnews : ∀ j u, news[j]? = some u → w.cell? (a.add j) = some u) (h1 : ∀ u ∈ news, u.oneCell' = true)
    (h63 : n + m ≤ maxLen) (hbytes : (n + m) * bytes ≤ 140737488355328) {v' : Value} {w' : World} (hr : (Builtin.append_ #[t, t] ty #[v, .slice (some a) m c]).run P w = .ok v' w') :
    v'.ownBlock = v.ownBlock ∨ ((∀ g, v'.ownBlock = some g → w.heap.size ≤ g) ∧ ∀ k, k < w.heap.size → w'.heap[k]? = w.heap[k]?) := by
  rcases hown.2 with ⟨rfl, rfl⟩ | ⟨g, cap, cur, rfl, hbg, hg, hnc, hcm, hcs, htake⟩
  · obtain ⟨v2, w2, h2, h3, h4, _⟩ := run_append_own (P := P) w w.heap.size t ty e i z size bytes ht hi hz hsize hby hzs hsz (.slice none 0 0) 0 xs ⟨hown.1, .inl ⟨rfl, rfl⟩⟩ a m c news hl hnews h1 h63 hbytes (Nat.le_refl _)
    rw [hr] at h2
    injection h2 with h2 h5
    subst h2 h5
    exact .inr ⟨fun g' hg' => (ownR_lt h3 hg').1, fun k hk => h4.block k hk (by simp [Value.ownBlock])⟩
  · subst hsize
    subst hby
    by_cases hroom : n + m ≤ cap
    · have h2 := run_append_room (P := P) w t ty e i ht hi g n cap cur hg a m c news hl hnews h1 hroom (by rw [hl, hcs, ← Nat.add_mul]; exact Nat.mul_le_mul_right _ hroom)
      rw [hr] at h2
      injection h2 with h2 _
      subst h2
      exact .inl rfl
    · have hsmall : n + m ≤ 9223372036854775807 := by simp only [maxLen] at h63; omega
      have h2 := run_append_grow (P := P) w t ty e i z ht hi hz ⟨g, 0, none⟩ n cap xs hown.1 (hown.cells (g := g) rfl) a m c news hl hnews (by omega) (by omega) (growslice_fits (by omega) hbytes)
      rw [hr] at h2
      injection h2 with h2 h5
      subst h2 h5
      refine .inr ⟨fun g' hg' => ?_, fun k hk => Lib.alloc_old w.drew _ k hk⟩
      simp [Value.ownBlock] at hg'
      omega
/-- At a step of the walk. -/
theorem wpOwnR {ops : Array Oper} {rest : List Oper} {o : Oper} {a : Act} {Q : Exit → Act → World → Prop} (hgd : o.guard = none) (s x : Operand) (t : TypeId)
    (ho : o.op = .call { callee := .builtin .append, args := #[s, x], argTypes := #[t, t] })
    (base : Nat) (e : TypeId) (i : TypeInfo) (z : Value) (size bytes : Nat) (ht : P.underlying t = some (.slice e)) (hi : P.info? e = some i) (hz : i.zero = some z)
    (hsize : i.size = size) (hby : i.bytes = bytes) (hzs : z.cells.size = size) (hsz : 0 < size)
    (v : Value) (n : Nat) (xs : List Value) (hs : a.eval s = v) (hown : w.ownsRow base e size v n xs)
    (ad : Addr) (m c : Nat) (news : List Value) (hx : a.eval x = .slice (some ad) m c) (hl : news.length = m * size) (hnews : ∀ j u, news[j]? = some u → w.cell? (ad.add j) = some u) (h1 : ∀ u ∈ news, u.oneCell' = true)
    (h63 : n + m ≤ maxLen) (hbytes : (n + m) * bytes ≤ 140737488355328) (hbase : base ≤ w.heap.size)
    (h : ∀ v' w', w'.ownsRow base e size v' (n + m) (xs ++ news) → w.grownBy w' v.ownBlock → (v'.ownBlock = v.ownBlock ∨ ((∀ g, v'.ownBlock = some g → w.heap.size ≤ g) ∧ ∀ k, k < w.heap.size → w'.heap[k]? = w.heap[k]?)) → wpList P ops Q rest (a.put o.dst v') w') : wpList P ops Q (o :: rest) a w := by
  refine wpList_plain hgd fun K hK => ?_
  obtain ⟨v', w', hr, h2, h3, _⟩ := run_append_own (P := P) w base t o.type e i z size bytes ht hi hz hsize hby hzs hsz v n xs hown ad m c news hl hnews h1 h63 hbytes hbase
  have h5 := app_twoR ht hi hz hsize hby hzs hsz hown hl hnews h1 h63 hbytes hr
  unfold Oper.wp execOp
  simp only [ho, resolve, invoke, builtin, Sem.run_bind, Sem.run_pure, Result.andThen_ok, List.map_toArray, List.map_cons, List.map_nil, hs, hx, hr]
  exact hK _ _ (h v' w' h2 h3 h5)
end
def sgVs (l : List Sg) : List Value := l.flatMap Sg.cells
theorem sgVs_snoc (l : List Sg) (s : Sg) : sgVs (l ++ [s]) = sgVs l ++ [.string s.name, .slice (some ⟨s.cp, 0, none⟩) s.cols.length s.cols.length] := by simp [sgVs, Sg.cells]
/-- The state of the gathering. -/
structure OutS (V4 : World) (bm r nb : Nat) (D : DataW Unit) (prs : List (List UInt8 × Nat)) (sg : List Sg) (left : Lit → Bool) (cnt : Nat) (v : Value) (wr : World) : Prop where
  bw : Below V4.heap.size V4 wr
  rg : wr.ranges Tryz.prog 9 (plainElem Tryz.prog 3) bm r nb D left cnt
  rr : V4.heap.size ≤ r
  ow : wr.ownsRow V4.heap.size 46 2 v sg.length (sgVs sg)
  co : ∀ s ∈ sg, SgCols wr V4.heap.size s ∧ s.cols = List.replicate s.cols.length 0
  nd : (sg.map Sg.cp).Nodup
  nm : (sg.map fun s => bl s.name).Nodup
  ap : ∀ s ∈ sg, v.ownBlock ≠ some s.cp ∧ s.cp ≠ r
  vr : v.ownBlock ≠ some r
  in_ : ∀ s ∈ sg, (bl s.name, s.cols.length) ∈ prs ∧ left (.string (bl s.name)) = false
  all : ∀ u n, (u, n) ∈ prs → left (.string u) = true ∨ ∃ s ∈ sg, bl s.name = u
  le : sg.length + cnt ≤ nb
theorem OutS.step {V4 : World} {bm r nb : Nat} {D : DataW Unit} {prs : List (List UInt8 × Nat)} {sg : List Sg} {left : Lit → Bool} {cnt cnt' : Nat} {v v' : Value} {wr w' w3 : World} (h : OutS V4 bm r nb D prs sg left cnt v wr) (hbm : bm < V4.heap.size) {s : ByteArray} {n : Nat} (hs : left (.string (bl s)) = true) (hin : (bl s, n) ∈ prs)
    (hcnt : cnt' < cnt) (hr : w'.ranges Tryz.prog 9 (plainElem Tryz.prog 3) bm r nb D (fun x => left x && !x.sameKey (.string (bl s))) cnt') (hg : wr.grownBy w' (some r)) (hsz : w'.heap.size = wr.heap.size)
    {U : World} (hU : U = (w'.alloc (.cells (Array.replicate n (Value.int .i8 0)) 48)).alloc (.cells #[.string s, .slice (some ⟨wr.heap.size, 0, none⟩) n n] 46))
    (hown : w3.ownsRow V4.heap.size 46 2 v' (sg.length + 1) (sgVs (sg ++ [⟨s, wr.heap.size, List.replicate n 0⟩]))) (hg3 : U.grownBy w3 v.ownBlock) (hpl : ∀ g, v'.ownBlock = some g → v.ownBlock = some g ∨ wr.heap.size + 2 ≤ g) :
    OutS V4 bm r nb D prs (sg ++ [⟨s, wr.heap.size, List.replicate n 0⟩]) (fun x => left x && !x.sameKey (.string (bl s))) cnt' v' w3 := by
  have hUs : U.heap.size = wr.heap.size + 2 := by rw [hU]; simp [hsz]
  have hVw := h.bw.size
  have hold : ∀ k, k < wr.heap.size → k ≠ r → v.ownBlock ≠ some k → w3.heap[k]? = wr.heap[k]? := fun k h1 h2 h3 => by
    rw [hg3.block k (by omega) (fun e => h3 e.symm), hU, Lib.alloc_old _ _ _ (by simp; omega), Lib.alloc_old _ _ _ (by omega)]
    exact hg.block k h1 (fun e => h2 (by simpa using e))
  have hcp : w3.heap[wr.heap.size]? = some (.cells ((List.replicate n (0 : Int)).map fun c => Value.int .i8 c).toArray 48 (0, 0)) := by
    rw [rep_ty, hg3.block _ (by omega) (fun e => by have := (ownR_lt h.ow e.symm).2; omega), hU, Lib.alloc_old _ _ _ (by simp; omega), ← hsz]
    exact heap_alloc_new w' _
  have hrlt := h.rg.lt
  have hrow : w3.ranges Tryz.prog 9 (plainElem Tryz.prog 3) bm r nb D (fun x => left x && !x.sameKey (.string (bl s))) cnt' := by
    have h1 := (hr.alloc (.cells (Array.replicate n (Value.int .i8 0)) 48)).alloc (.cells #[.string s, .slice (some ⟨wr.heap.size, 0, none⟩) n n] 46)
    rw [← hU] at h1
    exact h1.kept hg3 (fun e => by have := (ownR_lt h.ow e.symm).1; omega) (fun e => h.vr e.symm)
  refine ⟨⟨hg3.os.trans (by rw [hU]; exact hg.os.trans h.bw.os), hg3.tape.trans (by rw [hU]; exact hg.tape.trans h.bw.tape), hg3.output.trans (by rw [hU]; exact hg.output.trans h.bw.output), by have := hg3.size; omega, fun k hk => (hold k (by omega) (by have := h.rr; omega) (fun e => by have := (ownR_lt h.ow e).1; omega)).trans (h.bw.block k hk)⟩, hrow, h.rr, by simpa using hown, fun t ht => ?_, ?_, ?_, fun t ht => ?_, fun e => ?_, fun t ht => ?_, fun u m hu => ?_, by have := h.le; simp; omega⟩
  · rcases List.mem_append.1 ht with h1 | h1
    · obtain ⟨⟨h2, h3⟩, h4⟩ := h.co t h1
      exact ⟨⟨h2, (hold t.cp (Array.getElem?_eq_some_iff.1 h3).1 (h.ap t h1).2 (h.ap t h1).1).trans h3⟩, h4⟩
    · rw [List.mem_singleton.1 h1]
      exact ⟨⟨hVw, hcp⟩, by simp⟩
  · rw [List.map_append, List.nodup_append]
    refine ⟨h.nd, by simp, fun a ha b hb => ?_⟩
    obtain ⟨t, ht, rfl⟩ := List.mem_map.1 ha
    simp only [List.map_cons, List.map_nil, List.mem_singleton] at hb
    have := (Array.getElem?_eq_some_iff.1 (h.co t ht).1.2).1
    omega
  · rw [List.map_append, List.nodup_append]
    refine ⟨h.nm, by simp, fun a ha b hb => ?_⟩
    obtain ⟨t, ht, rfl⟩ := List.mem_map.1 ha
    simp only [List.map_cons, List.map_nil, List.mem_singleton] at hb
    rintro rfl
    have h5 := (h.in_ t ht).2
    rw [hb, hs] at h5
    cases h5
  · rcases List.mem_append.1 ht with h1 | h1
    · refine ⟨fun e => ?_, (h.ap t h1).2⟩
      have := (Array.getElem?_eq_some_iff.1 (h.co t h1).1.2).1
      rcases hpl _ e with h2 | h2
      · exact (h.ap t h1).1 h2
      · omega
    · rw [List.mem_singleton.1 h1]
      refine ⟨fun e => ?_, fun e => by simp only at e; omega⟩
      simp only at e
      rcases hpl _ e with h2 | h2
      · have := (ownR_lt h.ow h2).2; omega
      · omega
  · rcases hpl _ e with h2 | h2
    · exact h.vr h2
    · omega
  · rcases List.mem_append.1 ht with h1 | h1
    · obtain ⟨h2, h3⟩ := h.in_ t h1
      exact ⟨h2, by rw [h3]; rfl⟩
    · rw [List.mem_singleton.1 h1]
      refine ⟨by simpa using hin, ?_⟩
      show (left (.string (bl s)) && !(bl s == bl s)) = false
      simp
  · rcases h.all u m hu with h1 | ⟨t, ht, h2⟩
    · by_cases e : u = bl s
      · exact .inr ⟨⟨s, wr.heap.size, List.replicate n 0⟩, List.mem_append_right _ (List.mem_singleton.2 rfl), e.symm⟩
      · refine .inl ?_
        show (left (.string u) && !(u == bl s)) = true
        rw [h1]
        simpa using e
    · exact .inr ⟨t, List.mem_append_left _ ht, h2⟩
theorem key_str {s : ByteArray} {kl : Lit} (h : keyOf Tryz.prog 9 (.string s) = some kl) : kl = .string (bl s) := by
  rw [keyOf_string Tryz.underlying9] at h
  simp only [mapKey, Tryz.underlying9] at h
  split at h <;> simp_all [bl]
/-- What comes out of the map. -/
theorem seen_next {D : DataW Unit} {prs : List (List UInt8 × Nat)} (hS : SeenD D prs) {key val : Value} {kl : Lit} {y : DataW Unit × List MemPlace} (hk : keyOf Tryz.prog 9 key = some kl) (hR : plainElem Tryz.prog 3 val = some y) (hat : ∀ zd, D.atKey kl zd = y.1) :
    ∃ (s : ByteArray) (n : Nat), key = .string s ∧ val = .int .i64 (n : Int) ∧ kl = .string (bl s) ∧ (bl s, n) ∈ prs := by
  obtain ⟨s, rfl⟩ := Maps.keyOf_string_inv Tryz.underlying9 hk
  obtain rfl := key_str hk
  obtain ⟨c, rfl, rfl, _⟩ := plainElem_int_inv Tryz.underlying3 hR
  by_cases hx : ∃ n, (bl s, n) ∈ prs
  · obtain ⟨n, hn⟩ := hx
    have h1 := hS.yes _ n hn (.lit (.bool true))
    rw [hat] at h1
    injection h1 with h2
    injection h2 with _ h3
    exact ⟨s, n, rfl, by rw [h3], rfl, hn⟩
  · have h1 := hS.no (bl s) (fun n hn => hx ⟨n, hn⟩) (.lit (.bool true))
    rw [hat] at h1
    cases h1
theorem ar24 {d : Nat} {xs : List (Ru d)} (hu : ∀ x ∈ xs, UseOk x) : ∀ v n, (v, n) ∈ proPr xs → n ≤ 24 := by
  intro v n h
  obtain ⟨x, hx, h1⟩ := List.mem_flatMap.1 h
  have h2 := (hu x hx).1
  unfold ruOk at h2
  simp only [Bool.and_eq_true, decide_eq_true_eq, List.all_eq_true] at h2
  unfold prOf rpr at h1
  rcases List.mem_cons.1 h1 with h3 | h3
  · injection h3 with _ h4
    omega
  · obtain ⟨y, hy, h4⟩ := List.mem_flatMap.1 h3
    unfold lpr at h4
    split at h4
    · simp at h4
    · rename_i h5
      simp only [List.mem_singleton, Prod.mk.injEq] at h4
      have h6 := h2.1.2 y hy
      unfold ltOk at h6
      split at h6
      · simp only [Bool.and_eq_true] at h6
        have := atOk_24 h6.1.1.1
        omega
      · cases h6
theorem OutS.start {V4 w5 : World} {bm nb : Nat} {D : DataW Unit} {prs : List (List UInt8 × Nat)} (hS : SeenD D prs) (hr : w5.ranges Tryz.prog 9 (plainElem Tryz.prog 3) bm V4.heap.size nb D (Maps.has D) (Maps.size D)) (hg : V4.grownBy w5 none) (_ : w5.heap.size = V4.heap.size + 1) :
    OutS V4 bm V4.heap.size nb D prs [] (Maps.has D) (Maps.size D) (.slice none 0 0) w5 := by
  refine ⟨⟨hg.os, hg.tape, hg.output, hg.size, fun k hk => hg.block k hk (by simp)⟩, hr, Nat.le_refl _, ⟨rfl, .inl ⟨rfl, rfl⟩⟩, fun s h => by simp at h, by simp, by simp, fun s h => by simp at h, by simp [Value.ownBlock], fun s h => by simp at h, fun u n hu => .inl ?_, ?_⟩
  rotate_left
  · obtain ⟨es, clock, since, seen, c0, _, _, h1, _, _, _, h2, _⟩ := hr
    have h3 : (leftOf es seen).size ≤ es.size := Array.size_filter_le
    simp only [List.length_nil]
    omega
  have h1 := hS.yes u n hu (.lit (.bool true))
  cases hh : Maps.has D (.string u) with
  | true => rfl
  | false =>
    obtain ⟨es, rfl⟩ := hr.owns.isMap
    have h2 : es.find? (fun p => p.1.sameKey (.string u)) = none := by
      rw [List.find?_eq_none]
      intro p hp
      have h3 : es.any (fun p => p.1.sameKey (.string u)) = false := hh
      rw [List.any_eq_false] at h3
      exact h3 p hp
    unfold DataW.atKey at h1
    simp only [h2] at h1
    cases h1
end Go.Proofs.YtafjjececdhmjaaGreat
