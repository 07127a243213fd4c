/- How lists of records, atoms and literals lie where they read as data. Conditions: no slice takes more bytes than the reach of a row. -/
import Derived.Test.YtafjjececdhmjaaGreatNMH
import Derived.Test.YtafjjececdhmjaaGreatNKu
namespace Go.Proofs.YtafjjececdhmjaaGreat
open Go.RowKit Go.ChangeShapes Go.WideShapes

section
variable {H : Type} {enc : TypeId × Value → H}
theorem weights_slice {T E : TypeId} (hu : Tryz.prog.underlying T = some (.slice E)) (es rest : List (DataW H)) :
    (DataW.slice es rest).weights Tryz.prog T = (es.length + rest.length) * Tryz.prog.bytesOf E :: (DataW.weightsAll Tryz.prog E es ++ DataW.weightsAll Tryz.prog E rest) := by
  simp [DataW.weights, hu]
/-- A row of records, each with its cells. -/
def RowAt {α : Type} (w : World) (p : Option Addr) (m : Nat) (C : α → List Value) (l : List α) : Prop :=
  l.length = 0 ∨ ∃ a o, p = some ⟨a, o, none⟩ ∧ a < w.heap.size ∧ ∀ i, (h : i < l.length) → ∀ q, q < m → w.cell? ⟨a, o + i * m + q, none⟩ = (C l[i])[q]?
/-- A list that reads as data: its records. -/
theorem open_list {α : Type} {w : World} {base : Nat} {sp : Nat → Bool} {held : Bool} {fuel : Nat} {T E : TypeId} {m b : Nat} {cs : List Value} {x : DataW H × List MemPlace} (hu : Tryz.prog.underlying T = some (.slice E)) (hce : Tryz.prog.cellsOf E = m) (hm : 0 < m)
    (hbe : Tryz.prog.bytesOf E = b) (hb0 : 0 < b) (C : α → List Value) (R : α → Prop) (hC : ∀ e, (C e)[0]? ≠ none) (h : DataW.trod enc Tryz.prog w base sp held fuel T cs = some x) (hw : ∀ n ∈ x.1.weights Tryz.prog T, n ≤ reachBytes)
    (hr : ∀ fuel' cs' y, fuel' < fuel → DataW.trod enc Tryz.prog w base sp held fuel' E cs' = some y → (∀ n ∈ y.1.weights Tryz.prog E, n ≤ reachBytes) → ∃ e, cs' = C e ∧ R e) :
    ∃ (p : Option Addr) (l : List α) (cap : Nat), cs = [.slice p l.length cap] ∧ l.length ≤ maxLen ∧ l.length * b ≤ reachBytes ∧ RowAt w p m C l ∧ ∀ e ∈ l, R e := by
  rcases DataW.trod_slice hu h with ⟨hs, _⟩ | ⟨a, len, cap, elems, rest, m', rfl, hs, hy2, hba, hlc, hcm, hel, hei, _⟩
  · exact ⟨none, [], 0, hs, by unfold maxLen; simp, by simp, .inl rfl, fun e he => by simp at he⟩
  · have hbig : (elems.length + rest.length) * b ≤ reachBytes := by
      refine hw _ ?_
      rw [hy2, weights_slice hu, hbe]
      simp
    have hlb : len * b ≤ reachBytes := Nat.le_trans (Nat.mul_le_mul_right b (by omega)) hbig
    have hlm : len ≤ maxLen := by
      have h1 : len * 1 ≤ len * b := Nat.mul_le_mul_left len hb0
      unfold reachBytes at hlb
      unfold maxLen
      omega
    have hkid : ∀ i, i < len → ∃ e : α, w.cells? base (a.add (i * m)) m = some (C e) ∧ R e := by
      intro i hi
      have h3 := hei i hi
      rw [hce] at h3
      have h4 : elems[i]? = some (elems[i]'(by omega)) := by simp [hel, hi]
      rw [h4] at h3
      obtain ⟨cs', hc', ht'⟩ := Option.bind_eq_some_iff.1 h3
      obtain ⟨e, rfl, he⟩ := hr m' cs' _ (by omega) ht' (fun q hq => hw q (by
        rw [hy2, weights_slice hu]
        refine List.mem_cons_of_mem _ (List.mem_append_left _ (weights_in (d := (elems[i]'(by omega)).1) ?_ q hq))
        exact List.mem_map.2 ⟨_, List.getElem_mem _, rfl⟩))
      exact ⟨e, hc', he⟩
    let ks : List α := List.ofFn fun i : Fin len => Classical.choose (hkid i.1 i.2)
    have hkl : ks.length = len := by simp [ks]
    have hks : ∀ i (hi : i < ks.length), w.cells? base (a.add (i * m)) m = some (C ks[i]) ∧ R ks[i] := by
      intro i hi
      have h3 := Classical.choose_spec (hkid i (by omega))
      simpa [ks] using h3
    refine ⟨some a, ks, cap, ?_, by omega, by rw [hkl]; exact hlb, ?_, ?_⟩
    · rw [hkl]; exact hs
    · by_cases h0 : len = 0
      · exact .inl (by omega)
      · refine .inr ?_
        obtain ⟨b', o, spot⟩ := a
        have hc0 := cells_at (hks 0 (by omega)).1 0 hm
        have hspot : spot = none := by
          cases hv : (C (ks[0]'(by omega)))[0]? with
          | none => exact absurd hv (hC _)
          | some u =>
            rw [hv] at hc0
            simpa [Addr.add] using World.cell?_spot hc0
        subst hspot
        have hat : ∀ i (hi : i < ks.length) q, q < m → w.cell? ⟨b', o + i * m + q, none⟩ = (C ks[i])[q]? := by
          intro i hi q hq
          have h3 := cells_at (hks i hi).1 q hq
          rwa [add_plain, add_plain] at h3
        have hlt : b' < w.heap.size := by
          have h5 := hat 0 (by omega) 0 hm
          cases hv : (C (ks[0]'(by omega)))[0]? with
          | none => exact absurd hv (hC _)
          | some u => rw [hv] at h5; exact lt_cell h5
        exact ⟨b', o, rfl, hlt, hat⟩
    · intro e he
      obtain ⟨i, hi, rfl⟩ := List.mem_iff_getElem.1 he
      exact (hks i hi).2

theorem cellsA : Tryz.prog.cellsOf 26 = 2 := by kernel_rfl
theorem cellsL : Tryz.prog.cellsOf 114 = 16 := by kernel_rfl
theorem cellsTs : Tryz.prog.cellsOf 24 = 1 := by kernel_rfl
theorem cellsLk : Tryz.prog.cellsOf 107 = 1 := by kernel_rfl
theorem cellsRl : Tryz.prog.cellsOf 108 = 1 := by kernel_rfl
theorem bytesTm : Tryz.prog.bytesOf 93 = 48 := by kernel_rfl
theorem weights_at (y0 y1 : DataW H) : (DataW.agg [y0, y1]).weights Tryz.prog 26 = y0.weights Tryz.prog 9 ++ (y1.weights Tryz.prog 24 ++ []) := by
  simp [DataW.weights, Tryz.underlying26, DataW.weightsEach]
theorem weights_lit (y0 y1 y2 y3 y4 : DataW H) : (DataW.agg [y0, y1, y2, y3, y4]).weights Tryz.prog 114 = y0.weights Tryz.prog 107 ++ (y1.weights Tryz.prog 26 ++ (y2.weights Tryz.prog 108 ++ (y3.weights Tryz.prog 112 ++ (y4.weights Tryz.prog 112 ++ [])))) := by
  simp [DataW.weights, Tryz.underlying114, DataW.weightsEach]
theorem take1 {α : Type} {cs : List α} {n : Nat} {s : α} (hl : cs.length = n + 1) (h : (cs.drop n).take 1 = [s]) : cs.drop n = [s] := by
  rwa [List.take_of_length_le (by simp [hl])] at h
def tmCells (t : Tm) : List Value := [.string t.v, .int .i8 t.x.k, .int .i64 t.x.n, .string t.x.t]
variable {w : World} {base : Nat} {sp : Nat → Bool} {held : Bool}
/-- A list of terms that reads as data. -/
theorem trod_terms {fuel : Nat} {cs : List Value} {x : DataW H × List MemPlace} (h : DataW.trod enc Tryz.prog w base sp held fuel 24 cs = some x) (hw : ∀ n ∈ x.1.weights Tryz.prog 24, n ≤ reachBytes) :
    ∃ (sv : Value) (ts : List Tm), cs = [sv] ∧ TmSl w sv ts ∧ TmsR ts ∧ ts.length ≤ 2932031007317 := by
  obtain ⟨p, ts, cap, rfl, hm, hb, hrow, hR⟩ := open_list (α := Tm) Tryz.underlying24 cellsT (by decide) bytesTm (by decide) tmCells (fun t => TmR t.v t.x.k t.x.n t.x.t) (fun t => by simp [tmCells]) h hw (fun f cs' y _ hy _ => by
    obtain ⟨v, k, n, t, rfl, _, hr, _⟩ := trod_term hy
    exact ⟨⟨v, ⟨k, n, t⟩⟩, rfl, hr⟩)
  refine ⟨_, ts, rfl, ⟨p, cap, rfl, hm, hrow.imp id fun ⟨a, o, hp, ha, hc⟩ => ?_⟩, hR, by unfold reachBytes at hb; omega⟩
  subst hp
  exact ⟨a, o, rfl, ⟨ha, fun i hi => ⟨hc i hi 0 (by omega), hc i hi 1 (by omega), hc i hi 2 (by omega), hc i hi 3 (by omega)⟩⟩⟩
/-- An atom that reads as data. -/
theorem trod_atom {fuel : Nat} {cs : List Value} {x : DataW H × List MemPlace} (h : DataW.trod enc Tryz.prog w base sp held fuel 26 cs = some x) (hw : ∀ n ∈ x.1.weights Tryz.prog 26, n ≤ reachBytes) :
    ∃ (p : ByteArray) (sv : Value) (ts : List Tm), cs = [.string p, sv] ∧ p.size ≤ maxLen ∧ TmSl w sv ts ∧ TmsR ts ∧ ts.length ≤ 2932031007317 := by
  obtain ⟨ys, m, rfl, rfl, hl, hn, hfs⟩ := DataW.trod_struct Tryz.underlying26 h
  rw [cellsA] at hl
  obtain ⟨y0, y1, rfl⟩ := list2 (show ys.length = 2 from hn)
  have h0 : DataW.trod enc Tryz.prog w base sp held m 9 ((cs.drop 0).take (Tryz.prog.cellsOf 9)) = some y0 := hfs 0 _ rfl
  have h1 : DataW.trod enc Tryz.prog w base sp held m 24 ((cs.drop 1).take (Tryz.prog.cellsOf 24)) = some y1 := hfs 1 _ rfl
  rw [cellsS] at h0
  rw [cellsTs] at h1
  obtain ⟨p, e0, _, s0⟩ := DataW.trod_string Tryz.underlying9 h0
  obtain ⟨sv, ts, e1, ht⟩ := trod_terms h1 (fun q hq => hw q (by
    show q ∈ (DataW.agg [y0.1, y1.1]).weights Tryz.prog 26
    rw [weights_at]; simp [hq]))
  refine ⟨p, sv, ts, ?_, s0, ht⟩
  have e0' : cs.take 1 = [.string p] := by simpa using e0
  rw [← List.take_append_drop 1 cs, e0', take1 hl e1]
  rfl
theorem list5 {α : Type} : ∀ {l : List α}, l.length = 5 → ∃ a b c d e, l = [a, b, c, d, e]
  | [a, b, c, d, e], _ => ⟨a, b, c, d, e, rfl⟩
def ltCells (d : Nat) (x : Lt d) : List Value := .int .i8 x.k :: .string x.p :: x.sv :: .int .i8 x.r :: (exCells d x.l ++ exCells d x.g)
theorem ltCells_cell {a o d : Nat} {x : Lt d} (h : ∀ q, q < 16 → w.cell? ⟨a, o + q, none⟩ = (ltCells d x)[q]?) : LtCell w a o x :=
  ⟨h 0 (by omega), h 1 (by omega), h 2 (by omega), h 3 (by omega), h 4 (by omega), h 5 (by omega), h 6 (by omega), h 7 (by omega), h 8 (by omega), h 9 (by omega), h 10 (by omega), h 11 (by omega), h 12 (by omega), h 13 (by omega), h 14 (by omega), h 15 (by omega)⟩
/-- A literal that reads as data. -/
theorem trod_lit {D fuel : Nat} (hD : fuel ≤ D) {cs : List Value} {x : DataW H × List MemPlace} (h : DataW.trod enc Tryz.prog w base sp held fuel 114 cs = some x) (hw : ∀ n ∈ x.1.weights Tryz.prog 114, n ≤ reachBytes) :
    ∃ y : Lt D, cs = ltCells D y ∧ LtAt w y ∧ LtR y ∧ LtB y := by
  obtain ⟨ys, m, rfl, rfl, hl, hn, hfs⟩ := DataW.trod_struct Tryz.underlying114 h
  rw [cellsL] at hl
  obtain ⟨y0, y1, y2, y3, y4, rfl⟩ := list5 (show ys.length = 5 from hn)
  have h0 : DataW.trod enc Tryz.prog w base sp held m 107 ((cs.drop 0).take (Tryz.prog.cellsOf 107)) = some y0 := hfs 0 _ rfl
  have h1 : DataW.trod enc Tryz.prog w base sp held m 26 ((cs.drop 1).take (Tryz.prog.cellsOf 26)) = some y1 := hfs 1 _ rfl
  have h2 : DataW.trod enc Tryz.prog w base sp held m 108 ((cs.drop 3).take (Tryz.prog.cellsOf 108)) = some y2 := hfs 2 _ rfl
  have h3 : DataW.trod enc Tryz.prog w base sp held m 112 ((cs.drop 4).take (Tryz.prog.cellsOf 112)) = some y3 := hfs 3 _ rfl
  have h4 : DataW.trod enc Tryz.prog w base sp held m 112 ((cs.drop 10).take (Tryz.prog.cellsOf 112)) = some y4 := hfs 4 _ rfl
  rw [cellsLk] at h0
  rw [cellsA] at h1
  rw [cellsRl] at h2
  rw [cellsE] at h3 h4
  have hwa : ∀ q, q ∈ y1.1.weights Tryz.prog 26 ∨ q ∈ y3.1.weights Tryz.prog 112 ∨ q ∈ y4.1.weights Tryz.prog 112 → q ≤ reachBytes := by
    intro q hq
    refine hw q ?_
    show q ∈ (DataW.agg [y0.1, y1.1, y2.1, y3.1, y4.1]).weights Tryz.prog 114
    rw [weights_lit]
    simp only [List.mem_append]
    rcases hq with hq | hq | hq
    · exact .inr (.inl hq)
    · exact .inr (.inr (.inr (.inl hq)))
    · exact .inr (.inr (.inr (.inr (.inl hq))))
  obtain ⟨k, e0, _, w0⟩ := DataW.trod_int Tryz.underlying107 h0
  obtain ⟨p, sv, ts, e1, hp, hts, htr, htb⟩ := trod_atom h1 (fun q hq => hwa q (.inl hq))
  obtain ⟨r, e2, _, w2⟩ := DataW.trod_int Tryz.underlying108 h2
  obtain ⟨l, e3, hl1, hl2, hl3⟩ := open_ex D m _ _ (by omega) h3 (fun q hq => hwa q (.inr (.inl hq)))
  obtain ⟨g, e4, hg1, hg2, hg3⟩ := open_ex D m _ _ (by omega) h4 (fun q hq => hwa q (.inr (.inr hq)))
  refine ⟨⟨k, p, ts, sv, r, l, g⟩, ?_, ⟨hts, hl1, hg1⟩, ⟨hp, htr, hl2, hg2⟩, ⟨htb, hl3, hg3⟩⟩
  have e0' : cs.take 1 = [.int .i8 k] := by simpa using e0
  have e4' : cs.drop 10 = exCells D g := by
    rwa [List.take_of_length_le (by simp [hl])] at e4
  rw [← List.take_append_drop 1 cs, ← List.take_append_drop 2 (cs.drop 1), List.drop_drop, ← List.take_append_drop 1 (cs.drop 3), List.drop_drop, ← List.take_append_drop 6 (cs.drop 4), List.drop_drop, e0', e1, e2, e3, e4']
  rfl
set_option maxRecDepth 100000 in
theorem open_atom {r : Reach} {b0 : Nat} {v : Value} {x : DataW H} {ps : List MemPlace} (hval : Value.okWide Tryz.prog w r b0 26 v) (hd : DataW.Trod enc Tryz.prog w base sp held 26 v x ps) (hw : ∀ n ∈ x.weights Tryz.prog 26, n ≤ reachBytes) :
    ∃ (p : ByteArray) (sv : Value) (ts : List Tm), v = .agg #[.string p, sv] ∧ p.size ≤ maxLen ∧ TmSl w sv ts ∧ TmsR ts ∧ ts.length ≤ 2932031007317 := by
  obtain ⟨cs, rfl, _⟩ := okWide_struct Tryz.underlying26 hval
  obtain ⟨n, hn⟩ := hd
  obtain ⟨p, sv, ts, hc, ht⟩ := trod_atom hn hw
  refine ⟨p, sv, ts, ?_, ht⟩
  have h2 : cs.toList = [.string p, sv] := hc
  have h3 : cs = #[.string p, sv] := Array.toList_inj.1 h2
  rw [h3]
set_option maxRecDepth 100000 in
theorem open_lit {r : Reach} {b0 : Nat} {v : Value} {x : DataW H} {ps : List MemPlace} (hval : Value.okWide Tryz.prog w r b0 114 v) (hd : DataW.Trod enc Tryz.prog w base sp held 114 v x ps) (hw : ∀ n ∈ x.weights Tryz.prog 114, n ≤ reachBytes) :
    ∃ (d : Nat) (y : Lt d), v = .agg ⟨ltCells d y⟩ ∧ LtAt w y ∧ LtR y ∧ LtB y := by
  obtain ⟨cs, rfl, _⟩ := okWide_struct Tryz.underlying114 hval
  obtain ⟨n, hn⟩ := hd
  obtain ⟨y, hc, ht⟩ := trod_lit (D := n) (Nat.le_refl _) hn hw
  refine ⟨n, y, ?_, ht⟩
  have h3 : cs = ⟨ltCells n y⟩ := by
    have h2 : cs.toList = ltCells n y := hc
    rw [← h2]
  rw [h3]
end
end Go.Proofs.YtafjjececdhmjaaGreat
