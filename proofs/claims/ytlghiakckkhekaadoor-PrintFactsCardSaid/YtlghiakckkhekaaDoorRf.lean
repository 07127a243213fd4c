/- How lists of facts lie where they read as data. Conditions: no slice takes more bytes than the reach of a row. -/
import Derived.Test.YtlghiakckkhekaaDoorMH
import Derived.Test.YtlghiakckkhekaaDoorV2
namespace Go.Proofs.YtlghiakckkhekaaDoor
open Go.RowKit Go.ChangeShapes Go.WideShapes

section
variable {H : Type} {enc : TypeId × Value → H}
theorem weights_slice {T E : TypeId} (hu : Tryd.prog.underlying T = some (.slice E)) (es rest : List (DataW H)) :
    (DataW.slice es rest).weights Tryd.prog T = (es.length + rest.length) * Tryd.prog.bytesOf E :: (DataW.weightsAll Tryd.prog E es ++ DataW.weightsAll Tryd.prog E rest) := by
  simp [DataW.weights, hu]
/-- A row of records, each with its cells. -/
def RowAt {α : Type} (w : World) (p : Option Addr) (m : Nat) (C : α → List Value) (l : List α) : Prop :=
  l.length = 0 ∨ ∃ a o, p = some ⟨a, o, none⟩ ∧ a < w.heap.size ∧ ∀ i, (h : i < l.length) → ∀ q, q < m → w.cell? ⟨a, o + i * m + q, none⟩ = (C l[i])[q]?
/-- A list that reads as data: its records. -/
theorem open_list {α : Type} {w : World} {base : Nat} {sp : Nat → Bool} {held : Bool} {fuel : Nat} {T E : TypeId} {m b : Nat} {cs : List Value} {x : DataW H × List MemPlace} (hu : Tryd.prog.underlying T = some (.slice E)) (hce : Tryd.prog.cellsOf E = m) (hm : 0 < m)
    (hbe : Tryd.prog.bytesOf E = b) (hb0 : 0 < b) (C : α → List Value) (R : α → Prop) (hC : ∀ e, (C e)[0]? ≠ none) (h : DataW.trod enc Tryd.prog w base sp held fuel T cs = some x) (hw : ∀ n ∈ x.1.weights Tryd.prog T, n ≤ reachBytes)
    (hr : ∀ fuel' cs' y, fuel' < fuel → DataW.trod enc Tryd.prog w base sp held fuel' E cs' = some y → (∀ n ∈ y.1.weights Tryd.prog E, n ≤ reachBytes) → ∃ e, cs' = C e ∧ R e) :
    ∃ (p : Option Addr) (l : List α) (cap : Nat), cs = [.slice p l.length cap] ∧ l.length ≤ maxLen ∧ l.length * b ≤ reachBytes ∧ RowAt w p m C l ∧ ∀ e ∈ l, R e := by
  rcases DataW.trod_slice hu h with ⟨hs, _⟩ | ⟨a, len, cap, elems, rest, m', rfl, hs, hy2, hba, hlc, hcm, hel, hei, _⟩
  · exact ⟨none, [], 0, hs, by unfold maxLen; simp, by simp, .inl rfl, fun e he => by simp at he⟩
  · have hbig : (elems.length + rest.length) * b ≤ reachBytes := by
      refine hw _ ?_
      rw [hy2, weights_slice hu, hbe]
      simp
    have hlb : len * b ≤ reachBytes := Nat.le_trans (Nat.mul_le_mul_right b (by omega)) hbig
    have hlm : len ≤ maxLen := by
      have h1 : len * 1 ≤ len * b := Nat.mul_le_mul_left len hb0
      unfold reachBytes at hlb
      unfold maxLen
      omega
    have hkid : ∀ i, i < len → ∃ e : α, w.cells? base (a.add (i * m)) m = some (C e) ∧ R e := by
      intro i hi
      have h3 := hei i hi
      rw [hce] at h3
      have h4 : elems[i]? = some (elems[i]'(by omega)) := by simp [hel, hi]
      rw [h4] at h3
      obtain ⟨cs', hc', ht'⟩ := Option.bind_eq_some_iff.1 h3
      obtain ⟨e, rfl, he⟩ := hr m' cs' _ (by omega) ht' (fun q hq => hw q (by
        rw [hy2, weights_slice hu]
        refine List.mem_cons_of_mem _ (List.mem_append_left _ (weights_in (d := (elems[i]'(by omega)).1) ?_ q hq))
        exact List.mem_map.2 ⟨_, List.getElem_mem _, rfl⟩))
      exact ⟨e, hc', he⟩
    let ks : List α := List.ofFn fun i : Fin len => Classical.choose (hkid i.1 i.2)
    have hkl : ks.length = len := by simp [ks]
    have hks : ∀ i (hi : i < ks.length), w.cells? base (a.add (i * m)) m = some (C ks[i]) ∧ R ks[i] := by
      intro i hi
      have h3 := Classical.choose_spec (hkid i (by omega))
      simpa [ks] using h3
    refine ⟨some a, ks, cap, ?_, by omega, by rw [hkl]; exact hlb, ?_, ?_⟩
    · rw [hkl]; exact hs
    · by_cases h0 : len = 0
      · exact .inl (by omega)
      · refine .inr ?_
        obtain ⟨b', o, spot⟩ := a
        have hc0 := cells_at (hks 0 (by omega)).1 0 hm
        have hspot : spot = none := by
          cases hv : (C (ks[0]'(by omega)))[0]? with
          | none => exact absurd hv (hC _)
          | some u =>
            rw [hv] at hc0
            simpa [Addr.add] using World.cell?_spot hc0
        subst hspot
        have hat : ∀ i (hi : i < ks.length) q, q < m → w.cell? ⟨b', o + i * m + q, none⟩ = (C ks[i])[q]? := by
          intro i hi q hq
          have h3 := cells_at (hks i hi).1 q hq
          rwa [add_plain, add_plain] at h3
        have hlt : b' < w.heap.size := by
          have h5 := hat 0 (by omega) 0 hm
          cases hv : (C (ks[0]'(by omega)))[0]? with
          | none => exact absurd hv (hC _)
          | some u => rw [hv] at h5; exact lt_cell h5
        exact ⟨b', o, rfl, hlt, hat⟩
    · intro e he
      obtain ⟨i, hi, rfl⟩ := List.mem_iff_getElem.1 he
      exact (hks i hi).2

theorem cellsF : Tryd.prog.cellsOf 48 = 2 := by kernel_rfl
theorem cellsVs : Tryd.prog.cellsOf 46 = 1 := by kernel_rfl
theorem bytesVl : Tryd.prog.bytesOf 25 = 32 := by kernel_rfl
theorem bytesFc : Tryd.prog.bytesOf 48 = 40 := by kernel_rfl
theorem weights_fc (y0 y1 : DataW H) : (DataW.agg [y0, y1]).weights Tryd.prog 48 = y0.weights Tryd.prog 9 ++ (y1.weights Tryd.prog 46 ++ []) := by
  simp [DataW.weights, Tryd.underlying48, DataW.weightsEach]
theorem take1 {α : Type} {cs : List α} {n : Nat} {s : α} (hl : cs.length = n + 1) (h : (cs.drop n).take 1 = [s]) : cs.drop n = [s] := by
  rwa [List.take_of_length_le (by simp [hl])] at h
def vlCells (x : Vl) : List Value := [.int .i8 x.k, .int .i64 x.n, .string x.t]
variable {w : World} {base : Nat} {sp : Nat → Bool} {held : Bool}
/-- A list of values that reads as data. -/
theorem trod_values {fuel : Nat} {cs : List Value} {x : DataW H × List MemPlace} (h : DataW.trod enc Tryd.prog w base sp held fuel 46 cs = some x) (hw : ∀ n ∈ x.1.weights Tryd.prog 46, n ≤ reachBytes) :
    ∃ (sv : Value) (ts : List Vl), cs = [sv] ∧ VlSl w sv ts ∧ VlsR ts ∧ ts.length ≤ 4398046511104 := by
  obtain ⟨p, ts, cap, rfl, hm, hb, hrow, hR⟩ := open_list (α := Vl) Tryd.underlying46 cellsV (by decide) bytesVl (by decide) vlCells (fun t => VlR t.k t.n t.t) (fun t => by simp [vlCells]) h hw (fun f cs' y _ hy _ => by
    obtain ⟨k, n, t, rfl, _, hr, _⟩ := trod_value hy
    exact ⟨⟨k, n, t⟩, rfl, hr⟩)
  refine ⟨_, ts, rfl, ⟨p, cap, rfl, hm, hrow.imp id fun ⟨a, o, hp, ha, hc⟩ => ?_⟩, hR, by unfold reachBytes at hb; omega⟩
  subst hp
  exact ⟨a, o, rfl, ⟨ha, fun i hi => ⟨hc i hi 0 (by omega), hc i hi 1 (by omega), hc i hi 2 (by omega)⟩⟩⟩
/-- A fact that reads as data. -/
theorem trod_fact {fuel : Nat} {cs : List Value} {x : DataW H × List MemPlace} (h : DataW.trod enc Tryd.prog w base sp held fuel 48 cs = some x) (hw : ∀ n ∈ x.1.weights Tryd.prog 48, n ≤ reachBytes) :
    ∃ f : Fc, cs = [.string f.p, f.sv] ∧ FcR f ∧ VlSl w f.sv f.xs := by
  obtain ⟨ys, m, rfl, rfl, hl, hn, hfs⟩ := DataW.trod_struct Tryd.underlying48 h
  rw [cellsF] at hl
  obtain ⟨y0, y1, rfl⟩ := list2 (show ys.length = 2 from hn)
  have h0 : DataW.trod enc Tryd.prog w base sp held m 9 ((cs.drop 0).take (Tryd.prog.cellsOf 9)) = some y0 := hfs 0 _ rfl
  have h1 : DataW.trod enc Tryd.prog w base sp held m 46 ((cs.drop 1).take (Tryd.prog.cellsOf 46)) = some y1 := hfs 1 _ rfl
  rw [cellsS] at h0
  rw [cellsVs] at h1
  obtain ⟨p, e0, _, s0⟩ := DataW.trod_string Tryd.underlying9 h0
  obtain ⟨sv, ts, e1, ht, hr, hb⟩ := trod_values h1 (fun q hq => hw q (by
    show q ∈ (DataW.agg [y0.1, y1.1]).weights Tryd.prog 48
    rw [weights_fc]; simp [hq]))
  refine ⟨⟨p, ts, sv⟩, ?_, ⟨s0, hr, hb⟩, ht⟩
  have e0' : cs.take 1 = [.string p] := by simpa using e0
  rw [← List.take_append_drop 1 cs, e0', take1 hl e1]
  rfl
set_option maxRecDepth 100000 in
theorem open_facts {r : Reach} {b0 : Nat} {v : Value} {x : DataW H} {ps : List MemPlace} (hval : Value.okWide Tryd.prog w r b0 41 v) (hd : DataW.Trod enc Tryd.prog w base sp held 41 v x ps) (hw : ∀ n ∈ x.weights Tryd.prog 41, n ≤ reachBytes) :
    ∃ (p : Option Addr) (cap : Nat) (fs : List Fc), v = .slice p fs.length cap ∧ FcsAt w p fs ∧ (∀ f ∈ fs, FcR f) ∧ fs.length ≤ 4398046511104 := by
  obtain ⟨a, len, c, rfl⟩ := okWide_slice Tryd.underlying41 hval
  obtain ⟨n, hn⟩ := hd
  obtain ⟨p, fs, cap, hc, hm, hb, hrow, hR⟩ := open_list (α := Fc) Tryd.underlying41 cellsF (by decide) bytesFc (by decide) (fun f => [.string f.p, f.sv]) (fun f => FcR f ∧ VlSl w f.sv f.xs) (fun t => by simp) hn hw (fun f cs' y _ hy hwy => by
    obtain ⟨g, rfl, h1, h2⟩ := trod_fact hy hwy
    exact ⟨g, rfl, h1, h2⟩)
  refine ⟨p, cap, fs, by simpa [Value.cells] using hc, ⟨hrow.imp id fun ⟨a, o, hp, ha, hc⟩ => ⟨a, o, hp, ha, fun i hi => ⟨hc i hi 0 (by omega), hc i hi 1 (by omega)⟩⟩, fun f hf => (hR f hf).2⟩, fun f hf => (hR f hf).1, by unfold reachBytes at hb; omega⟩
end
end Go.Proofs.YtlghiakckkhekaaDoor
