/- How lists of tokens lie where they read as data. Conditions: none. -/
import Derived.Test.YtcigdlpljjkplaaDoorRh
namespace Go.Proofs.YtcigdlpljjkplaaDoor
open Go.RowKit Go.ChangeShapes Go.WideShapes

theorem rt_cells {w : World} {base n : Nat} {a : Addr} {cs : List Value} (h : w.cells? base a n = some cs) (i : Nat) (hi : i < n) : w.cell? (a.add i) = cs[i]? := by
  unfold World.cells? at h
  split at h
  · exact mapM_some_get h i i (by simp [hi])
  · cases h
theorem rt_lt {w : World} {g i : Nat} {v : Value} (h : w.cell? ⟨g, i, none⟩ = some v) : g < w.heap.size := lt_of_cell h
section
variable {H : Type} {enc : TypeId × Value → H} {w : World} {base : Nat} {sp : Nat → Bool} {held : Bool}
/-- A list of tokens that reads as data. -/
theorem trod_tokens {fuel : Nat} {cs : List Value} {x : DataW H × List MemPlace} (h : DataW.trod enc Tryd.prog w base sp held fuel 22 cs = some x) :
    ∃ (p : Option Addr) (l : List Tk) (cap : Nat), cs = [.slice p l.length cap] ∧ l.length ≤ maxLen ∧ TksAt w p l ∧ (∀ e ∈ l, TkR e) ∧ (p = none → cap = 0) := by
  rcases DataW.trod_slice Tryd.underlying22 h with ⟨hs, _⟩ | ⟨a, len, cap, elems, rest, m', rfl, hs, hy2, hba, hlc, hcm, hel, hei, _⟩
  · exact ⟨none, [], 0, hs, by unfold maxLen; simp, .inl rfl, fun e he => by simp at he, fun _ => rfl⟩
  · have hkid : ∀ i, i < len → ∃ e : Tk, w.cells? base (a.add (i * 4)) 4 = some e.cells ∧ TkR e := by
      intro i hi
      have h3 := hei i hi
      rw [cellsTk] at h3
      have h4 : elems[i]? = some (elems[i]'(by omega)) := by simp [hel, hi]
      rw [h4] at h3
      obtain ⟨cs', hc', ht'⟩ := Option.bind_eq_some_iff.1 h3
      obtain ⟨e, rfl, he⟩ := trod_token ht'
      exact ⟨e, hc', he⟩
    let ks : List Tk := List.ofFn fun i : Fin len => Classical.choose (hkid i.1 i.2)
    have hkl : ks.length = len := by simp [ks]
    have hks : ∀ i (hi : i < ks.length), w.cells? base (a.add (i * 4)) 4 = some ks[i].cells ∧ TkR ks[i] := by
      intro i hi
      have h3 := Classical.choose_spec (hkid i (by omega))
      simpa [ks] using h3
    refine ⟨some a, ks, cap, by rw [hkl]; exact hs, by omega, ?_, ?_, fun e => by cases e⟩
    · by_cases h0 : len = 0
      · exact .inl (by omega)
      · refine .inr ?_
        obtain ⟨b', o, spot⟩ := a
        have hc0 := rt_cells (hks 0 (by omega)).1 0 (by omega)
        have hspot : spot = none := by simpa [Addr.add] using World.cell?_spot hc0
        subst hspot
        have hat : ∀ i (hi : i < ks.length) q, q < 4 → w.cell? ⟨b', o + i * 4 + q, none⟩ = ks[i].cells[q]? := by
          intro i hi q hq
          have h3 := rt_cells (hks i hi).1 q hq
          rwa [Go.WideShapes.add_plain, Go.WideShapes.add_plain] at h3
        have hlt : b' < w.heap.size := rt_lt (hat 0 (by omega) 0 (by omega))
        exact ⟨b', o, rfl, hlt, fun i hi => ⟨hat i hi 0 (by omega), hat i hi 1 (by omega), hat i hi 2 (by omega), hat i hi 3 (by omega)⟩⟩
    · intro e he
      obtain ⟨i, hi, rfl⟩ := List.mem_iff_getElem.1 he
      exact (hks i hi).2
set_option maxRecDepth 100000 in
theorem open_tokens {r : Reach} {b0 : Nat} {v : Value} {x : DataW H} {ps : List MemPlace} (hval : Value.okWide Tryd.prog w r b0 22 v) (hd : DataW.Trod enc Tryd.prog w base sp held 22 v x ps) :
    ∃ (p : Option Addr) (cap : Nat) (l : List Tk), v = .slice p l.length cap ∧ TksAt w p l ∧ l.length ≤ maxLen ∧ (∀ e ∈ l, TkR e) ∧ (p = none → cap = 0) := by
  obtain ⟨a, len, c, rfl⟩ := okWide_slice Tryd.underlying22 hval
  obtain ⟨n, hn⟩ := hd
  obtain ⟨p, l, cap, hc, hm, hrow, hR, hnil⟩ := trod_tokens hn
  exact ⟨p, cap, l, by simpa [Value.cells] using hc, hrow, hm, hR, hnil⟩
end
end Go.Proofs.YtcigdlpljjkplaaDoor
