/- How an expression's cells lie where it reads as data, its lists, and how long they may be. Conditions: no slice takes more bytes than the reach of a row. -/
import Derived.Test.YtlghiakckkhekaaDoorRd
import Derived.Test.YtlghiakckkhekaaDoorT7
namespace Go.Proofs.YtlghiakckkhekaaDoor
open Go.RowKit Go.ChangeShapes Go.WideShapes

theorem cellsE : Tryd.prog.cellsOf 36 = 6 := by kernel_rfl
theorem cellsO : Tryd.prog.cellsOf 33 = 1 := by kernel_rfl
theorem cellsKs : Tryd.prog.cellsOf 34 = 1 := by kernel_rfl
theorem bytesE : Tryd.prog.bytesOf 36 = 80 := by kernel_rfl
theorem lt_cell {w : World} {g i : Nat} {v : Value} (h : w.cell? ⟨g, i, none⟩ = some v) : g < w.heap.size := by
  rcases Nat.lt_or_ge g w.heap.size with hlt | hlt
  · exact hlt
  · exfalso
    simp [World.cell?, Array.getElem?_eq_none hlt] at h
theorem cells_at {w : World} {base n : Nat} {a : Addr} {cs : List Value} (h : w.cells? base a n = some cs) (i : Nat) (hi : i < n) : w.cell? (a.add i) = cs[i]? := by
  unfold World.cells? at h
  split at h
  · exact mapM_some_get h i i (by simp [hi])
  · cases h
section
variable {H : Type} {enc : TypeId × Value → H}
theorem weights_ex (y0 y1 y2 : DataW H) : (DataW.agg [y0, y1, y2]).weights Tryd.prog 36 = y0.weights Tryd.prog 33 ++ (y1.weights Tryd.prog 27 ++ (y2.weights Tryd.prog 34 ++ [])) := by
  simp [DataW.weights, Tryd.underlying36, DataW.weightsEach]
theorem weights_kids (es rest : List (DataW H)) : (DataW.slice es rest).weights Tryd.prog 34 = (es.length + rest.length) * 80 :: (DataW.weightsAll Tryd.prog 36 es ++ DataW.weightsAll Tryd.prog 36 rest) := by
  simp [DataW.weights, Tryd.underlying34, bytesE]
theorem weights_in {e : TypeId} : ∀ {l : List (DataW H)} {d : DataW H}, d ∈ l → ∀ n ∈ d.weights Tryd.prog e, n ∈ DataW.weightsAll Tryd.prog e l
  | x :: r, d, hd, n, hn => by
    rcases List.mem_cons.1 hd with rfl | hd
    · exact List.mem_append_left _ hn
    · exact List.mem_append_right _ (weights_in hd n hn)
theorem open_ex {w : World} {base : Nat} {sp : Nat → Bool} {held : Bool} : ∀ (d fuel : Nat) (cs : List Value) (x : DataW H × List MemPlace), fuel ≤ 2 * d → DataW.trod enc Tryd.prog w base sp held fuel 36 cs = some x →
    (∀ n ∈ x.1.weights Tryd.prog 36, n ≤ reachBytes) → ∃ e : Ex d, cs = exCells d e ∧ ExAt w d e ∧ ExR d e ∧ ExB d e
  | 0, fuel, cs, x, hf, h, _ => by
    obtain rfl : fuel = 0 := by omega
    simp [DataW.trod] at h
  | d + 1, fuel, cs, x, hf, h, hw => by
    obtain ⟨ys, m, rfl, rfl, hl, hn, hfs⟩ := DataW.trod_struct Tryd.underlying36 h
    rw [cellsE] at hl
    obtain ⟨y0, y1, y2, rfl⟩ := list3 (show ys.length = 3 from hn)
    have h0 : DataW.trod enc Tryd.prog w base sp held m 33 ((cs.drop 0).take (Tryd.prog.cellsOf 33)) = some y0 := hfs 0 _ rfl
    have h1 : DataW.trod enc Tryd.prog w base sp held m 27 ((cs.drop 1).take (Tryd.prog.cellsOf 27)) = some y1 := hfs 1 _ rfl
    have h2 : DataW.trod enc Tryd.prog w base sp held m 34 ((cs.drop 5).take (Tryd.prog.cellsOf 34)) = some y2 := hfs 2 _ rfl
    rw [cellsO] at h0
    rw [cellsT] at h1
    rw [cellsKs] at h2
    obtain ⟨op, e0, _, w0⟩ := DataW.trod_int Tryd.underlying33 h0
    obtain ⟨v, k, n, t, e1, hk, hr, _⟩ := trod_term h1
    have hwk : ∀ q ∈ y2.1.weights Tryd.prog 34, q ≤ reachBytes := by
      intro q hq
      refine hw q ?_
      show q ∈ (DataW.agg [y0.1, y1.1, y2.1]).weights Tryd.prog 36
      rw [weights_ex]
      simp [hq]
    have hcells : ∀ (s : Value), cs.drop 5 = [s] → cs = [.int .i8 op, .string v, .int .i8 k, .int .i64 n, .string t, s] := by
      intro s hs
      have e0' : cs.take 1 = [.int .i8 op] := by simpa using e0
      have e1' : (cs.drop 1).take 4 = [.string v, .int .i8 k, .int .i64 n, .string t] := e1
      have h3 : cs = cs.take 1 ++ ((cs.drop 1).take 4 ++ (cs.drop 1).drop 4) := by rw [List.take_append_drop, List.take_append_drop]
      rw [List.drop_drop, e0', e1', hs] at h3
      exact h3
    have e2 : ∀ (s : Value), (cs.drop 5).take 1 = [s] → cs.drop 5 = [s] := by
      intro s hs
      have h3 : (cs.drop 5).length = 1 := by simp [hl]
      rw [List.take_of_length_le (by omega)] at hs
      exact hs
    rcases DataW.trod_slice Tryd.underlying34 h2 with ⟨hs, _⟩ | ⟨a, len, cap, elems, rest, m', rfl, hs, hy2, hba, hlc, hcm, hel, hei, _⟩
    · refine ⟨(op, ⟨v, ⟨k, n, t⟩⟩, .slice none 0 0, []), hcells _ (e2 _ hs), ⟨none, 0, rfl, by unfold maxLen; simp, .inl rfl, fun k hk => by simp at hk⟩, ⟨bounds_i8 w0, hr, fun k hk => by simp at hk⟩, ⟨by simp, fun k hk => by simp at hk⟩⟩
    · have hbig : (elems.length + rest.length) * 80 ≤ reachBytes := by
        refine hwk _ ?_
        rw [hy2, weights_kids]
        simp
      have hlen : len ≤ 2199023255552 := by
        unfold reachBytes at hbig
        omega
      have hkid : ∀ i, i < len → ∃ e : Ex d, w.cells? base (a.add (i * 6)) 6 = some (exCells d e) ∧ ExAt w d e ∧ ExR d e ∧ ExB d e := by
        intro i hi
        have h3 := hei i hi
        rw [cellsE] at h3
        have h4 : elems[i]? = some (elems[i]'(by omega)) := by simp [hel, hi]
        rw [h4] at h3
        obtain ⟨cs', hc', ht'⟩ := Option.bind_eq_some_iff.1 h3
        obtain ⟨e, rfl, he⟩ := open_ex d m' cs' _ (by omega) ht' (fun q hq => hwk q (by
          rw [hy2, weights_kids]
          refine List.mem_cons_of_mem _ (List.mem_append_left _ (weights_in (d := (elems[i]'(by omega)).1) ?_ q hq))
          exact List.mem_map.2 ⟨_, List.getElem_mem _, rfl⟩))
        exact ⟨e, hc', he⟩
      let ks : List (Ex d) := List.ofFn fun i : Fin len => Classical.choose (hkid i.1 i.2)
      have hkl : ks.length = len := by simp [ks]
      have hks : ∀ i (hi : i < ks.length), w.cells? base (a.add (i * 6)) 6 = some (exCells d ks[i]) ∧ ExAt w d ks[i] ∧ ExR d ks[i] ∧ ExB d ks[i] := by
        intro i hi
        have h3 := Classical.choose_spec (hkid i (by omega))
        simpa [ks] using h3
      refine ⟨(op, ⟨v, ⟨k, n, t⟩⟩, .slice (some a) len cap, ks), hcells _ (e2 _ hs), ⟨some a, cap, ?_, ?_, ?_, ?_⟩, ⟨bounds_i8 w0, hr, ?_⟩, ⟨?_, ?_⟩⟩
      · show Value.slice (some a) len cap = .slice (some a) ks.length cap
        rw [hkl]
      · show ks.length ≤ maxLen
        unfold maxLen
        omega
      · by_cases h0 : len = 0
        · exact .inl (by show ks.length = 0; omega)
        · refine .inr ?_
          obtain ⟨b, o, spot⟩ := a
          have hc0 := cells_at (hks 0 (by omega)).1 0 (by omega)
          have hspot : spot = none := by simpa [Addr.add] using World.cell?_spot hc0
          subst hspot
          have hat : ∀ i (hi : i < ks.length) q, q < 6 → w.cell? ⟨b, o + i * 6 + q, none⟩ = (exCells d ks[i])[q]? := by
            intro i hi q hq
            have h3 := cells_at (hks i hi).1 q hq
            rwa [add_plain, add_plain] at h3
          have hlt : b < w.heap.size := lt_cell (hat 0 (by omega) 0 (by omega))
          refine ⟨b, o, rfl, hlt, fun i hi => ?_⟩
          have hi' : i < ks.length := hi
          exact ⟨hat i hi' 0 (by omega), hat i hi' 1 (by omega), hat i hi' 2 (by omega), hat i hi' 3 (by omega), hat i hi' 4 (by omega), hat i hi' 5 (by omega)⟩
      · intro q hq
        obtain ⟨i, hi, rfl⟩ := List.mem_iff_getElem.1 hq
        exact (hks i hi).2.1
      · intro q hq
        obtain ⟨i, hi, rfl⟩ := List.mem_iff_getElem.1 hq
        exact (hks i hi).2.2.1
      · show ks.length ≤ _
        omega
      · intro q hq
        obtain ⟨i, hi, rfl⟩ := List.mem_iff_getElem.1 hq
        exact (hks i hi).2.2.2
set_option maxRecDepth 100000 in
/-- An argument that is an expression. -/
theorem open_expr {w : World} {base : Nat} {sp : Nat → Bool} {held : Bool} {r : Reach} {b0 : Nat} {v : Value} {x : DataW H} {ps : List MemPlace} (hval : Value.okWide Tryd.prog w r b0 36 v) (hd : DataW.Trod enc Tryd.prog w base sp held 36 v x ps)
    (hw : ∀ n ∈ x.weights Tryd.prog 36, n ≤ reachBytes) :
    ∃ (d : Nat) (e : Ex d), v = .agg #[.int .i8 (exOp d e), .string (exTm d e).v, .int .i8 (exTm d e).x.k, .int .i64 (exTm d e).x.n, .string (exTm d e).x.t, exSl d e] ∧ ExAt w d e ∧ ExR d e ∧ ExB d e := by
  obtain ⟨cs, rfl, _⟩ := okWide_struct Tryd.underlying36 hval
  obtain ⟨n, hn⟩ := hd
  obtain ⟨e, hc, he⟩ := open_ex n n _ _ (by omega) hn hw
  refine ⟨n, e, ?_, he⟩
  have h2 : cs.toList = exCells n e := hc
  have h3 : cs = #[.int .i8 (exOp n e), .string (exTm n e).v, .int .i8 (exTm n e).x.k, .int .i64 (exTm n e).x.n, .string (exTm n e).x.t, exSl n e] := Array.toList_inj.1 h2
  rw [h3]
end
end Go.Proofs.YtlghiakckkhekaaDoor
