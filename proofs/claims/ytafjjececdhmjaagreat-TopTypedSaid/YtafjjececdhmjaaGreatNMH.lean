/- How arguments lie in memory; the tables out of a row. Conditions: each part says its own. -/
import Derived.Test.YtafjjececdhmjaaGreatNMC
import Derived.OpenShut
import Derived.LaidSub
import Derived.ReadAgain
import Derived.Lib.LaidTab
import Derived.Test.YtafjjececdhmjaaGreatNMG
/- How a term's cells lie where it reads as data; what a law's end owes where nothing that was there has turned. Conditions: none. -/
namespace Go.Proofs.YtafjjececdhmjaaGreat
open Go.RowKit Go.ChangeShapes Go.WideShapes

theorem cellsV : Tryz.prog.cellsOf 91 = 3 := by kernel_rfl
theorem cellsT : Tryz.prog.cellsOf 93 = 4 := by kernel_rfl
theorem cellsK : Tryz.prog.cellsOf 89 = 1 := by kernel_rfl
theorem cellsI : Tryz.prog.cellsOf 2 = 1 := by kernel_rfl
theorem cellsS : Tryz.prog.cellsOf 9 = 1 := by kernel_rfl
theorem list2 {α : Type} : ∀ {l : List α}, l.length = 2 → ∃ a b, l = [a, b]
  | [a, b], _ => ⟨a, b, rfl⟩
theorem list3 {α : Type} : ∀ {l : List α}, l.length = 3 → ∃ a b c, l = [a, b, c]
  | [a, b, c], _ => ⟨a, b, c, rfl⟩
theorem list4 {α : Type} : ∀ {l : List α}, l.length = 4 → ∃ a b c d, l = [a, b, c, d]
  | [a, b, c, d], _ => ⟨a, b, c, d, rfl⟩
section
variable {H : Type} {enc : TypeId × Value → H} {w : World} {base : Nat} {sp : Nat → Bool} {held : Bool} {fuel : Nat} {cs : List Value} {x : DataW H × List MemPlace}

theorem trod_value (h : DataW.trod enc Tryz.prog w base sp held fuel 91 cs = some x) :
    ∃ k n t, cs = [.int .i8 k, .int .i64 n, .string t] ∧ (-128 ≤ k ∧ k ≤ 127) ∧ VlR k n t ∧ x = (.agg [.lit (.int .i8 k), .lit (.int .i64 n), .lit (.string t.data.toList)], []) := by
  obtain ⟨ys, m, _, rfl, hl, hn, hf⟩ := DataW.trod_struct Tryz.underlying91 h
  rw [cellsV] at hl
  obtain ⟨a, b, c, rfl⟩ := list3 hl
  obtain ⟨y0, y1, y2, rfl⟩ := list3 (show ys.length = 3 from hn)
  have h0 := hf 0 _ rfl
  have h1 := hf 1 _ rfl
  have h2 := hf 2 _ rfl
  simp [cellsK, cellsI, cellsS] at h0 h1 h2
  obtain ⟨k, e0, rfl, wk⟩ := DataW.trod_int Tryz.underlying89 h0
  obtain ⟨n, e1, rfl, wn⟩ := DataW.trod_int Tryz.underlying2 h1
  obtain ⟨t, e2, rfl, st⟩ := DataW.trod_string Tryz.underlying9 h2
  simp at e0 e1 e2
  subst e0 e1 e2
  have bn := bounds_i64 wn
  exact ⟨k, n, t, rfl, bounds_i8 wk, ⟨bn.1, bn.2, st⟩, rfl⟩
theorem trod_term (h : DataW.trod enc Tryz.prog w base sp held fuel 93 cs = some x) :
    ∃ v k n t, cs = [.string v, .int .i8 k, .int .i64 n, .string t] ∧ (-128 ≤ k ∧ k ≤ 127) ∧ TmR v k n t ∧ x = (.agg [.lit (.string v.data.toList), .agg [.lit (.int .i8 k), .lit (.int .i64 n), .lit (.string t.data.toList)]], []) := by
  obtain ⟨ys, m, _, rfl, hl, hn, hf⟩ := DataW.trod_struct Tryz.underlying93 h
  rw [cellsT] at hl
  obtain ⟨a, b, c, d, rfl⟩ := list4 hl
  obtain ⟨y0, y1, rfl⟩ := list2 (show ys.length = 2 from hn)
  have h0 := hf 0 _ rfl
  have h1 := hf 1 _ rfl
  simp [cellsV, cellsS] at h0 h1
  obtain ⟨v, e0, rfl, sv⟩ := DataW.trod_string Tryz.underlying9 h0
  obtain ⟨k, n, t, e1, hk, hr, rfl⟩ := trod_value h1
  simp at e0 e1
  obtain ⟨rfl, rfl, rfl⟩ := e1
  subst e0
  exact ⟨v, k, n, t, rfl, hk, ⟨hr, sv⟩, rfl⟩
set_option maxRecDepth 100000 in
/-- An argument that is a term. -/
theorem open_term {r : Reach} {b0 : Nat} {v : Value} {d : DataW H} {ps : List MemPlace} (hval : Value.okWide Tryz.prog w r b0 93 v) (hd : DataW.Trod enc Tryz.prog w base sp held 93 v d ps) :
    ∃ s k n t, v = .agg #[.string s, .int .i8 k, .int .i64 n, .string t] ∧ TmR s k n t := by
  obtain ⟨cs, rfl, _⟩ := okWide_struct Tryz.underlying93 hval
  obtain ⟨n, hn⟩ := hd
  obtain ⟨s, k, n, t, hc, _, hr, _⟩ := trod_term hn
  refine ⟨s, k, n, t, ?_, hr⟩
  have h2 : cs.toList = [.string s, .int .i8 k, .int .i64 n, .string t] := hc
  have h3 : cs = #[.string s, .int .i8 k, .int .i64 n, .string t] := Array.toList_inj.1 h2
  rw [h3]
end

/-- What is told of a string table in a row, cell for cell. -/
theorem trod_strings {H : Type} {enc : TypeId × Value → H} {w : World} {base : Nat} {sp : Nat → Bool} {held : Bool} {fuel : Nat} {cs : List Value} {t n : Nat} {ss : List (List UInt8)} {p : List MemPlace}
    (ht : Tryz.prog.underlying t = some (.array n 9)) (h : DataW.trod enc Tryz.prog w base sp held fuel t cs = some (.agg (ss.map fun s => .lit (.string s)), p)) (i : Nat) (hi : i < n) :
    cs[i]? = some (.string ⟨(ss.getD i []).toArray⟩) := by
  obtain ⟨xs, m, _, hx, hl, hn, hf⟩ := DataW.trod_array ht h
  have h1 := hf i hi
  rw [cellsS, Nat.mul_one] at h1
  have hxi : xs[i]? = some (xs[i]'(by omega)) := by simp [hn, hi]
  rw [hxi] at h1
  obtain ⟨s, e0, e1, _⟩ := DataW.trod_string Tryz.underlying9 h1
  have e2 : cs[i]? = some (.string s) := by
    have := congrArg (·[0]?) e0
    simpa [List.getElem?_take, List.getElem?_drop] using this
  rw [e2]
  have e3 : ss.map (fun s => (DataW.lit (.string s) : DataW H)) = xs.map (·.1) := by
    have := congrArg Prod.fst hx
    simpa using this
  have e4 := congrArg (·[i]?) e3
  simp only [List.getElem?_map, hxi, Option.map_some] at e4
  rw [e1] at e4
  simp only [Option.map_eq_some_iff, DataW.lit.injEq, Lit.string.injEq] at e4
  obtain ⟨z, hz, hzs⟩ := e4
  have : ss.getD i [] = s.data.toList := by rw [List.getD, hz, ← hzs]; rfl
  rw [this]
/-- A string table that a row lists: what a walk reads. -/
theorem str_table {W : World} {l : List (String × DataW Unit)} {name : String} {g t n : Nat} {ss : List (List UInt8)} (h : laidMetH Tryz.prog l W)
    (hk : (l.filter fun y => y.1 == name) = [(name, .agg (ss.map fun s => .lit (.string s)))]) (hg : Tryz.prog.globalNamed name = some g) (hty : (Tryz.prog.globals[g]?).map (·.type) = some t)
    (ht : Tryz.prog.underlying t = some (.array n 9)) (i : Nat) (hi : i < n) : W.cell? ⟨g, i, none⟩ = some (.string ⟨(ss.getD i []).toArray⟩) := by
  have h1 := h.filter fun y => y.1 == name
  rw [hk] at h1
  have h2 : laidMet Tryz.prog [(name, .agg (ss.map fun s => .lit (.string s)))] W := h1
  obtain ⟨ps, ⟨g', t', cs, fuel, p, q, hg', ht', hvar, hd, _, _⟩, _⟩ := h2
  obtain rfl := Option.some.inj (hg.symm.trans hg')
  obtain rfl := Option.some.inj (hty.symm.trans ht')
  rw [World.var?_cell hg hvar i, ← Array.getElem?_toList]
  exact trod_strings ht hd i hi
/-- A number table that a row lists. -/
theorem num_table {W : World} {l : List (String × DataW Unit)} {name : String} {g t e n : Nat} {k : IntKind} {zs : List Int} (h : laidMetH Tryz.prog l W)
    (hk : (l.filter fun y => y.1 == name) = [(name, Lib.tabData k zs)]) (hg : Tryz.prog.globalNamed name = some g) (hty : (Tryz.prog.globals[g]?).map (·.type) = some t)
    (ht : Tryz.prog.underlying t = some (.array n e)) (he : Tryz.prog.underlying e = some (.int k)) (hce : Tryz.prog.cellsOf e = 1) (hct : Tryz.prog.cellsOf t = n) : Lib.TabIs Tryz.prog W name k zs := by
  have h1 := h.filter fun y => y.1 == name
  rw [hk] at h1
  exact Lib.tabIs_of_head (rest := []) hg hty ht he hce hct h1

theorem kids : Kids Tryz.prog (· < Tryz.prog.types.size) := kids_rows (by kernel_rfl) (by kernel_rfl)
theorem slices_full : ∀ t e, t < Tryz.prog.types.size → Tryz.prog.underlying t = some (.slice e) → 0 < Tryz.prog.cellsOf e := slices_full_of _ (by kernel_rfl)
theorem own : ownKnob Tryz.prog.godebug = none := by kernel_rfl
section
variable {H : Type} {enc : TypeId × Value → H}
theorem trodAll_carry {P : Program} {w w' : World} {base : Nat} {sp : Nat → Bool} {held : Bool} : ∀ {ts : List TypeId} {vs : List Value} {ds : List (DataW H)} {ps : List MemPlace},
    DataW.TrodAll enc P w base sp held ts vs ds ps → (∀ p ∈ ps, w.sameAt w' p) → DataW.TrodAll enc P w' base sp held ts vs ds ps
  | [], [], [], _, h, _ => h
  | _ :: _, _ :: _, _ :: _, _, ⟨p, q, ⟨n, hn⟩, h2, e⟩, hs =>
    ⟨p, q, ⟨n, DataW.trod_carry n _ _ _ hn (fun x hx => hs x (by rw [e]; exact List.mem_append_left _ hx))⟩, trodAll_carry h2 (fun x hx => hs x (by rw [e]; exact List.mem_append_right _ hx)), e⟩
/-- What a law's end owes where nothing that was there has turned: it answers true, its arguments read as they did. -/
theorem post_law {f : Func} {s : ChangeSpec} {apart fresh handsOn : Bool} {W W' : World} {args : Array Value} {ds gs : List (DataW H)} {before : List MemPlace}
    (hW : DataW.Whole enc Tryz.prog f.params.toList s.vars apart W args.toList ds gs before) (hv : s.vars = []) (hts : ∀ t ∈ f.params.toList, t < Tryz.prog.types.size) (hrt : f.resultTypes = #[4])
    (hfn : s.fn H (ds ++ gs) = { results := [.lit (.bool true)], args := ds }) (hb : Below W.heap.size W W') : s.post enc Tryz.prog f apart fresh handsOn false W args (.bool true) W' := by
  have hW' := hW
  have hlt := fun p hp => hW.lt p hp
  obtain ⟨p, q, hA, hV, rfl, hfz, hnd⟩ := hW
  rw [hv] at hV
  have hgq : gs = [] ∧ q = [] := by cases gs <;> first | exact ⟨rfl, hV⟩ | exact hV.elim
  obtain ⟨rfl, rfl⟩ := hgq
  refine ⟨ds, [], _, [], p, [], hW', ?_, ?_, ?_, hb.frame _, fun h => by cases h⟩
  · rw [hrt, hfn]
    exact trodAll_cons_mk (shut_bool Tryz.underlying4 _) trodAll_mk0
  · rw [hfn]
    have h1 := DataW.TrodAll.respare (spare' := fun b => decide (b < W.heap.size)) kids slices_full hts hA (fun x hx => by simpa using hlt x (by simpa using hx))
    exact trodAll_carry h1 (fun x hx => hb.same (hlt x (by simpa using hx)))
  · rw [hv, hfn]
    exact rfl
end
end Go.Proofs.YtafjjececdhmjaaGreat

/- How an expression's cells lie where it reads as data, its lists, and how long they may be. Conditions: no slice takes more bytes than the reach of a row. -/
namespace Go.Proofs.YtafjjececdhmjaaGreat
open Go.RowKit Go.ChangeShapes Go.WideShapes

theorem cellsE : Tryz.prog.cellsOf 112 = 6 := by kernel_rfl
theorem cellsO : Tryz.prog.cellsOf 109 = 1 := by kernel_rfl
theorem cellsKs : Tryz.prog.cellsOf 110 = 1 := by kernel_rfl
theorem bytesE : Tryz.prog.bytesOf 112 = 80 := by kernel_rfl
theorem lt_cell {w : World} {g i : Nat} {v : Value} (h : w.cell? ⟨g, i, none⟩ = some v) : g < w.heap.size := by
  rcases Nat.lt_or_ge g w.heap.size with hlt | hlt
  · exact hlt
  · exfalso
    simp [World.cell?, Array.getElem?_eq_none hlt] at h
theorem cells_at {w : World} {base n : Nat} {a : Addr} {cs : List Value} (h : w.cells? base a n = some cs) (i : Nat) (hi : i < n) : w.cell? (a.add i) = cs[i]? := by
  unfold World.cells? at h
  split at h
  · exact mapM_some_get h i i (by simp [hi])
  · cases h
section
variable {H : Type} {enc : TypeId × Value → H}
theorem weights_ex (y0 y1 y2 : DataW H) : (DataW.agg [y0, y1, y2]).weights Tryz.prog 112 = y0.weights Tryz.prog 109 ++ (y1.weights Tryz.prog 93 ++ (y2.weights Tryz.prog 110 ++ [])) := by
  simp [DataW.weights, Tryz.underlying112, DataW.weightsEach]
theorem weights_kids (es rest : List (DataW H)) : (DataW.slice es rest).weights Tryz.prog 110 = (es.length + rest.length) * 80 :: (DataW.weightsAll Tryz.prog 112 es ++ DataW.weightsAll Tryz.prog 112 rest) := by
  simp [DataW.weights, Tryz.underlying110, bytesE]
theorem weights_in {e : TypeId} : ∀ {l : List (DataW H)} {d : DataW H}, d ∈ l → ∀ n ∈ d.weights Tryz.prog e, n ∈ DataW.weightsAll Tryz.prog e l
  | x :: r, d, hd, n, hn => by
    rcases List.mem_cons.1 hd with rfl | hd
    · exact List.mem_append_left _ hn
    · exact List.mem_append_right _ (weights_in hd n hn)
theorem open_ex {w : World} {base : Nat} {sp : Nat → Bool} {held : Bool} : ∀ (d fuel : Nat) (cs : List Value) (x : DataW H × List MemPlace), fuel ≤ 2 * d → DataW.trod enc Tryz.prog w base sp held fuel 112 cs = some x →
    (∀ n ∈ x.1.weights Tryz.prog 112, n ≤ reachBytes) → ∃ e : Ex d, cs = exCells d e ∧ ExAt w d e ∧ ExR d e ∧ ExB d e
  | 0, fuel, cs, x, hf, h, _ => by
    obtain rfl : fuel = 0 := by omega
    simp [DataW.trod] at h
  | d + 1, fuel, cs, x, hf, h, hw => by
    obtain ⟨ys, m, rfl, rfl, hl, hn, hfs⟩ := DataW.trod_struct Tryz.underlying112 h
    rw [cellsE] at hl
    obtain ⟨y0, y1, y2, rfl⟩ := list3 (show ys.length = 3 from hn)
    have h0 : DataW.trod enc Tryz.prog w base sp held m 109 ((cs.drop 0).take (Tryz.prog.cellsOf 109)) = some y0 := hfs 0 _ rfl
    have h1 : DataW.trod enc Tryz.prog w base sp held m 93 ((cs.drop 1).take (Tryz.prog.cellsOf 93)) = some y1 := hfs 1 _ rfl
    have h2 : DataW.trod enc Tryz.prog w base sp held m 110 ((cs.drop 5).take (Tryz.prog.cellsOf 110)) = some y2 := hfs 2 _ rfl
    rw [cellsO] at h0
    rw [cellsT] at h1
    rw [cellsKs] at h2
    obtain ⟨op, e0, _, w0⟩ := DataW.trod_int Tryz.underlying109 h0
    obtain ⟨v, k, n, t, e1, hk, hr, _⟩ := trod_term h1
    have hwk : ∀ q ∈ y2.1.weights Tryz.prog 110, q ≤ reachBytes := by
      intro q hq
      refine hw q ?_
      show q ∈ (DataW.agg [y0.1, y1.1, y2.1]).weights Tryz.prog 112
      rw [weights_ex]
      simp [hq]
    have hcells : ∀ (s : Value), cs.drop 5 = [s] → cs = [.int .i8 op, .string v, .int .i8 k, .int .i64 n, .string t, s] := by
      intro s hs
      have e0' : cs.take 1 = [.int .i8 op] := by simpa using e0
      have e1' : (cs.drop 1).take 4 = [.string v, .int .i8 k, .int .i64 n, .string t] := e1
      have h3 : cs = cs.take 1 ++ ((cs.drop 1).take 4 ++ (cs.drop 1).drop 4) := by rw [List.take_append_drop, List.take_append_drop]
      rw [List.drop_drop, e0', e1', hs] at h3
      exact h3
    have e2 : ∀ (s : Value), (cs.drop 5).take 1 = [s] → cs.drop 5 = [s] := by
      intro s hs
      have h3 : (cs.drop 5).length = 1 := by simp [hl]
      rw [List.take_of_length_le (by omega)] at hs
      exact hs
    rcases DataW.trod_slice Tryz.underlying110 h2 with ⟨hs, _⟩ | ⟨a, len, cap, elems, rest, m', rfl, hs, hy2, hba, hlc, hcm, hel, hei, _⟩
    · refine ⟨(op, ⟨v, ⟨k, n, t⟩⟩, .slice none 0 0, []), hcells _ (e2 _ hs), ⟨none, 0, rfl, by unfold maxLen; simp, .inl rfl, fun k hk => by simp at hk⟩, ⟨bounds_i8 w0, hr, fun k hk => by simp at hk⟩, ⟨by simp, fun k hk => by simp at hk⟩⟩
    · have hbig : (elems.length + rest.length) * 80 ≤ reachBytes := by
        refine hwk _ ?_
        rw [hy2, weights_kids]
        simp
      have hlen : len ≤ 2199023255552 := by
        unfold reachBytes at hbig
        omega
      have hkid : ∀ i, i < len → ∃ e : Ex d, w.cells? base (a.add (i * 6)) 6 = some (exCells d e) ∧ ExAt w d e ∧ ExR d e ∧ ExB d e := by
        intro i hi
        have h3 := hei i hi
        rw [cellsE] at h3
        have h4 : elems[i]? = some (elems[i]'(by omega)) := by simp [hel, hi]
        rw [h4] at h3
        obtain ⟨cs', hc', ht'⟩ := Option.bind_eq_some_iff.1 h3
        obtain ⟨e, rfl, he⟩ := open_ex d m' cs' _ (by omega) ht' (fun q hq => hwk q (by
          rw [hy2, weights_kids]
          refine List.mem_cons_of_mem _ (List.mem_append_left _ (weights_in (d := (elems[i]'(by omega)).1) ?_ q hq))
          exact List.mem_map.2 ⟨_, List.getElem_mem _, rfl⟩))
        exact ⟨e, hc', he⟩
      let ks : List (Ex d) := List.ofFn fun i : Fin len => Classical.choose (hkid i.1 i.2)
      have hkl : ks.length = len := by simp [ks]
      have hks : ∀ i (hi : i < ks.length), w.cells? base (a.add (i * 6)) 6 = some (exCells d ks[i]) ∧ ExAt w d ks[i] ∧ ExR d ks[i] ∧ ExB d ks[i] := by
        intro i hi
        have h3 := Classical.choose_spec (hkid i (by omega))
        simpa [ks] using h3
      refine ⟨(op, ⟨v, ⟨k, n, t⟩⟩, .slice (some a) len cap, ks), hcells _ (e2 _ hs), ⟨some a, cap, ?_, ?_, ?_, ?_⟩, ⟨bounds_i8 w0, hr, ?_⟩, ⟨?_, ?_⟩⟩
      · show Value.slice (some a) len cap = .slice (some a) ks.length cap
        rw [hkl]
      · show ks.length ≤ maxLen
        unfold maxLen
        omega
      · by_cases h0 : len = 0
        · exact .inl (by show ks.length = 0; omega)
        · refine .inr ?_
          obtain ⟨b, o, spot⟩ := a
          have hc0 := cells_at (hks 0 (by omega)).1 0 (by omega)
          have hspot : spot = none := by simpa [Addr.add] using World.cell?_spot hc0
          subst hspot
          have hat : ∀ i (hi : i < ks.length) q, q < 6 → w.cell? ⟨b, o + i * 6 + q, none⟩ = (exCells d ks[i])[q]? := by
            intro i hi q hq
            have h3 := cells_at (hks i hi).1 q hq
            rwa [add_plain, add_plain] at h3
          have hlt : b < w.heap.size := lt_cell (hat 0 (by omega) 0 (by omega))
          refine ⟨b, o, rfl, hlt, fun i hi => ?_⟩
          have hi' : i < ks.length := hi
          exact ⟨hat i hi' 0 (by omega), hat i hi' 1 (by omega), hat i hi' 2 (by omega), hat i hi' 3 (by omega), hat i hi' 4 (by omega), hat i hi' 5 (by omega)⟩
      · intro q hq
        obtain ⟨i, hi, rfl⟩ := List.mem_iff_getElem.1 hq
        exact (hks i hi).2.1
      · intro q hq
        obtain ⟨i, hi, rfl⟩ := List.mem_iff_getElem.1 hq
        exact (hks i hi).2.2.1
      · show ks.length ≤ _
        omega
      · intro q hq
        obtain ⟨i, hi, rfl⟩ := List.mem_iff_getElem.1 hq
        exact (hks i hi).2.2.2
set_option maxRecDepth 100000 in
/-- An argument that is an expression. -/
theorem open_expr {w : World} {base : Nat} {sp : Nat → Bool} {held : Bool} {r : Reach} {b0 : Nat} {v : Value} {x : DataW H} {ps : List MemPlace} (hval : Value.okWide Tryz.prog w r b0 112 v) (hd : DataW.Trod enc Tryz.prog w base sp held 112 v x ps)
    (hw : ∀ n ∈ x.weights Tryz.prog 112, n ≤ reachBytes) :
    ∃ (d : Nat) (e : Ex d), v = .agg #[.int .i8 (exOp d e), .string (exTm d e).v, .int .i8 (exTm d e).x.k, .int .i64 (exTm d e).x.n, .string (exTm d e).x.t, exSl d e] ∧ ExAt w d e ∧ ExR d e ∧ ExB d e := by
  obtain ⟨cs, rfl, _⟩ := okWide_struct Tryz.underlying112 hval
  obtain ⟨n, hn⟩ := hd
  obtain ⟨e, hc, he⟩ := open_ex n n _ _ (by omega) hn hw
  refine ⟨n, e, ?_, he⟩
  have h2 : cs.toList = exCells n e := hc
  have h3 : cs = #[.int .i8 (exOp n e), .string (exTm n e).v, .int .i8 (exTm n e).x.k, .int .i64 (exTm n e).x.n, .string (exTm n e).x.t, exSl n e] := Array.toList_inj.1 h2
  rw [h3]
end
end Go.Proofs.YtafjjececdhmjaaGreat

/- What the cards' proofs share: the tables out of a row's list; worlds with other cells. Conditions: none. -/
namespace Go.Proofs.YtafjjececdhmjaaGreat
open Go.ChangeShapes Go.WideShapes Go.RowKit

theorem lt_of_cell {w : World} {g i : Nat} {v : Value} (h : w.cell? ⟨g, i, none⟩ = some v) : g < w.heap.size := by
  by_cases hlt : g < w.heap.size
  · exact hlt
  · exfalso
    simp [World.cell?, Array.getElem?_eq_none (Nat.le_of_not_lt hlt)] at h
/-- math/bits's two tables. -/
def db64L : List Int := [0, 1, 56, 2, 57, 49, 28, 3, 61, 58, 42, 50, 38, 29, 17, 4, 62, 47, 59, 36, 45, 43, 51, 22, 53, 39, 33, 30, 24, 18, 12, 5, 63, 55, 48, 27, 60, 41, 37, 16, 46, 35, 44, 21, 52, 32, 23, 11, 54, 26, 40, 15, 34, 20, 31, 10, 25, 14, 19, 9, 13, 8, 7, 6]
def db32L : List Int := [0, 1, 28, 2, 29, 14, 24, 3, 30, 22, 20, 15, 25, 17, 4, 8, 31, 27, 13, 23, 21, 19, 16, 7, 26, 12, 18, 6, 11, 5, 10, 9]
/-- A block of the heap with other cells. -/
def layCells (h : Array Obj) (g : Nat) (cs : Array Value) : Array Obj := h.modify g fun
  | .cells _ t frozen => .cells cs t frozen
  | o => o
def ints (k : IntKind) (zs : List Int) : Array Value := (zs.map fun z => Value.int k z).toArray
def strs (ss : List ByteArray) : Array Value := (ss.map fun s => Value.string s).toArray
end Go.Proofs.YtafjjececdhmjaaGreat
