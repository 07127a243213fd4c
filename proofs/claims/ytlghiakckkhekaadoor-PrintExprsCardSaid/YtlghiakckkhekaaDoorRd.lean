/- How a term's cells lie where it reads as data; what a law's end owes where nothing that was there has turned. Conditions: none. -/
import Derived.Test.YtlghiakckkhekaaDoorW18
import Derived.OpenShut
import Derived.LaidSub
import Derived.ReadAgain
import Derived.Lib.LaidTab
namespace Go.Proofs.YtlghiakckkhekaaDoor
open Go.RowKit Go.ChangeShapes Go.WideShapes

theorem cellsV : Tryd.prog.cellsOf 25 = 3 := by kernel_rfl
theorem cellsT : Tryd.prog.cellsOf 27 = 4 := by kernel_rfl
theorem cellsK : Tryd.prog.cellsOf 23 = 1 := by kernel_rfl
theorem cellsI : Tryd.prog.cellsOf 2 = 1 := by kernel_rfl
theorem cellsS : Tryd.prog.cellsOf 9 = 1 := by kernel_rfl
theorem list2 {α : Type} : ∀ {l : List α}, l.length = 2 → ∃ a b, l = [a, b]
  | [a, b], _ => ⟨a, b, rfl⟩
theorem list3 {α : Type} : ∀ {l : List α}, l.length = 3 → ∃ a b c, l = [a, b, c]
  | [a, b, c], _ => ⟨a, b, c, rfl⟩
theorem list4 {α : Type} : ∀ {l : List α}, l.length = 4 → ∃ a b c d, l = [a, b, c, d]
  | [a, b, c, d], _ => ⟨a, b, c, d, rfl⟩
section
variable {H : Type} {enc : TypeId × Value → H} {w : World} {base : Nat} {sp : Nat → Bool} {held : Bool} {fuel : Nat} {cs : List Value} {x : DataW H × List MemPlace}

theorem trod_value (h : DataW.trod enc Tryd.prog w base sp held fuel 25 cs = some x) :
    ∃ k n t, cs = [.int .i8 k, .int .i64 n, .string t] ∧ (-128 ≤ k ∧ k ≤ 127) ∧ VlR k n t ∧ x = (.agg [.lit (.int .i8 k), .lit (.int .i64 n), .lit (.string t.data.toList)], []) := by
  obtain ⟨ys, m, _, rfl, hl, hn, hf⟩ := DataW.trod_struct Tryd.underlying25 h
  rw [cellsV] at hl
  obtain ⟨a, b, c, rfl⟩ := list3 hl
  obtain ⟨y0, y1, y2, rfl⟩ := list3 (show ys.length = 3 from hn)
  have h0 := hf 0 _ rfl
  have h1 := hf 1 _ rfl
  have h2 := hf 2 _ rfl
  simp [cellsK, cellsI, cellsS] at h0 h1 h2
  obtain ⟨k, e0, rfl, wk⟩ := DataW.trod_int Tryd.underlying23 h0
  obtain ⟨n, e1, rfl, wn⟩ := DataW.trod_int Tryd.underlying2 h1
  obtain ⟨t, e2, rfl, st⟩ := DataW.trod_string Tryd.underlying9 h2
  simp at e0 e1 e2
  subst e0 e1 e2
  have bn := bounds_i64 wn
  exact ⟨k, n, t, rfl, bounds_i8 wk, ⟨bn.1, bn.2, st⟩, rfl⟩
theorem trod_term (h : DataW.trod enc Tryd.prog w base sp held fuel 27 cs = some x) :
    ∃ v k n t, cs = [.string v, .int .i8 k, .int .i64 n, .string t] ∧ (-128 ≤ k ∧ k ≤ 127) ∧ TmR v k n t ∧ x = (.agg [.lit (.string v.data.toList), .agg [.lit (.int .i8 k), .lit (.int .i64 n), .lit (.string t.data.toList)]], []) := by
  obtain ⟨ys, m, _, rfl, hl, hn, hf⟩ := DataW.trod_struct Tryd.underlying27 h
  rw [cellsT] at hl
  obtain ⟨a, b, c, d, rfl⟩ := list4 hl
  obtain ⟨y0, y1, rfl⟩ := list2 (show ys.length = 2 from hn)
  have h0 := hf 0 _ rfl
  have h1 := hf 1 _ rfl
  simp [cellsV, cellsS] at h0 h1
  obtain ⟨v, e0, rfl, sv⟩ := DataW.trod_string Tryd.underlying9 h0
  obtain ⟨k, n, t, e1, hk, hr, rfl⟩ := trod_value h1
  simp at e0 e1
  obtain ⟨rfl, rfl, rfl⟩ := e1
  subst e0
  exact ⟨v, k, n, t, rfl, hk, ⟨hr, sv⟩, rfl⟩
set_option maxRecDepth 100000 in
/-- An argument that is a term. -/
theorem open_term {r : Reach} {b0 : Nat} {v : Value} {d : DataW H} {ps : List MemPlace} (hval : Value.okWide Tryd.prog w r b0 27 v) (hd : DataW.Trod enc Tryd.prog w base sp held 27 v d ps) :
    ∃ s k n t, v = .agg #[.string s, .int .i8 k, .int .i64 n, .string t] ∧ TmR s k n t := by
  obtain ⟨cs, rfl, _⟩ := okWide_struct Tryd.underlying27 hval
  obtain ⟨n, hn⟩ := hd
  obtain ⟨s, k, n, t, hc, _, hr, _⟩ := trod_term hn
  refine ⟨s, k, n, t, ?_, hr⟩
  have h2 : cs.toList = [.string s, .int .i8 k, .int .i64 n, .string t] := hc
  have h3 : cs = #[.string s, .int .i8 k, .int .i64 n, .string t] := Array.toList_inj.1 h2
  rw [h3]
end

/-- What is told of a string table in a row, cell for cell. -/
theorem trod_strings {H : Type} {enc : TypeId × Value → H} {w : World} {base : Nat} {sp : Nat → Bool} {held : Bool} {fuel : Nat} {cs : List Value} {t n : Nat} {ss : List (List UInt8)} {p : List MemPlace}
    (ht : Tryd.prog.underlying t = some (.array n 9)) (h : DataW.trod enc Tryd.prog w base sp held fuel t cs = some (.agg (ss.map fun s => .lit (.string s)), p)) (i : Nat) (hi : i < n) :
    cs[i]? = some (.string ⟨(ss.getD i []).toArray⟩) := by
  obtain ⟨xs, m, _, hx, hl, hn, hf⟩ := DataW.trod_array ht h
  have h1 := hf i hi
  rw [cellsS, Nat.mul_one] at h1
  have hxi : xs[i]? = some (xs[i]'(by omega)) := by simp [hn, hi]
  rw [hxi] at h1
  obtain ⟨s, e0, e1, _⟩ := DataW.trod_string Tryd.underlying9 h1
  have e2 : cs[i]? = some (.string s) := by
    have := congrArg (·[0]?) e0
    simpa [List.getElem?_take, List.getElem?_drop] using this
  rw [e2]
  have e3 : ss.map (fun s => (DataW.lit (.string s) : DataW H)) = xs.map (·.1) := by
    have := congrArg Prod.fst hx
    simpa using this
  have e4 := congrArg (·[i]?) e3
  simp only [List.getElem?_map, hxi, Option.map_some] at e4
  rw [e1] at e4
  simp only [Option.map_eq_some_iff, DataW.lit.injEq, Lit.string.injEq] at e4
  obtain ⟨z, hz, hzs⟩ := e4
  have : ss.getD i [] = s.data.toList := by rw [List.getD, hz, ← hzs]; rfl
  rw [this]
/-- A string table that a row lists: what a walk reads. -/
theorem str_table {W : World} {l : List (String × DataW Unit)} {name : String} {g t n : Nat} {ss : List (List UInt8)} (h : laidMetH Tryd.prog l W)
    (hk : (l.filter fun y => y.1 == name) = [(name, .agg (ss.map fun s => .lit (.string s)))]) (hg : Tryd.prog.globalNamed name = some g) (hty : (Tryd.prog.globals[g]?).map (·.type) = some t)
    (ht : Tryd.prog.underlying t = some (.array n 9)) (i : Nat) (hi : i < n) : W.cell? ⟨g, i, none⟩ = some (.string ⟨(ss.getD i []).toArray⟩) := by
  have h1 := h.filter fun y => y.1 == name
  rw [hk] at h1
  have h2 : laidMet Tryd.prog [(name, .agg (ss.map fun s => .lit (.string s)))] W := h1
  obtain ⟨ps, ⟨g', t', cs, fuel, p, q, hg', ht', hvar, hd, _, _⟩, _⟩ := h2
  obtain rfl := Option.some.inj (hg.symm.trans hg')
  obtain rfl := Option.some.inj (hty.symm.trans ht')
  rw [World.var?_cell hg hvar i, ← Array.getElem?_toList]
  exact trod_strings ht hd i hi
/-- A number table that a row lists. -/
theorem num_table {W : World} {l : List (String × DataW Unit)} {name : String} {g t e n : Nat} {k : IntKind} {zs : List Int} (h : laidMetH Tryd.prog l W)
    (hk : (l.filter fun y => y.1 == name) = [(name, Lib.tabData k zs)]) (hg : Tryd.prog.globalNamed name = some g) (hty : (Tryd.prog.globals[g]?).map (·.type) = some t)
    (ht : Tryd.prog.underlying t = some (.array n e)) (he : Tryd.prog.underlying e = some (.int k)) (hce : Tryd.prog.cellsOf e = 1) (hct : Tryd.prog.cellsOf t = n) : Lib.TabIs Tryd.prog W name k zs := by
  have h1 := h.filter fun y => y.1 == name
  rw [hk] at h1
  exact Lib.tabIs_of_head (rest := []) hg hty ht he hce hct h1

theorem kids : Kids Tryd.prog (· < Tryd.prog.types.size) := kids_rows (by kernel_rfl) (by kernel_rfl)
theorem slices_full : ∀ t e, t < Tryd.prog.types.size → Tryd.prog.underlying t = some (.slice e) → 0 < Tryd.prog.cellsOf e := slices_full_of _ (by kernel_rfl)
theorem own : ownKnob Tryd.prog.godebug = none := by kernel_rfl
section
variable {H : Type} {enc : TypeId × Value → H}
theorem trodAll_carry {P : Program} {w w' : World} {base : Nat} {sp : Nat → Bool} {held : Bool} : ∀ {ts : List TypeId} {vs : List Value} {ds : List (DataW H)} {ps : List MemPlace},
    DataW.TrodAll enc P w base sp held ts vs ds ps → (∀ p ∈ ps, w.sameAt w' p) → DataW.TrodAll enc P w' base sp held ts vs ds ps
  | [], [], [], _, h, _ => h
  | _ :: _, _ :: _, _ :: _, _, ⟨p, q, ⟨n, hn⟩, h2, e⟩, hs =>
    ⟨p, q, ⟨n, DataW.trod_carry n _ _ _ hn (fun x hx => hs x (by rw [e]; exact List.mem_append_left _ hx))⟩, trodAll_carry h2 (fun x hx => hs x (by rw [e]; exact List.mem_append_right _ hx)), e⟩
/-- What a law's end owes where nothing that was there has turned: it answers true, its arguments read as they did. -/
theorem post_law {f : Func} {s : ChangeSpec} {apart fresh handsOn : Bool} {W W' : World} {args : Array Value} {ds gs : List (DataW H)} {before : List MemPlace}
    (hW : DataW.Whole enc Tryd.prog f.params.toList s.vars apart W args.toList ds gs before) (hv : s.vars = []) (hts : ∀ t ∈ f.params.toList, t < Tryd.prog.types.size) (hrt : f.resultTypes = #[4])
    (hfn : s.fn H (ds ++ gs) = { results := [.lit (.bool true)], args := ds }) (hb : Below W.heap.size W W') : s.post enc Tryd.prog f apart fresh handsOn false W args (.bool true) W' := by
  have hW' := hW
  have hlt := fun p hp => hW.lt p hp
  obtain ⟨p, q, hA, hV, rfl, hfz, hnd⟩ := hW
  rw [hv] at hV
  have hgq : gs = [] ∧ q = [] := by cases gs <;> first | exact ⟨rfl, hV⟩ | exact hV.elim
  obtain ⟨rfl, rfl⟩ := hgq
  refine ⟨ds, [], _, [], p, [], hW', ?_, ?_, ?_, hb.frame _, fun h => by cases h⟩
  · rw [hrt, hfn]
    exact trodAll_cons_mk (shut_bool Tryd.underlying4 _) trodAll_mk0
  · rw [hfn]
    have h1 := DataW.TrodAll.respare (spare' := fun b => decide (b < W.heap.size)) kids slices_full hts hA (fun x hx => by simpa using hlt x (by simpa using hx))
    exact trodAll_carry h1 (fun x hx => hb.same (hlt x (by simpa using hx)))
  · rw [hv, hfn]
    exact rfl
end
end Go.Proofs.YtlghiakckkhekaaDoor
