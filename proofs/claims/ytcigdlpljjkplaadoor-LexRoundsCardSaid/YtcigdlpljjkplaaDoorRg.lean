/- What the cards of the statements on lex share: tables and errors out of a row's list; what a law's end owes. Conditions: none. -/
import Derived.Test.YtcigdlpljjkplaaDoorL4
import Derived.OpenShut
import Derived.LaidSub
import Derived.ReadAgain
import Derived.Lib.LaidTab
namespace Go.Proofs.YtcigdlpljjkplaaDoor
open Go.RowKit Go.ChangeShapes Go.WideShapes

theorem cellsS : Tryd.prog.cellsOf 9 = 1 := by kernel_rfl
/-- What is told of a string table in a row, cell for cell. -/
theorem trod_strings {H : Type} {enc : TypeId × Value → H} {w : World} {base : Nat} {sp : Nat → Bool} {held : Bool} {fuel : Nat} {cs : List Value} {t n : Nat} {ss : List (List UInt8)} {p : List MemPlace}
    (ht : Tryd.prog.underlying t = some (.array n 9)) (h : DataW.trod enc Tryd.prog w base sp held fuel t cs = some (.agg (ss.map fun s => .lit (.string s)), p)) (i : Nat) (hi : i < n) :
    cs[i]? = some (.string ⟨(ss.getD i []).toArray⟩) := by
  obtain ⟨xs, m, _, hx, hl, hn, hf⟩ := DataW.trod_array ht h
  have h1 := hf i hi
  rw [cellsS, Nat.mul_one] at h1
  have hxi : xs[i]? = some (xs[i]'(by omega)) := by simp [hn, hi]
  rw [hxi] at h1
  obtain ⟨s, e0, e1, _⟩ := DataW.trod_string Tryd.underlying9 h1
  have e2 : cs[i]? = some (.string s) := by
    have := congrArg (·[0]?) e0
    simpa [List.getElem?_take, List.getElem?_drop] using this
  rw [e2]
  have e3 : ss.map (fun s => (DataW.lit (.string s) : DataW H)) = xs.map (·.1) := by
    have := congrArg Prod.fst hx
    simpa using this
  have e4 := congrArg (·[i]?) e3
  simp only [List.getElem?_map, hxi, Option.map_some] at e4
  rw [e1] at e4
  simp only [Option.map_eq_some_iff, DataW.lit.injEq, Lit.string.injEq] at e4
  obtain ⟨z, hz, hzs⟩ := e4
  have : ss.getD i [] = s.data.toList := by rw [List.getD, hz, ← hzs]; rfl
  rw [this]
/-- A string table that a row lists: what a walk reads. -/
theorem str_table {W : World} {l : List (String × DataW Unit)} {name : String} {g t n : Nat} {ss : List (List UInt8)} (h : laidMetH Tryd.prog l W)
    (hk : (l.filter fun y => y.1 == name) = [(name, .agg (ss.map fun s => .lit (.string s)))]) (hg : Tryd.prog.globalNamed name = some g) (hty : (Tryd.prog.globals[g]?).map (·.type) = some t)
    (ht : Tryd.prog.underlying t = some (.array n 9)) (i : Nat) (hi : i < n) : W.cell? ⟨g, i, none⟩ = some (.string ⟨(ss.getD i []).toArray⟩) := by
  have h1 := h.filter fun y => y.1 == name
  rw [hk] at h1
  have h2 : laidMet Tryd.prog [(name, .agg (ss.map fun s => .lit (.string s)))] W := h1
  obtain ⟨ps, ⟨g', t', cs, fuel, p, q, hg', ht', hvar, hd, _, _⟩, _⟩ := h2
  obtain rfl := Option.some.inj (hg.symm.trans hg')
  obtain rfl := Option.some.inj (hty.symm.trans ht')
  rw [World.var?_cell hg hvar i, ← Array.getElem?_toList]
  exact trod_strings ht hd i hi
/-- A number table that a row lists. -/
theorem num_table {W : World} {l : List (String × DataW Unit)} {name : String} {g t e n : Nat} {k : IntKind} {zs : List Int} (h : laidMetH Tryd.prog l W)
    (hk : (l.filter fun y => y.1 == name) = [(name, Lib.tabData k zs)]) (hg : Tryd.prog.globalNamed name = some g) (hty : (Tryd.prog.globals[g]?).map (·.type) = some t)
    (ht : Tryd.prog.underlying t = some (.array n e)) (he : Tryd.prog.underlying e = some (.int k)) (hce : Tryd.prog.cellsOf e = 1) (hct : Tryd.prog.cellsOf t = n) : Lib.TabIs Tryd.prog W name k zs := by
  have h1 := h.filter fun y => y.1 == name
  rw [hk] at h1
  exact Lib.tabIs_of_head (rest := []) hg hty ht he hce hct h1

theorem kids : Kids Tryd.prog (· < Tryd.prog.types.size) := kids_rows (by kernel_rfl) (by kernel_rfl)
theorem slices_full : ∀ t e, t < Tryd.prog.types.size → Tryd.prog.underlying t = some (.slice e) → 0 < Tryd.prog.cellsOf e := slices_full_of _ (by kernel_rfl)
theorem own : ownKnob Tryd.prog.godebug = none := by kernel_rfl
section
variable {H : Type} {enc : TypeId × Value → H}
theorem trodAll_carry {P : Program} {w w' : World} {base : Nat} {sp : Nat → Bool} {held : Bool} : ∀ {ts : List TypeId} {vs : List Value} {ds : List (DataW H)} {ps : List MemPlace},
    DataW.TrodAll enc P w base sp held ts vs ds ps → (∀ p ∈ ps, w.sameAt w' p) → DataW.TrodAll enc P w' base sp held ts vs ds ps
  | [], [], [], _, h, _ => h
  | _ :: _, _ :: _, _ :: _, _, ⟨p, q, ⟨n, hn⟩, h2, e⟩, hs =>
    ⟨p, q, ⟨n, DataW.trod_carry n _ _ _ hn (fun x hx => hs x (by rw [e]; exact List.mem_append_left _ hx))⟩, trodAll_carry h2 (fun x hx => hs x (by rw [e]; exact List.mem_append_right _ hx)), e⟩
/-- What a law's end owes where nothing that was there has turned: it answers true, its arguments read as they did. -/
theorem post_law {f : Func} {s : ChangeSpec} {apart fresh handsOn : Bool} {W W' : World} {args : Array Value} {ds gs : List (DataW H)} {before : List MemPlace}
    (hW : DataW.Whole enc Tryd.prog f.params.toList s.vars apart W args.toList ds gs before) (hv : s.vars = []) (hts : ∀ t ∈ f.params.toList, t < Tryd.prog.types.size) (hrt : f.resultTypes = #[4])
    (hfn : s.fn H (ds ++ gs) = { results := [.lit (.bool true)], args := ds }) (hb : Below W.heap.size W W') : s.post enc Tryd.prog f apart fresh handsOn false W args (.bool true) W' := by
  have hW' := hW
  have hlt := fun p hp => hW.lt p hp
  obtain ⟨p, q, hA, hV, rfl, hfz, hnd⟩ := hW
  rw [hv] at hV
  have hgq : gs = [] ∧ q = [] := by cases gs <;> first | exact ⟨rfl, hV⟩ | exact hV.elim
  obtain ⟨rfl, rfl⟩ := hgq
  refine ⟨ds, [], _, [], p, [], hW', ?_, ?_, ?_, hb.frame _, fun h => by cases h⟩
  · rw [hrt, hfn]
    exact trodAll_cons_mk (shut_bool Tryd.underlying4 _) trodAll_mk0
  · rw [hfn]
    have h1 := DataW.TrodAll.respare (spare' := fun b => decide (b < W.heap.size)) kids slices_full hts hA (fun x hx => by simpa using hlt x (by simpa using hx))
    exact trodAll_carry h1 (fun x hx => hb.same (hlt x (by simpa using hx)))
  · rw [hv, hfn]
    exact rfl
end
theorem lt_of_cell {w : World} {g i : Nat} {v : Value} (h : w.cell? ⟨g, i, none⟩ = some v) : g < w.heap.size := by
  by_cases hlt : g < w.heap.size
  · exact hlt
  · exfalso
    simp [World.cell?, Array.getElem?_eq_none (Nat.le_of_not_lt hlt)] at h
/-- A world of the program's shape holds more than nine blocks. -/
theorem size9 {W : World} (h : W.ShapedOpen Tryd.prog) : 9 ≤ W.heap.size := by
  obtain ⟨o, _, h1, _⟩ := h.2 10 (of_decide_eq_true (by kernel_rfl)) (of_decide_eq_true (by kernel_rfl))
  have := (Array.getElem?_eq_some_iff.1 h1).1
  omega
/-- A variable of an interface's type that reads as something holds an interface value. -/
theorem trod_if {H : Type} {enc : TypeId × Value → H} {w : World} {base : Nat} {sp : Nat → Bool} {held : Bool} {fuel t : Nat} {ms : Array (String × TypeId)} {cs : List Value} {x : DataW H × List MemPlace}
    (ht : Tryd.prog.underlying t = some (.interface ms)) (h : DataW.trod enc Tryd.prog w base sp held fuel t cs = some x) (hx : x.1 ≠ .nil) : ∃ u v, cs = [.iface u v] := by
  cases fuel with
  | zero => simp [DataW.trod] at h
  | succ f =>
    rcases cs with _ | ⟨v, _ | ⟨v2, r⟩⟩
    · simp [DataW.trod, ht] at h
    · cases v
      case iface u v => exact ⟨u, v, rfl⟩
      case nilIface =>
        simp [DataW.trod, ht] at h
        rw [← h] at hx
        exact absurd rfl hx
      all_goals simp [DataW.trod, ht] at h
    · simp [DataW.trod, ht] at h
set_option maxRecDepth 100000 in
/-- An error's variable that a row lists. -/
theorem err_var {W : World} {l : List (String × DataW Unit)} {name : String} {d : DataW Unit} {g t : Nat} {ms : Array (String × TypeId)} (h : laidMetH Tryd.prog l W)
    (hk : (l.filter fun y => y.1 == name) = [(name, d)]) (hd : d ≠ .nil) (hn : d.handleName?.isSome = false) (hg : Tryd.prog.globalNamed name = some g) (hty : (Tryd.prog.globals[g]?).map (·.type) = some t) (ht : Tryd.prog.underlying t = some (.interface ms)) : ∃ tp p, W.var? Tryd.prog name = some #[.iface tp p] := by
  have h1 := h.filter fun y => y.1 == name
  rw [hk] at h1
  have h2 : laidMet Tryd.prog [(name, d)] W := by
    unfold laidMetH at h1
    rw [show ([(name, d)] : List (String × DataW Unit)).filter (fun x => x.2.handleName?.isSome) = [] from by rw [List.filter_cons_of_neg (by simp [hn]), List.filter_nil]] at h1
    exact h1
  obtain ⟨ps, ⟨g', t', cs, fuel, p, q, hg', ht', hvar, hd', _, _⟩, _⟩ := h2
  obtain rfl := Option.some.inj (hg.symm.trans hg')
  obtain rfl := Option.some.inj (hty.symm.trans ht')
  obtain ⟨u, v, hc⟩ := trod_if ht hd' hd
  exact ⟨u, v, by rw [hvar]; congr 1; exact Array.toList_inj.1 hc⟩
end Go.Proofs.YtcigdlpljjkplaaDoor
