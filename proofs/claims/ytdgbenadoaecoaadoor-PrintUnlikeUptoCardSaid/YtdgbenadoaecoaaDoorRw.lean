/- How lists of facts lie where they read as data. Conditions: no slice takes more bytes than the reach of a row. -/
import Derived.Test.YtdgbenadoaecoaaDoorRy
import Derived.Test.YtdgbenadoaecoaaDoorV2
namespace Go.Proofs.YtdgbenadoaecoaaDoor
open Go.RowKit Go.ChangeShapes Go.WideShapes

section
variable {H : Type} {enc : TypeId × Value → H}
theorem cellsF : Tryd.prog.cellsOf 46 = 2 := by kernel_rfl
theorem cellsVs : Tryd.prog.cellsOf 44 = 1 := by kernel_rfl
theorem bytesVl : Tryd.prog.bytesOf 50 = 32 := by kernel_rfl
theorem bytesFc : Tryd.prog.bytesOf 46 = 40 := by kernel_rfl
theorem weights_fc (y0 y1 : DataW H) : (DataW.agg [y0, y1]).weights Tryd.prog 46 = y0.weights Tryd.prog 9 ++ (y1.weights Tryd.prog 44 ++ []) := by
  simp [DataW.weights, Tryd.underlying46, DataW.weightsEach]
def vlCells (x : Vl) : List Value := [.int .i8 x.k, .int .i64 x.n, .string x.t]
variable {w : World} {base : Nat} {sp : Nat → Bool} {held : Bool}
/-- A list of values that reads as data. -/
theorem trod_values {fuel : Nat} {cs : List Value} {x : DataW H × List MemPlace} (h : DataW.trod enc Tryd.prog w base sp held fuel 44 cs = some x) (hw : ∀ n ∈ x.1.weights Tryd.prog 44, n ≤ reachBytes) :
    ∃ (sv : Value) (ts : List Vl), cs = [sv] ∧ VlSl w sv ts ∧ VlsR ts ∧ ts.length ≤ 4398046511104 := by
  obtain ⟨p, ts, cap, rfl, hm, hb, hrow, hR⟩ := open_list (α := Vl) Tryd.underlying44 cellsV (by decide) bytesVl (by decide) vlCells (fun t => VlR t.k t.n t.t) (fun t => by simp [vlCells]) h hw (fun f cs' y _ hy _ => by
    obtain ⟨k, n, t, rfl, _, hr, _⟩ := trod_value hy
    exact ⟨⟨k, n, t⟩, rfl, hr⟩)
  refine ⟨_, ts, rfl, ⟨p, cap, rfl, hm, hrow.imp id fun ⟨a, o, hp, ha, hc⟩ => ?_⟩, hR, by unfold reachBytes at hb; omega⟩
  subst hp
  exact ⟨a, o, rfl, ⟨ha, fun i hi => ⟨hc i hi 0 (by omega), hc i hi 1 (by omega), hc i hi 2 (by omega)⟩⟩⟩
/-- A fact that reads as data. -/
theorem trod_fact {fuel : Nat} {cs : List Value} {x : DataW H × List MemPlace} (h : DataW.trod enc Tryd.prog w base sp held fuel 46 cs = some x) (hw : ∀ n ∈ x.1.weights Tryd.prog 46, n ≤ reachBytes) :
    ∃ f : Fc, cs = [.string f.p, f.sv] ∧ FcR f ∧ VlSl w f.sv f.xs := by
  obtain ⟨ys, m, rfl, rfl, hl, hn, hfs⟩ := DataW.trod_struct Tryd.underlying46 h
  rw [cellsF] at hl
  obtain ⟨y0, y1, rfl⟩ := list2 (show ys.length = 2 from hn)
  have h0 : DataW.trod enc Tryd.prog w base sp held m 9 ((cs.drop 0).take (Tryd.prog.cellsOf 9)) = some y0 := hfs 0 _ rfl
  have h1 : DataW.trod enc Tryd.prog w base sp held m 44 ((cs.drop 1).take (Tryd.prog.cellsOf 44)) = some y1 := hfs 1 _ rfl
  rw [cellsS] at h0
  rw [cellsVs] at h1
  obtain ⟨p, e0, _, s0⟩ := DataW.trod_string Tryd.underlying9 h0
  obtain ⟨sv, ts, e1, ht, hr, hb⟩ := trod_values h1 (fun q hq => hw q (by
    show q ∈ (DataW.agg [y0.1, y1.1]).weights Tryd.prog 46
    rw [weights_fc]; simp [hq]))
  refine ⟨⟨p, ts, sv⟩, ?_, ⟨s0, hr, hb⟩, ht⟩
  have e0' : cs.take 1 = [.string p] := by simpa using e0
  rw [← List.take_append_drop 1 cs, e0', take1 hl e1]
  rfl
set_option maxRecDepth 100000 in
theorem open_facts {r : Reach} {b0 : Nat} {v : Value} {x : DataW H} {ps : List MemPlace} (hval : Value.okWide Tryd.prog w r b0 26 v) (hd : DataW.Trod enc Tryd.prog w base sp held 26 v x ps) (hw : ∀ n ∈ x.weights Tryd.prog 26, n ≤ reachBytes) :
    ∃ (p : Option Addr) (cap : Nat) (fs : List Fc), v = .slice p fs.length cap ∧ FcsAt w p fs ∧ (∀ f ∈ fs, FcR f) ∧ fs.length ≤ 4398046511104 := by
  obtain ⟨a, len, c, rfl⟩ := okWide_slice Tryd.underlying26 hval
  obtain ⟨n, hn⟩ := hd
  obtain ⟨p, fs, cap, hc, hm, hb, hrow, hR⟩ := open_list (α := Fc) Tryd.underlying26 cellsF (by decide) bytesFc (by decide) (fun f => [.string f.p, f.sv]) (fun f => FcR f ∧ VlSl w f.sv f.xs) (fun t => by simp) hn hw (fun f cs' y _ hy hwy => by
    obtain ⟨g, rfl, h1, h2⟩ := trod_fact hy hwy
    exact ⟨g, rfl, h1, h2⟩)
  refine ⟨p, cap, fs, by simpa [Value.cells] using hc, ⟨hrow.imp id fun ⟨a, o, hp, ha, hc⟩ => ⟨a, o, hp, ha, fun i hi => ⟨hc i hi 0 (by omega), hc i hi 1 (by omega)⟩⟩, fun f hf => (hR f hf).2⟩, fun f hf => (hR f hf).1, by unfold reachBytes at hb; omega⟩
end
end Go.Proofs.YtdgbenadoaecoaaDoor
