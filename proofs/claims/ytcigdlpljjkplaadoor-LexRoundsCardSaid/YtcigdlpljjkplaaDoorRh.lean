/- What the cards of the statements on lex share: the tables out of a row's list; how a token lies where it reads as data. Conditions: none. -/
import Derived.Test.YtcigdlpljjkplaaDoorCards
import Derived.Test.YtcigdlpljjkplaaDoorTie
import Derived.Test.YtcigdlpljjkplaaDoorRg
import Derived.Test.YtcigdlpljjkplaaDoorG3
import Derived.Test.YtcigdlpljjkplaaDoorJ1
namespace Go.Proofs.YtcigdlpljjkplaaDoor
open Go.RowKit Go.ChangeShapes Go.WideShapes

theorem kw_of {W : World} {l : List (String × DataW Unit)} (h : laidMetH Tryd.prog l W) (hs : 9 ≤ W.heap.size) (kr : (l.filter fun y => y.1 == "pedigree/lex.keywords") = [("pedigree/lex.keywords", .agg ((kwT.map bl).map fun s => .lit (.string s)))]) : KwAt W := by
  refine ⟨hs, fun i hi => ?_⟩
  have h1 := str_table h (name := "pedigree/lex.keywords") (ss := kwT.map bl) (g := 0) (t := 64) (n := 8) kr (by kernel_rfl) (by kernel_rfl) (by kernel_rfl) i hi
  rw [h1]
  have h2 : ∀ j, j < 8 → (⟨((kwT.map bl).getD j []).toArray⟩ : ByteArray) = kwT.getD j ⟨#[]⟩ := by decide
  rw [h2 i hi]
theorem sg_of {W : World} {l : List (String × DataW Unit)} (h : laidMetH Tryd.prog l W) (hs : 9 ≤ W.heap.size) (kr : (l.filter fun y => y.1 == "pedigree/lex.signs") = [("pedigree/lex.signs", .agg ((signsT.map bl).map fun s => .lit (.string s)))]) : SgAt W := by
  refine ⟨hs, fun i hi => ?_⟩
  have h1 := str_table h (name := "pedigree/lex.signs") (ss := signsT.map bl) (g := 1) (t := 77) (n := 18) kr (by kernel_rfl) (by kernel_rfl) (by kernel_rfl) i hi
  rw [h1]
  have h2 : ∀ j, j < 18 → (⟨((signsT.map bl).getD j []).toArray⟩ : ByteArray) = signsT.getD j ⟨#[]⟩ := by decide
  rw [h2 i hi]
theorem err_of {W : World} {l : List (String × DataW Unit)} (h : laidMetH Tryd.prog l W) (hs : 9 ≤ W.heap.size) (k1 : (l.filter fun y => y.1 == "strconv.ErrSyntax") = [("strconv.ErrSyntax", Rows.laid_strconv_ErrSyntax)]) (k2 : (l.filter fun y => y.1 == "strconv.ErrRange") = [("strconv.ErrRange", Rows.laid_strconv_ErrRange)]) : ErrAt W :=
  ⟨hs, err_var h k1 (fun e => nomatch e) rfl gSyn (by kernel_rfl) Tryd.underlying58, err_var h k2 (fun e => nomatch e) rfl gRng (by kernel_rfl) Tryd.underlying58⟩
theorem cellsTk : Tryd.prog.cellsOf 36 = 4 := by kernel_rfl
theorem cellsTkK : Tryd.prog.cellsOf 34 = 1 := by kernel_rfl
theorem cellsI64 : Tryd.prog.cellsOf 2 = 1 := by kernel_rfl
theorem cellsInt : Tryd.prog.cellsOf 3 = 1 := by kernel_rfl
theorem list4 {α : Type} : ∀ {l : List α}, l.length = 4 → ∃ a b c d, l = [a, b, c, d]
  | [a, b, c, d], _ => ⟨a, b, c, d, rfl⟩
section
variable {H : Type} {enc : TypeId × Value → H} {w : World} {base : Nat} {sp : Nat → Bool} {held : Bool} {fuel : Nat} {cs : List Value} {x : DataW H × List MemPlace}
theorem trod_token (h : DataW.trod enc Tryd.prog w base sp held fuel 36 cs = some x) : ∃ t : Tk, cs = t.cells ∧ TkR t := by
  obtain ⟨ys, m, _, rfl, hl, hn, hf⟩ := DataW.trod_struct Tryd.underlying36 h
  rw [cellsTk] at hl
  obtain ⟨a, b, c, d, rfl⟩ := list4 hl
  obtain ⟨y0, y1, y2, y3, rfl⟩ := list4 (show ys.length = 4 from hn)
  have h0 := hf 0 _ rfl
  have h1 := hf 1 _ rfl
  have h2 := hf 2 _ rfl
  have h3 := hf 3 _ rfl
  simp [cellsTkK, cellsI64, cellsInt, cellsS] at h0 h1 h2 h3
  obtain ⟨k, e0, _, wk⟩ := DataW.trod_int Tryd.underlying34 h0
  obtain ⟨s, e1, _, st⟩ := DataW.trod_string Tryd.underlying9 h1
  obtain ⟨n, e2, _, wn⟩ := DataW.trod_int Tryd.underlying2 h2
  obtain ⟨p, e3, _, wp⟩ := DataW.trod_int Tryd.underlying3 h3
  simp at e0 e1 e2 e3
  subst e0 e1 e2 e3
  have bk := bounds_i8 wk
  have bn := bounds_i64 wn
  have bp := bounds_i64 wp
  exact ⟨⟨k, s, n, p⟩, rfl, st, bk.1, bk.2, bn.1, bn.2, bp.1, bp.2⟩
set_option maxRecDepth 100000 in
/-- An argument that is a token. -/
theorem open_token {r : Reach} {b0 : Nat} {v : Value} {d : DataW H} {ps : List MemPlace} (hval : Value.okWide Tryd.prog w r b0 36 v) (hd : DataW.Trod enc Tryd.prog w base sp held 36 v d ps) :
    ∃ t : Tk, v = t.agg ∧ TkR t := by
  obtain ⟨cs, rfl, _⟩ := okWide_struct Tryd.underlying36 hval
  obtain ⟨n, hn⟩ := hd
  obtain ⟨t, hc, hr⟩ := trod_token hn
  refine ⟨t, ?_, hr⟩
  have h2 : cs.toList = t.cells := hc
  have h3 : cs = ⟨t.cells⟩ := Array.toList_inj.1 h2
  rw [h3]
  rfl
end
theorem pw_of {W : World} {l : List (String × DataW Unit)} (h : laidMetH Tryd.prog l W) (hs : 9 ≤ W.heap.size) (kp : (l.filter fun y => y.1 == "internal/strconv.uint64pow10") = [("internal/strconv.uint64pow10", Lib.tabData .u64 Lib.pow10Tab)]) : PwAt W :=
  ⟨hs, num_table h kp gPow (by kernel_rfl) (t := 99) (e := 50) (n := 20) (by kernel_rfl) (by kernel_rfl) (by kernel_rfl) (by kernel_rfl)⟩
end Go.Proofs.YtcigdlpljjkplaaDoor
