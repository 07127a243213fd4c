/- A rule and its copy: what the checks and the writers say of both is the same; no program in sight. The walk of PrintRules. Conditions: none. the rule lies in memory as it is told, the tables are in place, no list is too long. -/
import Derived.Test.YtdgbenadoaecoaaDoorS22
import Derived.Test.YtdgbenadoaecoaaDoorF3
import Derived.Test.YtdgbenadoaecoaaDoorS9
namespace Go.Proofs.YtdgbenadoaecoaaDoor
open Go.RowKit

theorem like_map {α β : Type} {R : α → α → Prop} (g : α → β) (hR : ∀ x y, R x y → g x = g y) {fs gs : List α} (hl : gs.length = fs.length) (h : ∀ i, (h : i < fs.length) → (h' : i < gs.length) → R fs[i] gs[i]) : fs.map g = gs.map g :=
  alike_map g hl.symm (fun i h1 h2 => hR _ _ (h i h1 h2))
theorem Alike.tms : ∀ {d : Nat} {e f : Ex d}, Alike d e f → exTms d e = exTms d f
  | 0, e, _, _ => nomatch e
  | d + 1, (_, tm, _, ks), (_, tm', _, ts), h => by
    obtain ⟨_, h2, h3, h4⟩ := h
    have h2' : tm = tm' := h2
    have h3' : ks.length = ts.length := h3
    subst h2'
    show tm :: ks.flatMap (exTms d) = tm :: ts.flatMap (exTms d)
    rw [List.flatMap_def, List.flatMap_def, alike_map (exTms d) h3' (fun i a b => (h4 i a b).tms)]
theorem LtLike.tms {d : Nat} {x y : Lt d} (h : LtLike x y) : ltTms x = ltTms y := by
  unfold ltTms
  rw [h.ts_, h.l_.tms, h.g_.tms]
theorem bodL_map {d : Nat} : ∀ (xs ys : List (Lt d)) (f : Bool), xs.map litL = ys.map litL → bodL f xs = bodL f ys
  | [], [], _, _ => rfl
  | [], _ :: _, _, h => by simp at h
  | _ :: _, [], _, h => by simp at h
  | x :: r, y :: s, f, h => by
    simp only [List.map_cons, List.cons.injEq] at h
    rw [bodL, bodL, h.1, bodL_map r s false h.2]
theorem ruOk_like {d : Nat} (p : ByteArray) (hs : List Ag) {bs gs : List (Lt d)} (hl : gs.length = bs.length) (h : ∀ i, (h : i < bs.length) → (h' : i < gs.length) → LtLike bs[i] gs[i]) : ruOk p hs gs = ruOk p hs bs := by
  have h1 := like_map ltOk (fun _ _ h => LtLike.ok h) hl h
  have h2 := like_map ltTms (fun _ _ h => LtLike.tms h) hl h
  unfold ruOk ruTms
  rw [hl, all_map ltOk gs, all_map ltOk bs, h1, List.flatMap_def, List.flatMap_def, h2]
theorem ruL_like {d : Nat} (p : ByteArray) (hs : List Ag) {bs gs : List (Lt d)} (hl : gs.length = bs.length) (h : ∀ i, (h : i < bs.length) → (h' : i < gs.length) → LtLike bs[i] gs[i]) : ruL p hs gs = ruL p hs bs := by
  have h1 := like_map litL (fun _ _ h => LtLike.txt h) hl h
  unfold ruL
  rw [bodL_map gs bs true h1.symm]
open Go.RowKit

end Go.Proofs.YtdgbenadoaecoaaDoor
