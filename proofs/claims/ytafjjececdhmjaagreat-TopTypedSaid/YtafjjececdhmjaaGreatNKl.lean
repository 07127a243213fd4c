/- Programs that differ in their rules' order and their variables' names alone are inferred alike: plain law. No program in sight. A renamed rule may be, where the rule may be and the new names are variables' names: plain law. No program in sight. The names that a canonical rule's variables are given: V0, V1 ..; the renaming is one-to-one and may be: plain law. No program in sight. Conditions: none. -/
import Derived.Test.YtafjjececdhmjaaGreatNKk
namespace Go.Proofs.YtafjjececdhmjaaGreat
open Go.RowKit

theorem perm_lift {α β : Type} {f : α → β} {ys m : List β} (h : ys.Perm m) : ∀ l : List α, l.map f = m → ∃ l' : List α, l'.Perm l ∧ l'.map f = ys := by
  induction h with
  | nil => intro l hl; exact ⟨l, .refl _, hl⟩
  | cons x _ ih =>
    intro l hl
    cases l with
    | nil => cases hl
    | cons a r =>
      injection hl with h1 h2
      obtain ⟨l', h3, h4⟩ := ih r h2
      exact ⟨a :: l', h3.cons a, by rw [List.map_cons, h1, h4]⟩
  | swap x y r =>
    intro l hl
    match l, hl with
    | a :: b :: r', hl =>
      injection hl with h1 h2
      injection h2 with h3 h4
      exact ⟨b :: a :: r', .swap a b r', by rw [List.map_cons, List.map_cons, h1, h3, h4]⟩
  | trans _ _ ih1 ih2 =>
    intro l hl
    obtain ⟨l2, h1, h2⟩ := ih2 l hl
    obtain ⟨l1, h3, h4⟩ := ih1 l2 h2
    exact ⟨l1, h3.trans h1, h4⟩
/-- One rule is another with its variables renamed. -/
structure RnOf {d : Nat} (ρ : ByteArray → ByteArray) (x y : Ru d) : Prop where
  p_ : y.p = x.p
  h_ : y.hs = x.hs.map (rnAg ρ)
  b_ : y.bs.map nfLt = (x.bs.map (rnLt ρ)).map nfLt
  ok : RnOk ρ (ruTms x.hs x.bs)
  ru : ruOk x.p (x.hs.map (rnAg ρ)) (x.bs.map (rnLt ρ)) = ruOk x.p x.hs x.bs
section
variable {d : Nat}
theorem RnOf.pr {ρ : ByteArray → ByteArray} {x y : Ru d} (h : RnOf ρ x y) : prOf y = prOf x := by
  unfold prOf
  rw [← rpr_nf y.p y.hs y.bs, h.b_, rpr_nf, h.h_, h.p_, rpr_rn]
theorem RnOf.use {ρ : ByteArray → ByteArray} {x y : Ru d} (h : RnOf ρ x y) : UseOk y ↔ UseOk x := by
  unfold UseOk
  rw [← ruOk_nf y.p y.hs y.bs, h.b_, ruOk_nf, h.h_, h.p_, h.ru, ← safe_nf _ y.bs, h.b_, safe_nf, safe_rn h.ok]
theorem RnOf.cn {ρ : Int → ByteArray → ByteArray} {j : Nat} {x y : Ru d} (h : RnOf (ρ j) x y) : ruCnI j y = (ruCnI j x).map (Cn.map (moveP id ρ)) := by
  unfold ruCnI
  rw [← ruCn_nf _ y.p y.hs y.bs, h.b_, ruCn_nf, h.h_, h.p_]
  exact ruCn_move (π := id) (ρ := ρ) (n := (j : Int)) (by omega) h.ok.sound x.p x.hs x.bs
theorem mem_proCn {xs : List (Ru d)} {c : Cn} : c ∈ proCn xs ↔ ∃ j, ∃ h : j < xs.length, c ∈ ruCnI j xs[j] := by
  unfold proCn
  rw [mem_idxd]
  simp only [Nat.zero_add]
theorem occ_proCn {xs : List (Ru d)} {p : Pl} (h : Occ (proCn xs) p) : ∃ j, ∃ hj : j < xs.length, PlOf j (ruTms xs[j].hs xs[j].bs) p := by
  obtain ⟨c, hc, hp⟩ := h
  obtain ⟨j, hj, h1⟩ := mem_proCn.1 hc
  exact ⟨j, hj, ruCn_of _ _ _ _ c h1 p hp⟩
/-- Renamed in place: the same follows of columns. -/
theorem renamed_has {zs ys : List (Ru d)} {ρ : Int → ByteArray → ByteArray} (hl : ys.length = zs.length) (h : ∀ j, (hz : j < zs.length) → (hy : j < ys.length) → RnOf (ρ j) zs[j] ys[j]) :
    (Torn (proCn zs) ↔ Torn (proCn ys)) ∧ ∀ (n : ByteArray) (i : Nat) (t : Int), Has (proCn zs) t ⟨-1, n, i⟩ ↔ Has (proCn ys) t ⟨-1, n, i⟩ := by
  have hpos : ∀ p : Pl, ¬ p.rule < 0 → moveP id ρ p = ⟨p.rule, ρ p.rule p.name, p.col⟩ := fun p hp => by unfold moveP; rw [if_neg hp]; rfl
  refine moved_has (f := moveP id ρ) (fun p hp => moveP_col hp) (fun p _ hp => ?_) (fun p q hp hq e => ?_) fun c' => ?_
  · rw [hpos p (by omega)]; exact hp
  · obtain ⟨j, hj, h1⟩ := occ_proCn hp
    obtain ⟨k, hk, h2⟩ := occ_proCn hq
    rcases h1 with h1 | ⟨r1, c1, t, ht, n1, m1⟩
    · rw [moveP_col (by omega)] at e
      rcases h2 with h2 | ⟨r2, _⟩
      · rw [moveP_col (by omega)] at e
        exact e
      · rw [hpos q (by omega)] at e
        rw [e] at h1
        simp only at h1
        omega
    · rw [hpos p (by omega)] at e
      rcases h2 with h2 | ⟨r2, c2, u, hu, n2, m2⟩
      · rw [moveP_col (by omega)] at e
        rw [← e] at h2
        simp only at h2
        omega
      · rw [hpos q (by omega)] at e
        injection e with e1 e2 e3
        have hjk : j = k := by omega
        subst hjk
        rw [r1, r2, n1, n2] at e2
        have hn := (h j hj (by omega)).ok.inj t ht u hu m1 m2 e2
        have : p.name = q.name := by rw [n1, n2, hn]
        obtain ⟨pr, pn, pc⟩ := p
        obtain ⟨qr, qn, qc⟩ := q
        simp only at e1 e3 this
        rw [e1, e3, this]
  · constructor
    · intro hc
      obtain ⟨j, hj, h1⟩ := mem_proCn.1 hc
      rw [(h j (by omega) hj).cn] at h1
      obtain ⟨c, h2, h3⟩ := List.mem_map.1 h1
      exact ⟨c, mem_proCn.2 ⟨j, by omega, h2⟩, h3⟩
    · rintro ⟨c, hc, rfl⟩
      obtain ⟨j, hj, h1⟩ := mem_proCn.1 hc
      refine mem_proCn.2 ⟨j, by omega, ?_⟩
      rw [(h j hj (by omega)).cn]
      exact List.mem_map.2 ⟨c, h1, rfl⟩
theorem rn_id_tm (t : Tm) : rnTm (fun v => v) t = t := by
  obtain ⟨v, x⟩ := t
  show (⟨rnB (fun v => v) v, x⟩ : Tm) = _
  unfold rnB
  split <;> rfl
theorem rn_id_ex : ∀ (d : Nat) (e : Ex d), rnEx (fun v => v) d e = e
  | 0, e => nomatch e
  | d + 1, (op, t, s, ks) => by
    show (op, rnTm (fun v => v) t, s, ks.map (rnEx (fun v => v) d)) = (op, t, s, ks)
    have h1 : ks.map (rnEx (fun v => v) d) = ks := by
      conv => rhs; rw [← List.map_id ks]
      exact List.map_congr_left fun k _ => rn_id_ex d k
    rw [rn_id_tm, h1]
theorem rn_id_lt (x : Lt d) : rnLt (fun v => v) x = x := by
  obtain ⟨k, p, ts, sv, r, l, g⟩ := x
  show (⟨k, p, ts.map (rnTm fun v => v), sv, r, rnEx (fun v => v) d l, rnEx (fun v => v) d g⟩ : Lt d) = _
  have h1 : ts.map (rnTm fun v => v) = ts := by
    conv => rhs; rw [← List.map_id ts]
    exact List.map_congr_left fun t _ => rn_id_tm t
  rw [h1, rn_id_ex, rn_id_ex]
theorem rn_id_ag (a : Ag) : rnAg (fun v => v) a = a := by
  obtain ⟨g, t⟩ := a
  show (⟨g, rnTm (fun v => v) t⟩ : Ag) = _
  rw [rn_id_tm]
theorem rn_id {hs : List Ag} {bs : List (Lt d)} : hs.map (rnAg fun v => v) = hs ∧ bs.map (rnLt fun v => v) = bs := by
  constructor
  · conv => rhs; rw [← List.map_id hs]
    exact List.map_congr_left fun a _ => rn_id_ag a
  · conv => rhs; rw [← List.map_id bs]
    exact List.map_congr_left fun x _ => rn_id_lt x
/-- A rule that is left as it is. -/
theorem RnOf.same (x : Ru d) : RnOf (fun v => v) x x :=
  have h := rn_id (hs := x.hs) (bs := x.bs)
  ⟨rfl, h.1.symm, by rw [h.2], ⟨fun _ h1 h2 => ⟨h1, h2⟩, fun _ _ _ _ _ _ e => e⟩, by rw [h.1, h.2]⟩
/-- In another order: the same follows of columns. -/
theorem perm_has {zs xs : List (Ru d)} (hp : zs.Perm xs) : (Torn (proCn zs) ↔ Torn (proCn xs)) ∧ ∀ (n : ByteArray) (i : Nat) (t : Int), Has (proCn zs) t ⟨-1, n, i⟩ ↔ Has (proCn xs) t ⟨-1, n, i⟩ := by
  obtain ⟨l, hl, hz⟩ := perm_lift hp xs.zipIdx (by rw [← List.unzip_fst, List.unzip_zipIdx_eq_prod])
  have hlen : l.length = zs.length := by rw [← hz, List.length_map]
  have hmem : ∀ j (hj : j < l.length), xs[l[j].2]? = some l[j].1 := fun j hj => by
    have h1 := hl.mem_iff.1 (List.getElem_mem hj)
    exact List.mem_zipIdx_iff_getElem?.1 h1
  have hzj : ∀ j (hj : j < zs.length), zs[j] = (l[j]'(by omega)).1 := fun j hj => by
    have h1 := List.getElem_of_eq hz.symm hj
    rw [h1, List.getElem_map]
  have hnd : (l.map Prod.snd).Nodup := by
    rw [(hl.map Prod.snd).nodup_iff]
    have h1 : xs.zipIdx.map Prod.snd = List.range' 0 xs.length := by rw [List.zipIdx_map_snd]
    rw [h1]
    exact List.nodup_range'
  have hsur : ∀ t, t < xs.length → ∃ j, ∃ hj : j < l.length, l[j].2 = t := fun t ht => by
    have h1 : (xs[t], t) ∈ xs.zipIdx := List.mem_zipIdx_iff_getElem?.2 (List.getElem?_eq_getElem ht)
    obtain ⟨j, hj, e⟩ := List.getElem_of_mem (hl.mem_iff.2 h1)
    exact ⟨j, hj, by rw [e]⟩
  obtain ⟨π, hπ⟩ : ∃ π : Int → Int, ∀ j (hj : j < l.length), π (j : Int) = (l[j].2 : Nat) := ⟨fun n => ((l[n.toNat]?).map fun a => (a.2 : Int)).getD n, fun j hj => by simp [hj]⟩
  have hpos : ∀ p : Pl, ¬ p.rule < 0 → moveP π (fun _ v => v) p = ⟨π p.rule, p.name, p.col⟩ := fun p hp => by unfold moveP; rw [if_neg hp]
  have hcn : ∀ j (hj : j < zs.length), ruCnI (l[j]'(by omega)).2 zs[j] = (ruCnI j zs[j]).map (Cn.map (moveP π fun _ v => v)) := fun j hj => by
    have h1 := ruCn_move (π := π) (ρ := fun _ v => v) (n := (j : Int)) (by omega) (fun v h1 h2 => ⟨h1, h2⟩) zs[j].p zs[j].hs zs[j].bs
    rw [(rn_id (hs := zs[j].hs) (bs := zs[j].bs)).1, (rn_id (hs := zs[j].hs) (bs := zs[j].bs)).2, hπ j (by omega)] at h1
    exact h1
  refine moved_has (f := moveP π fun _ v => v) (fun p hp => moveP_col hp) (fun p hp h0 => ?_) (fun p q hp hq e => ?_) fun c' => ?_
  · obtain ⟨j, hj, h1⟩ := occ_proCn hp
    rw [hpos p (by omega)]
    rcases h1 with h1 | ⟨r1, _⟩
    · omega
    · show 0 ≤ π p.rule
      rw [r1, hπ j (by omega)]
      omega
  · obtain ⟨j, hj, h1⟩ := occ_proCn hp
    obtain ⟨k, hk, h2⟩ := occ_proCn hq
    rcases h1 with h1 | ⟨r1, _⟩
    · rw [moveP_col (by omega)] at e
      rcases h2 with h2 | ⟨r2, _⟩
      · rw [moveP_col (by omega)] at e
        exact e
      · rw [hpos q (by omega), r2, hπ k (by omega)] at e
        rw [e] at h1
        simp only at h1
        omega
    · rw [hpos p (by omega), r1, hπ j (by omega)] at e
      rcases h2 with h2 | ⟨r2, _⟩
      · rw [moveP_col (by omega)] at e
        rw [← e] at h2
        simp only at h2
        omega
      · rw [hpos q (by omega), r2, hπ k (by omega)] at e
        injection e with e1 e2 e3
        have hjk : j = k := by
          have h5 := List.pairwise_iff_getElem.1 hnd
          have h6 : (l[j]'(by omega)).2 = (l[k]'(by omega)).2 := by omega
          rcases Nat.lt_trichotomy j k with h7 | h7 | h7
          · exact absurd (by rw [List.getElem_map, List.getElem_map]; exact h6) (h5 j k (by simp; omega) (by simp; omega) h7)
          · exact h7
          · exact absurd (by rw [List.getElem_map, List.getElem_map]; exact h6.symm) (h5 k j (by simp; omega) (by simp; omega) h7)
        obtain ⟨pr, pn, pc⟩ := p
        obtain ⟨qr, qn, qc⟩ := q
        simp only at r1 r2 e2 e3
        rw [r1, r2, e2, e3, hjk]
  · constructor
    · intro hc
      obtain ⟨t, ht, h1⟩ := mem_proCn.1 hc
      obtain ⟨j, hj, e⟩ := hsur t ht
      have h2 : xs[t] = zs[j]'(by omega) := by
        have h3 := hmem j hj
        rw [e, List.getElem?_eq_getElem ht] at h3
        injection h3 with h3
        rw [h3, hzj j (by omega)]
      rw [h2, ← e, hcn j (by omega)] at h1
      obtain ⟨c, h4, h5⟩ := List.mem_map.1 h1
      exact ⟨c, mem_proCn.2 ⟨j, by omega, h4⟩, h5⟩
    · rintro ⟨c, hc, rfl⟩
      obtain ⟨j, hj, h1⟩ := mem_proCn.1 hc
      have h3 := hmem j (by omega)
      have ht : (l[j]'(by omega)).2 < xs.length := (List.getElem?_eq_some_iff.1 h3).1
      have h4 : xs[(l[j]'(by omega)).2] = zs[j] := by
        rw [List.getElem?_eq_getElem ht] at h3
        injection h3 with h3
        rw [h3, hzj j hj]
      refine mem_proCn.2 ⟨_, ht, ?_⟩
      rw [h4, hcn j hj]
      exact List.mem_map.2 ⟨c, h1, rfl⟩
/-- **Alike programs are inferred alike.** -/
theorem alike_prog {xs zs ys : List (Ru d)} {ρ : Int → ByteArray → ByteArray} (hp : zs.Perm xs) (hl : ys.length = zs.length) (h : ∀ j, (hz : j < zs.length) → (hy : j < ys.length) → RnOf (ρ j) zs[j] ys[j]) :
    (Good xs ↔ Good ys) ∧ (∀ v, v ∈ proPr xs ↔ v ∈ proPr ys) ∧ ∀ (n : ByteArray) (i : Nat) (t : Int), Has (proCn xs) t ⟨-1, n, i⟩ ↔ Has (proCn ys) t ⟨-1, n, i⟩ := by
  obtain ⟨t1, a1⟩ := perm_has hp
  obtain ⟨t2, a2⟩ := renamed_has hl h
  have hpr : ∀ v, v ∈ proPr xs ↔ v ∈ proPr ys := fun v => by
    unfold proPr
    constructor
    · intro hv
      obtain ⟨x, hx, h1⟩ := List.mem_flatMap.1 hv
      obtain ⟨j, hj, rfl⟩ := List.getElem_of_mem (hp.mem_iff.2 hx)
      exact List.mem_flatMap.2 ⟨ys[j]'(by omega), List.getElem_mem _, by rw [(h j hj (by omega)).pr]; exact h1⟩
    · intro hv
      obtain ⟨y, hy, h1⟩ := List.mem_flatMap.1 hv
      obtain ⟨j, hj, rfl⟩ := List.getElem_of_mem hy
      rw [(h j (by omega) hj).pr] at h1
      exact List.mem_flatMap.2 ⟨zs[j]'(by omega), hp.mem_iff.1 (List.getElem_mem _), h1⟩
  refine ⟨?_, hpr, fun n i t => (a1 n i t).symm.trans (a2 n i t)⟩
  have huse : (∀ x ∈ xs, UseOk x) ↔ ∀ y ∈ ys, UseOk y := by
    constructor
    · intro hu y hy
      obtain ⟨j, hj, rfl⟩ := List.getElem_of_mem hy
      exact (h j (by omega) hj).use.2 (hu _ (hp.mem_iff.1 (List.getElem_mem _)))
    · intro hu x hx
      obtain ⟨j, hj, rfl⟩ := List.getElem_of_mem (hp.mem_iff.2 hx)
      exact (h j hj (by omega)).use.1 (hu _ (List.getElem_mem (by omega)))
  have hcns : Cns (proPr xs) ↔ Cns (proPr ys) := by
    unfold Cns
    constructor
    · intro hc v n k h1 h2
      exact hc v n k ((hpr _).2 h1) ((hpr _).2 h2)
    · intro hc v n k h1 h2
      exact hc v n k ((hpr _).1 h1) ((hpr _).1 h2)
  unfold Good
  rw [huse, hcns, ← t1, t2]
end
end Go.Proofs.YtafjjececdhmjaaGreat

namespace Go.Proofs.YtafjjececdhmjaaGreat
open Go.RowKit

/-- A renaming by names that variables may have. -/
def NmOk (ρ : ByteArray → ByteArray) (T : List Tm) : Prop := ∀ t ∈ T, Real t → varB (bl (ρ t.v)) = true
theorem rn_same {ρ : ByteArray → ByteArray} {t : Tm} (h : ¬ Real t) : rnTm ρ t = t := by
  have h1 := rn_unreal (ρ := ρ) h
  obtain ⟨v, x⟩ := t
  show (⟨rnB ρ v, x⟩ : Tm) = ⟨v, x⟩
  have h2 : rnB ρ v = v := h1
  rw [h2]
theorem zero_unreal {t : Tm} (h : tmZero t = true) : ¬ Real t := fun hr => by
  unfold tmZero at h
  rw [Bool.and_eq_true] at h
  exact hr.1 h.1
section
variable {ρ : ByteArray → ByteArray} {T : List Tm}
theorem tmOk_rn (hs : SoundR ρ) (hn : NmOk ρ T) {t : Tm} (ht : t ∈ T) (h : tmOk t = true) : tmOk (rnTm ρ t) = true := by
  by_cases hr : Real t
  · have h1 := hs t.v hr.1 hr.2
    unfold tmOk at h ⊢
    rw [if_neg hr.1, Bool.and_eq_true] at h
    rw [rn_real hr, if_neg h1.1, hn t ht hr, Bool.or_true, Bool.and_true]
    exact h.1
  · rw [rn_same hr]; exact h
theorem solid_rn (hs : SoundR ρ) (hn : NmOk ρ T) {t : Tm} (ht : t ∈ T) (h : solidB t = true) : solidB (rnTm ρ t) = true := by
  by_cases hr : Real t
  · unfold solidB at h ⊢
    rw [Bool.and_eq_true] at h ⊢
    refine ⟨?_, tmOk_rn hs hn ht h.2⟩
    rw [rn_real hr]
    have h1 := (hs t.v hr.1 hr.2).2
    simpa using h1
  · rw [rn_same hr]; exact h
theorem agOk_rn (hs : SoundR ρ) (hn : NmOk ρ T) {a : Ag} (ht : a.t ∈ T) (h : agOk a = true) : agOk (rnAg ρ a) = true := by
  obtain ⟨g, t⟩ := a
  show agOk ⟨g, rnTm ρ t⟩ = true
  unfold agOk at h ⊢
  simp only at h ht ⊢
  split
  · rename_i h0
    rw [if_pos h0] at h
    exact solid_rn hs hn ht h
  · rename_i h0
    rw [if_neg h0] at h
    split
    · rename_i h1
      rw [if_pos h1] at h
      rw [rn_same (zero_unreal h)]
      exact h
    · rename_i h1
      rw [if_neg h1] at h
      split
      · rename_i h2
        rw [if_pos h2, Bool.and_eq_true] at h
        rw [Bool.and_eq_true]
        refine ⟨?_, solid_rn hs hn ht h.2⟩
        by_cases hr : Real t
        · rw [rn_real hr]
          simpa using (hs t.v hr.1 hr.2).1
        · rw [rn_same hr]; exact h.1
      · rename_i h2
        rw [if_neg h2] at h
        cases h
theorem exOk_rn (hs : SoundR ρ) (hn : NmOk ρ T) : ∀ (d n : Nat) (e : Ex d), (∀ t ∈ exTms d e, t ∈ T) → exOk n d e = true → exOk n d (rnEx ρ d e) = true
  | 0, _, e, _, _ => nomatch e
  | _ + 1, 0, _, _, h => by simp [exOk] at h
  | d + 1, n + 1, (op, t, s, ks), hT, h => by
    have ht : t ∈ T := hT t (by simp [exTms])
    have hk : ∀ k ∈ ks, ∀ u ∈ exTms d k, u ∈ T := fun k hk u hu => hT u (List.mem_cons_of_mem _ (List.mem_flatMap.2 ⟨k, hk, hu⟩))
    change (if op = 0 then ks.isEmpty && solidB t else tmZero t && decide ((ks.length : Int) = arityI op) && ks.all (exOk n d)) = true at h
    show (if op = 0 then (ks.map (rnEx ρ d)).isEmpty && solidB (rnTm ρ t) else tmZero (rnTm ρ t) && decide (((ks.map (rnEx ρ d)).length : Int) = arityI op) && (ks.map (rnEx ρ d)).all (exOk n d)) = true
    split
    · rename_i h0
      rw [if_pos h0, Bool.and_eq_true] at h
      rw [Bool.and_eq_true]
      exact ⟨by cases ks <;> simp_all, solid_rn hs hn ht h.2⟩
    · rename_i h0
      rw [if_neg h0] at h
      simp only [Bool.and_eq_true, List.all_eq_true] at h ⊢
      refine ⟨⟨by rw [rn_same (zero_unreal h.1.1)]; exact h.1.1, by rw [List.length_map]; exact h.1.2⟩, fun e he => ?_⟩
      obtain ⟨k, hk1, rfl⟩ := List.mem_map.1 he
      exact exOk_rn hs hn d n k (hk k hk1) (h.2 k hk1)
theorem noB_rn {d : Nat} {e : Ex d} (h : noB (exOp d e) (exTm d e) (exLen d e) = true) : noB (exOp d (rnEx ρ d e)) (exTm d (rnEx ρ d e)) (exLen d (rnEx ρ d e)) = true := by
  rw [exOp_rn, exTm_rn, exLen_rn]
  have h1 : tmZero (exTm d e) = true := by
    unfold noB at h
    simp only [Bool.and_eq_true] at h
    exact h.1.2
  rw [rn_same (zero_unreal h1)]
  exact h
theorem ltOk_rn (hs : SoundR ρ) (hn : NmOk ρ T) {d : Nat} {x : Lt d} (hT : ∀ t ∈ ltTms x, t ∈ T) (h : ltOk x = true) : ltOk (rnLt ρ x) = true := by
  have s0 : ∀ t ∈ x.ts, t ∈ T := fun t ht => hT t (List.mem_append_left _ ht)
  have s1 : ∀ t ∈ exTms d x.l, t ∈ T := fun t ht => hT t (List.mem_append_right _ (List.mem_append_left _ ht))
  have s2 : ∀ t ∈ exTms d x.g, t ∈ T := fun t ht => hT t (List.mem_append_right _ (List.mem_append_right _ ht))
  unfold ltOk at h
  show (if x.k = 1 ∨ x.k = 2 then atOk x.p (x.ts.map (rnTm ρ)) && (x.r == 0) && noB (exOp d (rnEx ρ d x.l)) (exTm d (rnEx ρ d x.l)) (exLen d (rnEx ρ d x.l)) && noB (exOp d (rnEx ρ d x.g)) (exTm d (rnEx ρ d x.g)) (exLen d (rnEx ρ d x.g))
    else if x.k = 3 then (bl x.p).isEmpty && decide ((x.ts.map (rnTm ρ)).length = 0) && decide (1 ≤ x.r) && decide (x.r ≤ 6) && exOk 8 d (rnEx ρ d x.l) && exOk 8 d (rnEx ρ d x.g) else false) = true
  split at h
  · rename_i h0
    rw [if_pos h0]
    simp only [Bool.and_eq_true] at h ⊢
    refine ⟨⟨⟨?_, h.1.1.2⟩, noB_rn h.1.2⟩, noB_rn h.2⟩
    have h1 := h.1.1.1
    unfold atOk at h1 ⊢
    simp only [Bool.and_eq_true, decide_eq_true_eq, Bool.not_eq_true', List.length_map] at h1 ⊢
    refine ⟨h1.1, ?_⟩
    rw [List.any_eq_false] at h1 ⊢
    intro u hu
    obtain ⟨t, ht, rfl⟩ := List.mem_map.1 hu
    have h2 := h1.2 t ht
    unfold tmBad at h2 ⊢
    have h3 : tmOk t = true := by simpa using h2
    rw [tmOk_rn hs hn (s0 t ht) h3]
    simp
  · rename_i h0
    rw [if_neg h0]
    split at h
    · rename_i h3
      rw [if_pos h3]
      simp only [Bool.and_eq_true, List.length_map] at h ⊢
      exact ⟨⟨h.1.1, exOk_rn hs hn d 8 x.l s1 h.1.2⟩, exOk_rn hs hn d 8 x.g s2 h.2⟩
    · cases h
/-- **A renamed rule may be.** -/
theorem ruOk_rn {d : Nat} {p : ByteArray} {hs : List Ag} {bs : List (Lt d)} (hr : RnOk ρ (ruTms hs bs)) (hn : NmOk ρ (ruTms hs bs)) (h : ruOk p hs bs = true) : ruOk p (hs.map (rnAg ρ)) (bs.map (rnLt ρ)) = true := by
  unfold ruOk at h ⊢
  simp only [Bool.and_eq_true, decide_eq_true_eq, List.length_map, List.all_eq_true] at h ⊢
  refine ⟨⟨⟨h.1.1.1, fun a ha => ?_⟩, fun y hy => ?_⟩, ?_⟩
  · obtain ⟨b, hb, rfl⟩ := List.mem_map.1 ha
    exact agOk_rn hr.sound hn (List.mem_append_left _ (List.mem_map.2 ⟨b, hb, rfl⟩)) (h.1.1.2 b hb)
  · obtain ⟨x, hx, rfl⟩ := List.mem_map.1 hy
    exact ltOk_rn hr.sound hn (fun t ht => List.mem_append_right _ (List.mem_flatMap.2 ⟨x, hx, ht⟩)) (h.1.2 x hx)
  · rw [ruTms_rn, vars_rn hr (fun t ht => ht), List.length_map]
    exact h.2
end
end Go.Proofs.YtafjjececdhmjaaGreat

namespace Go.Proofs.YtafjjececdhmjaaGreat
open Go.RowKit

/-- V and a number. -/
def cano (i : Nat) : ByteArray := ⟨(86 :: Lib.itoa (i : Int)).toArray⟩
/-- Names and what is put in their place. -/
def canK (k : Nat) (l : List (List UInt8)) : List (ByteArray × ByteArray) := (l.zipIdx k).map fun x => (⟨x.1.toArray⟩, cano x.2)
def canL (l : List (List UInt8)) : List (ByteArray × ByteArray) := canK 0 l
/-- A name's place taken by what the first pair says. -/
def rhoP : List (ByteArray × ByteArray) → ByteArray → ByteArray
  | [], v => v
  | x :: r, v => if x.1 = v then x.2 else rhoP r v
theorem dec_small {i : Nat} (h : i < 100) : Lib.decDigits i = if i < 10 then [UInt8.ofNat (48 + i)] else [UInt8.ofNat (48 + i / 10), UInt8.ofNat (48 + i % 10)] := by
  rw [Lib.decDigits]
  split
  · rfl
  · rename_i h1
    rw [Lib.decDigits, dif_pos (by omega)]
    rfl
theorem bl_cano {i : Nat} (h : i < 100) : bl (cano i) = 86 :: (if i < 10 then [UInt8.ofNat (48 + i)] else [UInt8.ofNat (48 + i / 10), UInt8.ofNat (48 + i % 10)]) := by
  unfold cano
  rw [bl_mk, ← dec_small h]
  unfold Lib.itoa
  rw [if_neg (by omega)]
  rfl
theorem of_nat_inj {a b : Nat} (ha : a < 256) (hb : b < 256) (h : UInt8.ofNat a = UInt8.ofNat b) : a = b := by
  have := congrArg UInt8.toNat h
  simp at this
  omega
theorem cano_inj {i j : Nat} (hi : i < 100) (hj : j < 100) (h : cano i = cano j) : i = j := by
  have h1 := congrArg bl h
  rw [bl_cano hi, bl_cano hj] at h1
  injection h1 with _ h2
  split at h2
  · split at h2
    · injection h2 with h3
      have := of_nat_inj (by omega) (by omega) h3
      omega
    · injection h2 with _ h3
      cases h3
  · split at h2
    · injection h2 with _ h3
      cases h3
    · injection h2 with h3 h4
      injection h4 with h5
      have := of_nat_inj (by omega) (by omega) h3
      have := of_nat_inj (by omega) (by omega) h5
      omega
theorem digit_ok {i : Nat} (h : i < 10) : wordB (UInt8.ofNat (48 + i)) = true := by
  have h1 : (UInt8.ofNat (48 + i)).toNat = 48 + i := by simp; omega
  unfold wordB digitB
  rw [h1]
  have h2 : decide (48 ≤ 48 + i) = true := decide_eq_true (by omega)
  have h3 : decide (48 + i ≤ 57) = true := decide_eq_true (by omega)
  rw [h2, h3]
  simp
theorem cano_var {i : Nat} (h : i < 100) : varB (bl (cano i)) = true := by
  rw [bl_cano h]
  by_cases h1 : i < 10
  · rw [if_pos h1]
    simp only [varB, runB, List.all_cons, List.all_nil, digit_ok h1, Bool.and_true]
    rfl
  · rw [if_neg h1]
    simp only [varB, runB, List.all_cons, List.all_nil, digit_ok (show i / 10 < 10 by omega), digit_ok (show i % 10 < 10 by omega), Bool.and_true]
    rfl
theorem rhoP_at : ∀ (l : List (List UInt8)) (k : Nat) (v : ByteArray), bl v ∈ l → ∃ i, ∃ h : i < l.length, l[i] = bl v ∧ rhoP (canK k l) v = cano (k + i)
  | [], _, _, h => by simp at h
  | x :: r, k, v, h => by
    show ∃ i, ∃ h : i < (x :: r).length, (x :: r)[i] = bl v ∧ (if (⟨x.toArray⟩ : ByteArray) = v then cano k else rhoP (canK (k + 1) r) v) = cano (k + i)
    by_cases e : (⟨x.toArray⟩ : ByteArray) = v
    · rw [if_pos e]
      exact ⟨0, by simp, by rw [← e]; rfl, rfl⟩
    · rw [if_neg e]
      have h1 : bl v ∈ r := by
        rcases List.mem_cons.1 h with h2 | h2
        · exact absurd (by rw [← h2, mk_bl]) e
        · exact h2
      obtain ⟨i, hi, h2, h3⟩ := rhoP_at r (k + 1) v h1
      exact ⟨i + 1, by simpa using hi, by simpa using h2, by rw [h3]; congr 1; omega⟩
theorem rhoP_off : ∀ (l : List (List UInt8)) (k : Nat) (v : ByteArray), bl v ∉ l → rhoP (canK k l) v = v
  | [], _, _, _ => rfl
  | x :: r, k, v, h => by
    show (if (⟨x.toArray⟩ : ByteArray) = v then cano k else rhoP (canK (k + 1) r) v) = v
    rw [if_neg (fun e => h (by rw [← e]; exact List.mem_cons_self)), rhoP_off r (k + 1) v (fun h1 => h (List.mem_cons_of_mem _ h1))]
theorem fold_keep : ∀ (ts : List Tm) (acc : List (List UInt8)) {v : List UInt8}, v ∈ acc → v ∈ ts.foldl addV acc
  | [], _, _, h => h
  | t :: r, acc, _, h => by
    refine fold_keep r _ ?_
    unfold addV
    split
    · exact List.mem_append_left _ h
    · exact h
theorem fold_has : ∀ (ts : List Tm) (acc : List (List UInt8)) {t : Tm}, t ∈ ts → Real t → bl t.v ∈ ts.foldl addV acc
  | u :: r, acc, t, h, hr => by
    rcases List.mem_cons.1 h with h1 | h1
    · subst h1
      refine fold_keep r _ ?_
      unfold addV
      split
      · simp
      · rename_i hn
        unfold newV at hn
        have e1 : (bl t.v).isEmpty = false := Bool.eq_false_iff.2 hr.1
        have e2 : (bl t.v == [95]) = false := beq_eq_false_iff_ne.2 hr.2
        rw [e1, e2] at hn
        simpa using hn
    · exact fold_has r _ h1 hr
theorem real_vars {ts : List Tm} {t : Tm} (h : t ∈ ts) (hr : Real t) : bl t.v ∈ varsL ts := fold_has ts [] h hr
/-- **The canonical renaming is one-to-one and may be.** -/
theorem can_ok {T : List Tm} (hl : (varsL T).length ≤ 24) : RnOk (rhoP (canL (varsL T))) T ∧ NmOk (rhoP (canL (varsL T))) T := by
  have hat := fun v h => rhoP_at (varsL T) 0 v h
  refine ⟨⟨fun v h1 h2 => ?_, fun t ht u hu rt ru e => ?_⟩, fun t ht hr => ?_⟩
  · by_cases hm : bl v ∈ varsL T
    · obtain ⟨i, hi, _, h3⟩ := hat v hm
      unfold canL
      rw [h3, Nat.zero_add, bl_cano (by omega)]
      exact ⟨by simp, by simp⟩
    · unfold canL
      rw [rhoP_off _ _ _ hm]
      exact ⟨h1, h2⟩
  · obtain ⟨i, hi, h1, h2⟩ := hat t.v (real_vars ht rt)
    obtain ⟨j, hj, h3, h4⟩ := hat u.v (real_vars hu ru)
    unfold canL at e
    rw [h2, h4] at e
    have := cano_inj (by omega) (by omega) e
    have e2 : i = j := by omega
    subst e2
    exact bl_inj (h1.symm.trans h3)
  · obtain ⟨i, hi, _, h2⟩ := hat t.v (real_vars ht hr)
    unfold canL
    rw [h2]
    exact cano_var (by omega)
/-! Rules whose terms' values are nothing beside a variable; whose lists are short. -/
def PutT (t : Tm) : Prop := Real t → t.x = ⟨0, 0, ⟨#[]⟩⟩
theorem vl_zero {x : Vl} (h : vlZero x = true) : x = ⟨0, 0, ⟨#[]⟩⟩ := by
  obtain ⟨k, n, t⟩ := x
  unfold vlZero at h
  simp only [Bool.and_eq_true, beq_iff_eq, List.isEmpty_iff] at h
  obtain ⟨⟨rfl, rfl⟩, h3⟩ := h
  rw [bl_inj (b := ⟨#[]⟩) h3]
theorem putT_ok {t : Tm} (h : tmOk t = true) : PutT t := fun hr => by
  unfold tmOk at h
  rw [if_neg hr.1, Bool.and_eq_true] at h
  exact vl_zero h.1
theorem putT_zero {t : Tm} (h : tmZero t = true) : PutT t := fun hr => absurd hr (zero_unreal h)
theorem putT_solid {t : Tm} (h : solidB t = true) : PutT t := by
  unfold solidB at h
  rw [Bool.and_eq_true] at h
  exact putT_ok h.2
def PutE : (d : Nat) → Ex d → Prop
  | 0, _ => True
  | d + 1, e => PutT e.2.1 ∧ e.2.2.2.length ≤ 2 ∧ ∀ k ∈ e.2.2.2, PutE d k
theorem putE_ok : ∀ (d n : Nat) (e : Ex d), exOk n d e = true → PutE d e
  | 0, _, _, _ => trivial
  | _ + 1, 0, _, h => by simp [exOk] at h
  | d + 1, n + 1, (op, t, s, ks), h => by
    change (if op = 0 then ks.isEmpty && solidB t else tmZero t && decide ((ks.length : Int) = arityI op) && ks.all (exOk n d)) = true at h
    show PutT t ∧ ks.length ≤ 2 ∧ ∀ k ∈ ks, PutE d k
    split at h
    · rw [Bool.and_eq_true, List.isEmpty_iff] at h
      obtain ⟨rfl, h2⟩ := h
      exact ⟨putT_solid h2, by simp, fun k hk => by simp at hk⟩
    · simp only [Bool.and_eq_true, List.all_eq_true, decide_eq_true_eq] at h
      refine ⟨putT_zero h.1.1, ?_, fun k hk => putE_ok d n k (h.2 k hk)⟩
      have := h.1.2
      unfold arityI at this
      split at this
      · omega
      · split at this <;> omega
theorem putE_no : ∀ (d : Nat) (e : Ex d), noB (exOp d e) (exTm d e) (exLen d e) = true → PutE d e
  | 0, _, _ => trivial
  | d + 1, (op, t, s, ks), h => by
    change (op == 0 && tmZero t && decide (ks.length = 0)) = true at h
    simp only [Bool.and_eq_true, decide_eq_true_eq] at h
    refine ⟨putT_zero h.1.2, by show ks.length ≤ 2; omega, fun k hk => ?_⟩
    have hk' : k ∈ ks := hk
    rw [List.eq_nil_of_length_eq_zero h.2] at hk'
    simp at hk'
structure PutL {d : Nat} (x : Lt d) : Prop where
  n_ : x.ts.length ≤ 24
  t_ : ∀ t ∈ x.ts, PutT t
  l_ : PutE d x.l
  g_ : PutE d x.g
theorem putL_ok {d : Nat} {x : Lt d} (h : ltOk x = true) : PutL x := by
  unfold ltOk at h
  split at h
  · simp only [Bool.and_eq_true] at h
    have h1 := h.1.1.1
    unfold atOk at h1
    simp only [Bool.and_eq_true, decide_eq_true_eq, Bool.not_eq_true'] at h1
    refine ⟨h1.1.2, fun t ht => putT_ok ?_, putE_no _ _ h.1.2, putE_no _ _ h.2⟩
    have h2 := List.any_eq_false.1 h1.2 t ht
    simpa [tmBad] using h2
  · split at h
    · simp only [Bool.and_eq_true, decide_eq_true_eq] at h
      have h1 := h.1.1.1.1.2
      refine ⟨by omega, fun t ht => ?_, putE_ok _ _ _ h.1.2, putE_ok _ _ _ h.2⟩
      rw [List.eq_nil_of_length_eq_zero h1] at ht
      simp at ht
    · cases h
theorem putA_ok {a : Ag} (h : agOk a = true) : PutT a.t := by
  unfold agOk at h
  split at h
  · exact putT_solid h
  · split at h
    · exact putT_zero h
    · split at h
      · rw [Bool.and_eq_true] at h
        exact putT_solid h.2
      · cases h
structure PutR {d : Nat} (hs : List Ag) (bs : List (Lt d)) : Prop where
  hn : hs.length ≤ 24
  bn : bs.length ≤ 16
  h_ : ∀ a ∈ hs, PutT a.t
  b_ : ∀ x ∈ bs, PutL x
theorem putR_ok {d : Nat} {p : ByteArray} {hs : List Ag} {bs : List (Lt d)} (h : ruOk p hs bs = true) : PutR hs bs ∧ (varsL (ruTms hs bs)).length ≤ 24 := by
  unfold ruOk at h
  simp only [Bool.and_eq_true, decide_eq_true_eq, List.all_eq_true] at h
  exact ⟨⟨h.1.1.1.1.2, h.1.1.1.2, fun a ha => putA_ok (h.1.1.2 a ha), fun x hx => putL_ok (h.1.2 x hx)⟩, h.2⟩
/-- A rule made canonical. -/
theorem rnOf_can {d : Nat} {x y : Ru d} (h : ruOk x.p x.hs x.bs = true) (hp : y.p = x.p) (hh : y.hs = x.hs.map (rnAg (rhoP (canL (varsL (ruTms x.hs x.bs)))))) (hb : y.bs.map nfLt = (x.bs.map (rnLt (rhoP (canL (varsL (ruTms x.hs x.bs)))))).map nfLt) :
    RnOf (rhoP (canL (varsL (ruTms x.hs x.bs)))) x y := by
  obtain ⟨h1, h2⟩ := can_ok (putR_ok h).2
  exact ⟨hp, hh, hb, h1, by rw [ruOk_rn h1 h2 h, h]⟩
end Go.Proofs.YtafjjececdhmjaaGreat
