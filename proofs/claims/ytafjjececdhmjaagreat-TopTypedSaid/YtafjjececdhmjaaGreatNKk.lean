/- What is inferred hangs neither on the rules' order nor on the variables' names: plain law. No program in sight. Constraints moved by a map that is one-to-one on the places that occur: the same follows; which places occur in a rule; where lists lie does not matter: plain law. No program in sight. Rules told without the places where their lists lie; rules whose variables are renamed: what they say, which they are: plain law. No program in sight. Rules whose variables are renamed one-to-one: their variables, what their bodies limit: plain law. No program in sight. What a renamed rule's body limits, whether it may be used: plain law. No program in sight. Conditions: none. -/
import Derived.Test.YtafjjececdhmjaaGreatNKj
namespace Go.Proofs.YtafjjececdhmjaaGreat
open Go.RowKit

/-- Two lists of signatures that tell the same of the same predicates are the same. -/
theorem sg_same {prs prs' : List (List UInt8 × Nat)} {cs cs' : List Cn} {dd ee : List Sg} (h : SgOk prs dd) (k : SgOk prs' ee) (hp : ∀ x, x ∈ prs ↔ x ∈ prs') (hc : Cns prs) (ht : ∀ (n : ByteArray) (i : Nat) (t : Int), Has cs t ⟨-1, n, i⟩ ↔ Has cs' t ⟨-1, n, i⟩)
    (h1 : ∀ x ∈ dd, ∀ i, (hi : i < x.cols.length) → TyOf cs ⟨-1, x.name, i⟩ x.cols[i]) (k1 : ∀ x ∈ ee, ∀ i, (hi : i < x.cols.length) → TyOf cs' ⟨-1, x.name, i⟩ x.cols[i]) :
    dd.length = ee.length ∧ ∀ i, (hi : i < dd.length) → (hj : i < ee.length) → dd[i].name = ee[i].name ∧ dd[i].cols = ee[i].cols := by
  have hsub : ∀ {prs prs' : List (List UInt8 × Nat)} {dd ee : List Sg}, SgOk prs dd → SgOk prs' ee → (∀ x, x ∈ prs ↔ x ∈ prs') → ∀ v, v ∈ dd.map (fun s => bl s.name) → v ∈ ee.map (fun s => bl s.name) := by
    intro prs prs' dd ee h k hp v hv
    obtain ⟨x, hx, rfl⟩ := List.mem_map.1 hv
    obtain ⟨y, hy, e⟩ := k.all _ _ ((hp _).1 (h.in_ x hx))
    exact List.mem_map.2 ⟨y, hy, e⟩
  have hsort : ∀ {prs : List (List UInt8 × Nat)} {dd : List Sg}, SgOk prs dd → (dd.map fun s => bl s.name).Pairwise (· < ·) := by
    intro prs dd h
    rw [List.pairwise_iff_getElem]
    intro i j hi hj hij
    simp only [List.length_map] at hi hj
    simp only [List.getElem_map]
    exact h.so i j hi hj hij
  have heq : dd.map (fun s => bl s.name) = ee.map (fun s => bl s.name) := by
    have hu : ∀ (l m : List (List UInt8)), l.Pairwise (· < ·) → m.Pairwise (· < ·) → (∀ v, v ∈ l ↔ v ∈ m) → l = m := by
      intro l
      induction l with
      | nil =>
        intro m _ _ hv
        cases m with
        | nil => rfl
        | cons y r => exact absurd ((hv y).2 (by simp)) (by simp)
      | cons x l ih =>
        intro m hl hm hv
        cases m with
        | nil => exact absurd ((hv x).1 (by simp)) (by simp)
        | cons y m =>
          obtain ⟨l1, l2⟩ := List.pairwise_cons.1 hl
          obtain ⟨m1, m2⟩ := List.pairwise_cons.1 hm
          have hxy : x = y := by
            rcases List.mem_cons.1 ((hv x).1 (by simp)) with e | e
            · exact e
            · rcases List.mem_cons.1 ((hv y).2 (by simp)) with e2 | e2
              · exact e2.symm
              · exact absurd (List.lt_trans (l1 y e2) (m1 x e)) (List.lt_irrefl _)
          subst hxy
          congr 1
          refine ih m l2 m2 fun v => ⟨fun h => ?_, fun h => ?_⟩
          · rcases List.mem_cons.1 ((hv v).1 (List.mem_cons_of_mem _ h)) with e | e
            · exact absurd (l1 v h) (by rw [e]; exact List.lt_irrefl _)
            · exact e
          · rcases List.mem_cons.1 ((hv v).2 (List.mem_cons_of_mem _ h)) with e | e
            · exact absurd (m1 v h) (by rw [e]; exact List.lt_irrefl _)
            · exact e
    exact hu _ _ (hsort h) (hsort k) fun v => ⟨hsub h k hp v, hsub k h (fun x => (hp x).symm) v⟩
  have hl : dd.length = ee.length := by
    have := congrArg List.length heq
    simpa using this
  refine ⟨hl, fun i hi hj => ?_⟩
  have hn : dd[i].name = ee[i].name := by
    have h2 := List.getElem_of_eq heq (i := i) (by simpa using hi)
    simp only [List.getElem_map] at h2
    exact bl_inj h2
  have hcl : dd[i].cols.length = ee[i].cols.length := by
    have h2 := (hp _).2 (k.in_ _ (List.getElem_mem hj))
    exact hc _ _ _ (h.in_ _ (List.getElem_mem hi)) (by rw [hn]; exact h2)
  refine ⟨hn, List.ext_getElem hcl fun j h2 h3 => ?_⟩
  have a1 := h1 _ (List.getElem_mem hi) j h2
  have a2 := k1 _ (List.getElem_mem hj) j h3
  rw [hn] at a1
  by_cases h0 : dd[i].cols[j] = 0
  · by_cases h4 : ee[i].cols[j] = 0
    · rw [h0, h4]
    · exact a1.2 _ ((ht _ _ _).2 (a2.1 h4)) |>.symm
  · exact a2.2 _ ((ht _ _ _).1 (a1.1 h0))
theorem moveP_col {π : Int → Int} {ρ : Int → ByteArray → ByteArray} {p : Pl} (h : p.rule < 0) : moveP π ρ p = p := by unfold moveP; rw [if_pos h]
/-- **Alike programs are inferred alike.** -/
theorem alike_has {cs cs' : List Cn} {f g : Pl → Pl} (hf : ∀ p : Pl, p.rule < 0 → f p = p) (hg : ∀ p : Pl, p.rule < 0 → g p = p) (h1 : ∀ c ∈ cs, c.map f ∈ cs') (h2 : ∀ c ∈ cs', c.map g ∈ cs) :
    (Torn cs ↔ Torn cs') ∧ ∀ (n : ByteArray) (i : Nat) (t : Int), Has cs t ⟨-1, n, i⟩ ↔ Has cs' t ⟨-1, n, i⟩ := by
  refine ⟨⟨fun h => h.map h1, fun h => h.map h2⟩, fun n i t => ⟨fun h => ?_, fun h => ?_⟩⟩
  · have := h.map h1
    rwa [hf _ (by show (-1 : Int) < 0; omega)] at this
  · have := h.map h2
    rwa [hg _ (by show (-1 : Int) < 0; omega)] at this
end Go.Proofs.YtafjjececdhmjaaGreat

namespace Go.Proofs.YtafjjececdhmjaaGreat
open Go.RowKit

/-- The places that a constraint names. -/
def Cn.pls : Cn → List Pl
  | .say p _ => [p]
  | .eq p q => [p, q]
  | .bad => []
def Occ (cs : List Cn) (p : Pl) : Prop := ∃ c ∈ cs, p ∈ c.pls
theorem Cn.map_back {f g : Pl → Pl} {c : Cn} (h : ∀ p ∈ c.pls, g (f p) = p) : (c.map f).map g = c := by
  cases c with
  | say p t => simp only [Cn.map]; rw [h p (by simp [Cn.pls])]
  | eq p q => simp only [Cn.map]; rw [h p (by simp [Cn.pls]), h q (by simp [Cn.pls])]
  | bad => rfl
/-- **What follows of columns is the same behind a renaming that is one-to-one on what occurs.** -/
theorem moved_has {cs cs' : List Cn} {f : Pl → Pl} (hf : ∀ p : Pl, p.rule < 0 → f p = p) (hpos : ∀ p, Occ cs p → 0 ≤ p.rule → 0 ≤ (f p).rule) (hinj : ∀ p q, Occ cs p → Occ cs q → f p = f q → p = q) (h : ∀ c', c' ∈ cs' ↔ ∃ c ∈ cs, c.map f = c') :
    (Torn cs ↔ Torn cs') ∧ ∀ (n : ByteArray) (i : Nat) (t : Int), Has cs t ⟨-1, n, i⟩ ↔ Has cs' t ⟨-1, n, i⟩ := by
  have hex : ∃ g : Pl → Pl, (∀ p : Pl, p.rule < 0 → g p = p) ∧ ∀ p, Occ cs p → g (f p) = p := by
    refine ⟨fun q => open Classical in if h0 : q.rule < 0 then q else if h1 : ∃ p, Occ cs p ∧ f p = q then Classical.choose h1 else q, fun p hp => ?_, fun p hp => ?_⟩
    · show (open Classical in if h0 : p.rule < 0 then p else _) = p
      rw [dif_pos hp]
    · by_cases h0 : p.rule < 0
      · rw [hf p h0]
        show (open Classical in if h0 : p.rule < 0 then p else _) = p
        rw [dif_pos h0]
      · have h1 : ¬ (f p).rule < 0 := by
          have := hpos p hp (by omega)
          omega
        have h2 : ∃ q, Occ cs q ∧ f q = f p := ⟨p, hp, rfl⟩
        simp only [dif_neg h1, dif_pos h2]
        obtain ⟨h3, h4⟩ := Classical.choose_spec h2
        exact hinj _ _ h3 hp h4
  obtain ⟨g, hg, hgf⟩ := hex
  refine alike_has hf hg (fun c hc => (h _).2 ⟨c, hc, rfl⟩) fun c' hc' => ?_
  obtain ⟨c, hc, rfl⟩ := (h c').1 hc'
  rw [Cn.map_back fun p hp => hgf p ⟨c, hc, hp⟩]
  exact hc
/-! Which places occur. -/
/-- A place that a rule may name: a column, or a variable of its own. -/
def PlOf (n : Int) (ts : List Tm) (p : Pl) : Prop := p.rule = -1 ∨ (p.rule = n ∧ p.col = 0 ∧ ∃ t ∈ ts, p.name = t.v ∧ ¬ (bl t.v).isEmpty = true ∧ bl t.v ≠ [95])
theorem PlOf.mono {n : Int} {ts us : List Tm} {p : Pl} (h : PlOf n ts p) (hs : ∀ t ∈ ts, t ∈ us) : PlOf n us p :=
  h.imp id fun ⟨h1, h2, t, ht, h3⟩ => ⟨h1, h2, t, hs t ht, h3⟩
def SrOf (n : Int) (ts : List Tm) (s : Sr) : Prop := ∀ p, s = .pl p → PlOf n ts p
theorem tmSr_of (n : Int) (t : Tm) : SrOf n [t] (tmSr n t) := by
  intro p hp
  unfold tmSr at hp
  split at hp
  · cases hp
  · rename_i h1
    split at hp
    · cases hp
    · rename_i h2
      injection hp with hp
      subst hp
      exact .inr ⟨rfl, rfl, t, by simp, rfl, h2, h1⟩
theorem saySr_of {n : Int} {ts : List Tm} {s : Sr} (h : SrOf n ts s) (t : Int) : ∀ c ∈ saySr s t, ∀ p ∈ c.pls, PlOf n ts p := by
  intro c hc p hp
  cases s with
  | any => simp [saySr] at hc
  | ty u =>
    simp only [saySr] at hc
    split at hc
    · simp at hc
    · rw [List.mem_singleton.1 hc] at hp
      simp [Cn.pls] at hp
  | pl q =>
    simp only [saySr, List.mem_singleton] at hc
    rw [hc] at hp
    simp only [Cn.pls, List.mem_singleton] at hp
    rw [hp]
    exact h q rfl
theorem joinSr_of {n : Int} {ts : List Tm} {s u : Sr} (h : SrOf n ts s) (k : SrOf n ts u) : ∀ c ∈ joinSr s u, ∀ p ∈ c.pls, PlOf n ts p := by
  intro c hc p hp
  cases s <;> cases u <;> simp only [joinSr] at hc <;> first
    | (simp at hc; done)
    | (split at hc
       · simp at hc
       · rw [List.mem_singleton.1 hc] at hp
         simp [Cn.pls] at hp)
    | (rw [List.mem_singleton.1 hc] at hp
       simp only [Cn.pls, List.mem_cons, List.not_mem_nil, or_false] at hp
       first
         | (rw [hp]; exact h _ rfl)
         | (rw [hp]; exact k _ rfl)
         | (rcases hp with hp | hp
            · rw [hp]; exact h _ rfl
            · rw [hp]; exact k _ rfl))
theorem SrOf.mono {n : Int} {ts us : List Tm} {s : Sr} (h : SrOf n ts s) (hs : ∀ t ∈ ts, t ∈ us) : SrOf n us s := fun p hp => (h p hp).mono hs
theorem exSr_of (n : Int) : ∀ (d : Nat) (e : Ex d), SrOf n (exTms d e) (exSr n d e)
  | 0, e => nomatch e
  | d + 1, e => by
    show SrOf n (e.2.1 :: _) (if e.1 = 0 then tmSr n e.2.1 else .ty (ownT e.1))
    split
    · exact (tmSr_of n _).mono (by simp)
    · exact fun p hp => nomatch hp
theorem exCn_of (n : Int) : ∀ (d : Nat) (e : Ex d), ∀ c ∈ exCn n d e, ∀ p ∈ c.pls, PlOf n (exTms d e) p
  | 0, e => nomatch e
  | d + 1, e => by
    intro c hc p hp
    change c ∈ (if e.1 = 0 then [] else e.2.2.2.flatMap fun k => exCn n d k ++ saySr (exSr n d k) (kidT e.1)) at hc
    split at hc
    · simp at hc
    · obtain ⟨k, hk, h1⟩ := List.mem_flatMap.1 hc
      have hsub : ∀ t ∈ exTms d k, t ∈ exTms (d + 1) e := fun t ht => List.mem_cons_of_mem _ (List.mem_flatMap.2 ⟨k, hk, ht⟩)
      rcases List.mem_append.1 h1 with h2 | h2
      · exact (exCn_of n d k c h2 p hp).mono hsub
      · exact (saySr_of (exSr_of n d k) _ c h2 p hp).mono hsub
theorem col_of (n : Int) (ts : List Tm) (p : ByteArray) (i : Int) : SrOf n ts (.pl ⟨-1, p, i⟩) := fun q hq => by
  injection hq with hq
  subst hq
  exact .inl rfl
theorem agCn_of (n : Int) (p : ByteArray) (i : Nat) (a : Ag) : ∀ c ∈ agCn n p i a, ∀ q ∈ c.pls, PlOf n [a.t] q := by
  intro c hc q hq
  unfold agCn at hc
  split at hc
  · rw [List.mem_singleton.1 hc] at hq
    simp only [Cn.pls, List.mem_singleton] at hq
    rw [hq]
    exact .inl rfl
  · split at hc
    · rcases List.mem_cons.1 hc with h | h
      · rw [h] at hq
        simp only [Cn.pls, List.mem_singleton] at hq
        rw [hq]
        exact .inl rfl
      · exact saySr_of (tmSr_of n _) _ c h q hq
    · exact joinSr_of (tmSr_of n _) (col_of _ _ _ _) c hc q hq
theorem ltCn_of (n : Int) {d : Nat} (x : Lt d) : ∀ c ∈ ltCn n x, ∀ q ∈ c.pls, PlOf n (ltTms x) q := by
  intro c hc q hq
  have s1 : ∀ t ∈ exTms d x.l, t ∈ ltTms x := fun t ht => List.mem_append_right _ (List.mem_append_left _ ht)
  have s2 : ∀ t ∈ exTms d x.g, t ∈ ltTms x := fun t ht => List.mem_append_right _ (List.mem_append_right _ ht)
  unfold ltCn at hc
  rcases List.mem_append.1 hc with h | h
  · split at h
    · rcases List.mem_append.1 h with h | h
      · exact (exCn_of n d _ c h q hq).mono s1
      · rcases List.mem_append.1 h with h | h
        · exact (exCn_of n d _ c h q hq).mono s2
        · exact joinSr_of ((exSr_of n d _).mono s1) ((exSr_of n d _).mono s2) c h q hq
    · simp at h
  · obtain ⟨k, hk, h1⟩ := mem_idxd.1 h
    exact (joinSr_of (tmSr_of n _) (col_of _ _ _ _) c h1 q hq).mono fun t ht => by
      rw [List.mem_singleton.1 ht]
      exact List.mem_append_left _ (List.getElem_mem hk)
theorem ruCn_of (n : Int) {d : Nat} (p : ByteArray) (hs : List Ag) (bs : List (Lt d)) : ∀ c ∈ ruCn n p hs bs, ∀ q ∈ c.pls, PlOf n (ruTms hs bs) q := by
  intro c hc q hq
  unfold ruCn at hc
  rcases List.mem_append.1 hc with h | h
  · obtain ⟨k, hk, h1⟩ := mem_idxd.1 h
    exact (agCn_of n p _ _ c h1 q hq).mono fun t ht => by
      rw [List.mem_singleton.1 ht]
      exact List.mem_append_left _ (List.mem_map.2 ⟨_, List.getElem_mem hk, rfl⟩)
  · obtain ⟨x, hx, h1⟩ := List.mem_flatMap.1 h
    exact (ltCn_of n x c h1 q hq).mono fun t ht => List.mem_append_right _ (List.mem_flatMap.2 ⟨x, hx, ht⟩)
end Go.Proofs.YtafjjececdhmjaaGreat

namespace Go.Proofs.YtafjjececdhmjaaGreat
open Go.RowKit

/-- An expression without the places of its lists. -/
def nfEx : (d : Nat) → Ex d → Ex d
  | 0, e => nomatch e
  | d + 1, e => (e.1, e.2.1, .slice none 0 0, e.2.2.2.map (nfEx d))
def nfLt {d : Nat} (x : Lt d) : Lt d := ⟨x.k, x.p, x.ts, .slice none 0 0, x.r, nfEx d x.l, nfEx d x.g⟩
theorem exOp_nf : ∀ (d : Nat) (e : Ex d), exOp d (nfEx d e) = exOp d e
  | 0, e => nomatch e
  | _ + 1, _ => rfl
theorem exTm_nf : ∀ (d : Nat) (e : Ex d), exTm d (nfEx d e) = exTm d e
  | 0, e => nomatch e
  | _ + 1, _ => rfl
theorem exLen_nf : ∀ (d : Nat) (e : Ex d), exLen d (nfEx d e) = exLen d e
  | 0, e => nomatch e
  | d + 1, (op, t, s, ks) => by show (ks.map (nfEx d)).length = ks.length; simp
theorem exSr_nf (n : Int) : ∀ (d : Nat) (e : Ex d), exSr n d (nfEx d e) = exSr n d e
  | 0, e => nomatch e
  | _ + 1, _ => rfl
theorem exCn_nf (n : Int) : ∀ (d : Nat) (e : Ex d), exCn n d (nfEx d e) = exCn n d e
  | 0, e => nomatch e
  | d + 1, (op, t, s, ks) => by
    show (if op = 0 then [] else (ks.map (nfEx d)).flatMap fun k => exCn n d k ++ saySr (exSr n d k) (kidT op)) = (if op = 0 then [] else ks.flatMap fun k => exCn n d k ++ saySr (exSr n d k) (kidT op))
    rw [List.flatMap_map]
    congr 2
    funext k
    rw [exCn_nf n d k, exSr_nf n d k]
theorem exTms_nf : ∀ (d : Nat) (e : Ex d), exTms d (nfEx d e) = exTms d e
  | 0, e => nomatch e
  | d + 1, (op, t, s, ks) => by
    show t :: (ks.map (nfEx d)).flatMap (exTms d) = t :: ks.flatMap (exTms d)
    rw [List.flatMap_map]
    congr 2
    funext k
    exact exTms_nf d k
theorem exOk_nf : ∀ (d n : Nat) (e : Ex d), exOk n d (nfEx d e) = exOk n d e
  | 0, _, e => nomatch e
  | _ + 1, 0, _ => rfl
  | d + 1, n + 1, (op, t, s, ks) => by
    show (if op = 0 then (ks.map (nfEx d)).isEmpty && solidB t else tmZero t && decide (((ks.map (nfEx d)).length : Int) = arityI op) && (ks.map (nfEx d)).all (exOk n d)) = (if op = 0 then ks.isEmpty && solidB t else tmZero t && decide ((ks.length : Int) = arityI op) && ks.all (exOk n d))
    have h1 : (ks.map (nfEx d)).isEmpty = ks.isEmpty := by cases ks <;> rfl
    have h2 : (ks.map (nfEx d)).all (exOk n d) = ks.all (exOk n d) := by
      rw [List.all_map]
      congr 1
      funext k
      exact exOk_nf d n k
    rw [h1, h2, List.length_map]
section
variable {d : Nat}
theorem ltCn_nf (n : Int) (x : Lt d) : ltCn n (nfLt x) = ltCn n x := by
  unfold ltCn nfLt
  simp only [exCn_nf, exSr_nf]
theorem ltTms_nf (x : Lt d) : ltTms (nfLt x) = ltTms x := by
  unfold ltTms nfLt
  simp only [exTms_nf]
theorem ltOk_nf (x : Lt d) : ltOk (nfLt x) = ltOk x := by
  unfold ltOk nfLt
  simp only [exOk_nf, exOp_nf, exTm_nf, exLen_nf]
theorem lpr_nf (x : Lt d) : lpr (nfLt x) = lpr x := rfl
theorem ruCn_nf (n : Int) (p : ByteArray) (hs : List Ag) (bs : List (Lt d)) : ruCn n p hs (bs.map nfLt) = ruCn n p hs bs := by
  unfold ruCn
  rw [List.flatMap_map]
  congr 2
  funext x
  exact ltCn_nf n x
theorem ruTms_nf (hs : List Ag) (bs : List (Lt d)) : ruTms hs (bs.map nfLt) = ruTms hs bs := by
  unfold ruTms
  rw [List.flatMap_map]
  congr 2
  funext x
  exact ltTms_nf x
theorem ruOk_nf (p : ByteArray) (hs : List Ag) (bs : List (Lt d)) : ruOk p hs (bs.map nfLt) = ruOk p hs bs := by
  unfold ruOk
  have h : (bs.map nfLt).all ltOk = bs.all ltOk := by
    rw [List.all_map]
    congr 1
    funext x
    exact ltOk_nf x
  rw [h, ruTms_nf, List.length_map]
theorem rpr_nf (p : ByteArray) (hs : List Ag) (bs : List (Lt d)) : rpr p hs (bs.map nfLt) = rpr p hs bs := by
  unfold rpr
  rw [List.flatMap_map]
  rfl
theorem lim_nf {bs : List (Lt d)} {v : List UInt8} (h : Lim bs v) : Lim (bs.map nfLt) v := by
  induction h with
  | pos hx h1 hv => exact .pos (List.mem_map.2 ⟨_, hx, rfl⟩) h1 hv
  | @left x hx h3 hr hl _ ih =>
    have key := @Lim.left d (bs.map nfLt) (nfLt x) (List.mem_map.2 ⟨_, hx, rfl⟩) h3 hr (by show ¬ (bl (loneB (exOp d (nfEx d x.l)) (exTm d (nfEx d x.l)).v (exLen d (nfEx d x.l)))).isEmpty = true; rw [exOp_nf, exTm_nf, exLen_nf]; exact hl) (by show ∀ v ∈ varsL (exTms d (nfEx d x.g)), _; rw [exTms_nf]; exact ih)
    change Lim _ (bl (loneB (exOp d (nfEx d x.l)) (exTm d (nfEx d x.l)).v (exLen d (nfEx d x.l)))) at key
    rw [exOp_nf, exTm_nf, exLen_nf] at key
    exact key
  | @right x hx h3 hr hl _ ih =>
    have key := @Lim.right d (bs.map nfLt) (nfLt x) (List.mem_map.2 ⟨_, hx, rfl⟩) h3 hr (by show ¬ (bl (loneB (exOp d (nfEx d x.g)) (exTm d (nfEx d x.g)).v (exLen d (nfEx d x.g)))).isEmpty = true; rw [exOp_nf, exTm_nf, exLen_nf]; exact hl) (by show ∀ v ∈ varsL (exTms d (nfEx d x.l)), _; rw [exTms_nf]; exact ih)
    change Lim _ (bl (loneB (exOp d (nfEx d x.g)) (exTm d (nfEx d x.g)).v (exLen d (nfEx d x.g)))) at key
    rw [exOp_nf, exTm_nf, exLen_nf] at key
    exact key
theorem lim_fn {bs : List (Lt d)} {v : List UInt8} (h : Lim (bs.map nfLt) v) : Lim bs v := by
  induction h with
  | pos hx h1 hv =>
    obtain ⟨y, hy, rfl⟩ := List.mem_map.1 hx
    exact .pos hy h1 hv
  | left hx h3 hr hl _ ih =>
    obtain ⟨y, hy, rfl⟩ := List.mem_map.1 hx
    change ¬ (bl (loneB (exOp d (nfEx d y.l)) (exTm d (nfEx d y.l)).v (exLen d (nfEx d y.l)))).isEmpty = true at hl
    change ∀ v ∈ varsL (exTms d (nfEx d y.g)), Lim bs v at ih
    show Lim bs (bl (loneB (exOp d (nfEx d y.l)) (exTm d (nfEx d y.l)).v (exLen d (nfEx d y.l))))
    rw [exOp_nf, exTm_nf, exLen_nf] at hl ⊢
    rw [exTms_nf] at ih
    exact .left hy h3 hr hl ih
  | right hx h3 hr hl _ ih =>
    obtain ⟨y, hy, rfl⟩ := List.mem_map.1 hx
    change ¬ (bl (loneB (exOp d (nfEx d y.g)) (exTm d (nfEx d y.g)).v (exLen d (nfEx d y.g)))).isEmpty = true at hl
    change ∀ v ∈ varsL (exTms d (nfEx d y.l)), Lim bs v at ih
    show Lim bs (bl (loneB (exOp d (nfEx d y.g)) (exTm d (nfEx d y.g)).v (exLen d (nfEx d y.g))))
    rw [exOp_nf, exTm_nf, exLen_nf] at hl ⊢
    rw [exTms_nf] at ih
    exact .right hy h3 hr hl ih
theorem safe_nf (hs : List Ag) (bs : List (Lt d)) : Safe hs (bs.map nfLt) ↔ Safe hs bs := by
  unfold Safe
  rw [ruTms_nf]
  exact ⟨fun h v hv => lim_fn (h v hv), fun h v hv => lim_nf (h v hv)⟩
end
end Go.Proofs.YtafjjececdhmjaaGreat

namespace Go.Proofs.YtafjjececdhmjaaGreat
open Go.RowKit

/-- A term that is a variable with a name. -/
def Real (t : Tm) : Prop := ¬ (bl t.v).isEmpty = true ∧ bl t.v ≠ [95]
/-- A renaming that may be, one-to-one on the variables of terms. -/
structure RnOk (ρ : ByteArray → ByteArray) (T : List Tm) : Prop where
  sound : SoundR ρ
  inj : ∀ t ∈ T, ∀ u ∈ T, Real t → Real u → ρ t.v = ρ u.v → t.v = u.v
def rnL (ρ : ByteArray → ByteArray) (l : List UInt8) : List UInt8 := bl (ρ ⟨l.toArray⟩)
theorem rnL_bl (ρ : ByteArray → ByteArray) (v : ByteArray) : rnL ρ (bl v) = bl (ρ v) := by unfold rnL; rw [mk_bl]
theorem rn_real {ρ : ByteArray → ByteArray} {t : Tm} (h : Real t) : (rnTm ρ t).v = ρ t.v := by
  show rnB ρ t.v = _
  unfold rnB
  rw [if_neg]
  rintro (h1 | h1)
  · exact h.1 h1
  · exact h.2 h1
theorem rn_unreal {ρ : ByteArray → ByteArray} {t : Tm} (h : ¬ Real t) : (rnTm ρ t).v = t.v := by
  show rnB ρ t.v = _
  unfold rnB
  rw [if_pos]
  unfold Real at h
  rw [not_and, Decidable.not_not] at h
  by_cases h1 : (bl t.v).isEmpty = true
  · exact .inl h1
  · exact .inr (h h1)
theorem newV_real {acc : List (List UInt8)} {t : Tm} (h : newV acc t = true) : Real t := by
  unfold newV at h
  simp only [Bool.and_eq_true, Bool.not_eq_true', beq_eq_false_iff_ne, ne_eq] at h
  exact ⟨by rw [h.1.1]; simp, h.1.2⟩
/-- Names that are of variables of terms. -/
def OfT (T : List Tm) (l : List (List UInt8)) : Prop := ∀ a ∈ l, ∃ t ∈ T, Real t ∧ a = bl t.v
section
variable {ρ : ByteArray → ByteArray} {T : List Tm}
theorem RnOk.back (h : RnOk ρ T) {a b : List UInt8} (ha : ∃ t ∈ T, Real t ∧ a = bl t.v) (hb : ∃ t ∈ T, Real t ∧ b = bl t.v) (e : rnL ρ a = rnL ρ b) : a = b := by
  obtain ⟨t, ht, rt, rfl⟩ := ha
  obtain ⟨u, hu, ru, rfl⟩ := hb
  rw [rnL_bl, rnL_bl] at e
  rw [h.inj t ht u hu rt ru (bl_inj e)]
theorem newV_rn (h : RnOk ρ T) {acc : List (List UInt8)} (ha : OfT T acc) {t : Tm} (ht : t ∈ T) : newV (acc.map (rnL ρ)) (rnTm ρ t) = newV acc t := by
  by_cases hr : Real t
  · unfold newV
    rw [rn_real hr]
    have hs := h.sound t.v hr.1 hr.2
    have e1 : (bl (ρ t.v)).isEmpty = (bl t.v).isEmpty := by
      rw [Bool.eq_false_iff.2 hs.1, Bool.eq_false_iff.2 hr.1]
    have e2 : (bl (ρ t.v) == [95]) = (bl t.v == [95]) := by
      rw [beq_eq_false_iff_ne.2 hs.2, beq_eq_false_iff_ne.2 hr.2]
    have e3 : (acc.map (rnL ρ)).contains (bl (ρ t.v)) = acc.contains (bl t.v) := by
      rw [Bool.eq_iff_iff, List.contains_iff_mem, List.contains_iff_mem, List.mem_map]
      constructor
      · rintro ⟨a, h1, h2⟩
        rw [← rnL_bl] at h2
        rw [← h.back (ha a h1) ⟨t, ht, hr, rfl⟩ h2]
        exact h1
      · intro h1
        exact ⟨_, h1, rnL_bl ρ t.v⟩
    rw [e1, e2, e3]
  · have h1 : ∀ acc, newV acc t = false := fun acc => by
      rw [Bool.eq_false_iff]
      exact fun h2 => hr (newV_real h2)
    rw [h1, Bool.eq_false_iff]
    intro h2
    have h3 := newV_real h2
    unfold Real at h3
    rw [rn_unreal hr] at h3
    exact hr h3
theorem fold_rn (h : RnOk ρ T) : ∀ (ts : List Tm) (acc : List (List UInt8)), (∀ t ∈ ts, t ∈ T) → OfT T acc → (ts.map (rnTm ρ)).foldl addV (acc.map (rnL ρ)) = (ts.foldl addV acc).map (rnL ρ) ∧ OfT T (ts.foldl addV acc)
  | [], acc, _, ha => ⟨rfl, ha⟩
  | t :: r, acc, hs, ha => by
    have e : addV (acc.map (rnL ρ)) (rnTm ρ t) = (addV acc t).map (rnL ρ) := by
      unfold addV
      rw [newV_rn h ha (hs t (by simp))]
      split
      · rename_i h1
        rw [rn_real (newV_real h1), List.map_append, ← rnL_bl]
        rfl
      · rfl
    have ha2 : OfT T (addV acc t) := by
      unfold addV
      split
      · rename_i h1
        intro a h2
        rcases List.mem_append.1 h2 with h3 | h3
        · exact ha a h3
        · exact ⟨t, hs t (by simp), newV_real h1, List.mem_singleton.1 h3⟩
      · exact ha
    rw [List.map_cons, List.foldl_cons, List.foldl_cons, e]
    exact fold_rn h r _ (fun u hu => hs u (List.mem_cons_of_mem _ hu)) ha2
theorem vars_rn (h : RnOk ρ T) {ts : List Tm} (hs : ∀ t ∈ ts, t ∈ T) : varsL (ts.map (rnTm ρ)) = (varsL ts).map (rnL ρ) := (fold_rn h ts [] hs (fun a ha => by simp at ha)).1
theorem vars_of (h : RnOk ρ T) {ts : List Tm} (hs : ∀ t ∈ ts, t ∈ T) : OfT T (varsL ts) := (fold_rn h ts [] hs (fun a ha => by simp at ha)).2
end
theorem exTms_rn (ρ : ByteArray → ByteArray) : ∀ (d : Nat) (e : Ex d), exTms d (rnEx ρ d e) = (exTms d e).map (rnTm ρ)
  | 0, e => nomatch e
  | d + 1, (op, t, s, ks) => by
    show rnTm ρ t :: (ks.map (rnEx ρ d)).flatMap (exTms d) = rnTm ρ t :: (ks.flatMap (exTms d)).map (rnTm ρ)
    rw [List.flatMap_map, List.map_flatMap]
    congr 2
    funext k
    exact exTms_rn ρ d k
theorem exOp_rn (ρ : ByteArray → ByteArray) : ∀ (d : Nat) (e : Ex d), exOp d (rnEx ρ d e) = exOp d e
  | 0, e => nomatch e
  | _ + 1, _ => rfl
theorem exTm_rn (ρ : ByteArray → ByteArray) : ∀ (d : Nat) (e : Ex d), exTm d (rnEx ρ d e) = rnTm ρ (exTm d e)
  | 0, e => nomatch e
  | _ + 1, _ => rfl
theorem exLen_rn (ρ : ByteArray → ByteArray) : ∀ (d : Nat) (e : Ex d), exLen d (rnEx ρ d e) = exLen d e
  | 0, e => nomatch e
  | d + 1, (op, t, s, ks) => by show (ks.map (rnEx ρ d)).length = ks.length; simp
/-- The variable that an expression is by itself, renamed. -/
theorem lone_rn {ρ : ByteArray → ByteArray} (hs : SoundR ρ) {d : Nat} (e : Ex d) : loneB (exOp d (rnEx ρ d e)) (exTm d (rnEx ρ d e)).v (exLen d (rnEx ρ d e)) = rnB ρ (loneB (exOp d e) (exTm d e).v (exLen d e)) := by
  rw [exOp_rn, exTm_rn, exLen_rn]
  have he : rnB ρ ⟨#[]⟩ = ⟨#[]⟩ := by unfold rnB; rw [if_pos (.inl rfl)]
  have hiff : bl (rnTm ρ (exTm d e)).v = [95] ↔ bl (exTm d e).v = [95] := by
    by_cases hr : Real (exTm d e)
    · rw [rn_real hr]
      have := hs _ hr.1 hr.2
      exact ⟨fun h => absurd h this.2, fun h => absurd h hr.2⟩
    · rw [rn_unreal hr]
  unfold loneB
  by_cases h : exOp d e ≠ 0 ∨ 0 < exLen d e ∨ bl (exTm d e).v = [95]
  · rw [if_pos h, if_pos (by rw [hiff]; exact h), he]
  · rw [if_neg h, if_neg (by rw [hiff]; exact h)]
    rfl
theorem rnB_real {ρ : ByteArray → ByteArray} {v : ByteArray} (h1 : ¬ (bl v).isEmpty = true) (h2 : bl v ≠ [95]) : rnB ρ v = ρ v := by
  unfold rnB
  rw [if_neg]
  rintro (h | h)
  · exact h1 h
  · exact h2 h
theorem lone_not {op : Int} {v : ByteArray} {n : Nat} (h : ¬ (bl (loneB op v n)).isEmpty = true) : bl (loneB op v n) ≠ [95] := by
  unfold loneB at h ⊢
  split at h
  · simp [bl] at h
  · rename_i hn
    rw [if_neg hn]
    exact fun e => hn (.inr (.inr e))
end Go.Proofs.YtafjjececdhmjaaGreat

namespace Go.Proofs.YtafjjececdhmjaaGreat
open Go.RowKit

section
variable {ρ : ByteArray → ByteArray} {T : List Tm} {d : Nat} {bs : List (Lt d)}
theorem sub_ts {x : Lt d} (hT : ∀ x ∈ bs, ∀ t ∈ ltTms x, t ∈ T) (hx : x ∈ bs) : ∀ t ∈ x.ts, t ∈ T := fun t ht => hT x hx t (List.mem_append_left _ ht)
theorem sub_l {x : Lt d} (hT : ∀ x ∈ bs, ∀ t ∈ ltTms x, t ∈ T) (hx : x ∈ bs) : ∀ t ∈ exTms d x.l, t ∈ T := fun t ht => hT x hx t (List.mem_append_right _ (List.mem_append_left _ ht))
theorem sub_g {x : Lt d} (hT : ∀ x ∈ bs, ∀ t ∈ ltTms x, t ∈ T) (hx : x ∈ bs) : ∀ t ∈ exTms d x.g, t ∈ T := fun t ht => hT x hx t (List.mem_append_right _ (List.mem_append_right _ ht))
theorem lone_bl (h : SoundR ρ) {e : Ex d} (hl : ¬ (bl (loneB (exOp d e) (exTm d e).v (exLen d e))).isEmpty = true) :
    bl (loneB (exOp d (rnEx ρ d e)) (exTm d (rnEx ρ d e)).v (exLen d (rnEx ρ d e))) = rnL ρ (bl (loneB (exOp d e) (exTm d e).v (exLen d e))) ∧ ¬ (bl (loneB (exOp d (rnEx ρ d e)) (exTm d (rnEx ρ d e)).v (exLen d (rnEx ρ d e)))).isEmpty = true := by
  rw [lone_rn h, rnB_real hl (lone_not hl), rnL_bl]
  exact ⟨rfl, (h _ hl (lone_not hl)).1⟩
theorem lone_bl' (h : SoundR ρ) {e : Ex d} (hl : ¬ (bl (loneB (exOp d (rnEx ρ d e)) (exTm d (rnEx ρ d e)).v (exLen d (rnEx ρ d e)))).isEmpty = true) : ¬ (bl (loneB (exOp d e) (exTm d e).v (exLen d e))).isEmpty = true := by
  intro he
  rw [lone_rn h] at hl
  unfold rnB at hl
  rw [if_pos (.inl he)] at hl
  exact hl he
theorem lim_rn (h : RnOk ρ T) (hT : ∀ x ∈ bs, ∀ t ∈ ltTms x, t ∈ T) {v : List UInt8} (hv : Lim bs v) : Lim (bs.map (rnLt ρ)) (rnL ρ v) := by
  induction hv with
  | @pos x v hx h1 hv =>
    refine .pos (x := rnLt ρ x) (List.mem_map.2 ⟨x, hx, rfl⟩) h1 ?_
    show rnL ρ v ∈ varsL (x.ts.map (rnTm ρ))
    rw [vars_rn h (sub_ts hT hx)]
    exact List.mem_map.2 ⟨v, hv, rfl⟩
  | @left x hx h3 hr hl _ ih =>
    obtain ⟨e1, e2⟩ := lone_bl h.sound hl
    rw [← e1]
    refine .left (x := rnLt ρ x) (List.mem_map.2 ⟨x, hx, rfl⟩) h3 hr e2 ?_
    show ∀ v ∈ varsL (exTms d (rnEx ρ d x.g)), _
    rw [exTms_rn, vars_rn h (sub_g hT hx)]
    intro u hu
    obtain ⟨v, hv, rfl⟩ := List.mem_map.1 hu
    exact ih v hv
  | @right x hx h3 hr hl _ ih =>
    obtain ⟨e1, e2⟩ := lone_bl h.sound hl
    rw [← e1]
    refine .right (x := rnLt ρ x) (List.mem_map.2 ⟨x, hx, rfl⟩) h3 hr e2 ?_
    show ∀ v ∈ varsL (exTms d (rnEx ρ d x.l)), _
    rw [exTms_rn, vars_rn h (sub_l hT hx)]
    intro u hu
    obtain ⟨v, hv, rfl⟩ := List.mem_map.1 hu
    exact ih v hv
theorem lim_nr (h : RnOk ρ T) (hT : ∀ x ∈ bs, ∀ t ∈ ltTms x, t ∈ T) {u : List UInt8} (hu : Lim (bs.map (rnLt ρ)) u) : ∃ v, u = rnL ρ v ∧ Lim bs v ∧ ∃ t ∈ T, Real t ∧ v = bl t.v := by
  induction hu with
  | @pos y u hy h1 hv =>
    obtain ⟨x, hx, rfl⟩ := List.mem_map.1 hy
    change u ∈ varsL (x.ts.map (rnTm ρ)) at hv
    rw [vars_rn h (sub_ts hT hx)] at hv
    obtain ⟨v, hv2, rfl⟩ := List.mem_map.1 hv
    exact ⟨v, rfl, .pos hx h1 hv2, vars_of h (sub_ts hT hx) v hv2⟩
  | @left y hy h3 hr hl _ ih =>
    obtain ⟨x, hx, rfl⟩ := List.mem_map.1 hy
    have hl' := lone_bl' h.sound hl
    have hof := vars_of h (sub_l hT hx) (bl (loneB (exOp d x.l) (exTm d x.l).v (exLen d x.l))) (by rw [lone_vars x.l hl']; exact List.mem_singleton.2 rfl)
    refine ⟨_, (lone_bl h.sound hl').1, .left hx h3 hr hl' fun v hv => ?_, hof⟩
    obtain ⟨v2, e, h2, o2⟩ := ih (rnL ρ v) (by
      show rnL ρ v ∈ varsL (exTms d (rnEx ρ d x.g))
      rw [exTms_rn, vars_rn h (sub_g hT hx)]
      exact List.mem_map.2 ⟨v, hv, rfl⟩)
    rw [h.back (vars_of h (sub_g hT hx) v hv) o2 e]
    exact h2
  | @right y hy h3 hr hl _ ih =>
    obtain ⟨x, hx, rfl⟩ := List.mem_map.1 hy
    have hl' := lone_bl' h.sound hl
    have hof := vars_of h (sub_g hT hx) (bl (loneB (exOp d x.g) (exTm d x.g).v (exLen d x.g))) (by rw [lone_vars x.g hl']; exact List.mem_singleton.2 rfl)
    refine ⟨_, (lone_bl h.sound hl').1, .right hx h3 hr hl' fun v hv => ?_, hof⟩
    obtain ⟨v2, e, h2, o2⟩ := ih (rnL ρ v) (by
      show rnL ρ v ∈ varsL (exTms d (rnEx ρ d x.l))
      rw [exTms_rn, vars_rn h (sub_l hT hx)]
      exact List.mem_map.2 ⟨v, hv, rfl⟩)
    rw [h.back (vars_of h (sub_l hT hx) v hv) o2 e]
    exact h2
theorem ruTms_rn (ρ : ByteArray → ByteArray) (hs : List Ag) (bs : List (Lt d)) : ruTms (hs.map (rnAg ρ)) (bs.map (rnLt ρ)) = (ruTms hs bs).map (rnTm ρ) := by
  unfold ruTms
  rw [List.map_append, List.map_map, List.map_map, List.flatMap_map, List.map_flatMap]
  congr 2
  funext x
  show x.ts.map (rnTm ρ) ++ (exTms d (rnEx ρ d x.l) ++ exTms d (rnEx ρ d x.g)) = (x.ts ++ (exTms d x.l ++ exTms d x.g)).map (rnTm ρ)
  rw [exTms_rn, exTms_rn, List.map_append, List.map_append]
/-- A renamed rule is safe just if the rule is. -/
theorem safe_rn {hs : List Ag} (h : RnOk ρ (ruTms hs bs)) : Safe (hs.map (rnAg ρ)) (bs.map (rnLt ρ)) ↔ Safe hs bs := by
  have hT : ∀ x ∈ bs, ∀ t ∈ ltTms x, t ∈ ruTms hs bs := fun x hx t ht => List.mem_append_right _ (List.mem_flatMap.2 ⟨x, hx, ht⟩)
  unfold Safe
  rw [ruTms_rn, vars_rn h (fun t ht => ht)]
  constructor
  · intro hs' v hv
    obtain ⟨v2, e, h2, o2⟩ := lim_nr h hT (hs' _ (List.mem_map.2 ⟨v, hv, rfl⟩))
    rw [h.back (vars_of h (fun t ht => ht) v hv) o2 e]
    exact h2
  · intro hs' u hu
    obtain ⟨v, hv, rfl⟩ := List.mem_map.1 hu
    exact lim_rn h hT (hs' v hv)
theorem rpr_rn (ρ : ByteArray → ByteArray) (p : ByteArray) (hs : List Ag) (bs : List (Lt d)) : rpr p (hs.map (rnAg ρ)) (bs.map (rnLt ρ)) = rpr p hs bs := by
  unfold rpr
  rw [List.length_map, List.flatMap_map]
  congr 2
  funext x
  show (if x.k = 3 then [] else [(bl x.p, (x.ts.map (rnTm ρ)).length)]) = (if x.k = 3 then [] else [(bl x.p, x.ts.length)])
  rw [List.length_map]
end
end Go.Proofs.YtafjjececdhmjaaGreat
