/- What the appends of apart keep. No program in sight. Conditions: none. -/
import Derived.Test.YtcigdlpljjkplaaDoorO5
namespace Go.Proofs.YtcigdlpljjkplaaDoor
open Go.RowKit

def m98 (k : Nat) : Tk := ⟨98, ⟨#[]⟩, k, 0⟩
def l99 (n : Nat → Nat) (k : Nat) : List Tk := List.replicate (n k) (m99 k)
def lfull (n : Nat → Nat) (k j : Nat) : List Tk := l99 n k ++ List.replicate j (m98 k)
theorem l99_len (n : Nat → Nat) (k : Nat) : (l99 n k).length = n k := by simp [l99]
theorem lfull_len (n : Nat → Nat) (k j : Nat) : (lfull n k j).length = n k + j := by simp [lfull, l99]
theorem lfull_zero (n : Nat → Nat) (k : Nat) : lfull n k 0 = l99 n k := by simp [lfull]
theorem lfull_snoc (n : Nat → Nat) (k j : Nat) : (lfull n k j).flatMap Tk.cells ++ (m98 k).cells = (lfull n k (j + 1)).flatMap Tk.cells := by
  unfold lfull
  rw [List.replicate_succ', ← List.append_assoc, List.flatMap_append]
  simp
theorem lfull_lo {n : Nat → Nat} {k j x : Nat} (h : x < n k) (h' : x < (lfull n k j).length) : (lfull n k j)[x] = m99 k := by
  unfold lfull at h' ⊢
  rw [List.getElem_append_left (by rw [l99_len]; exact h)]
  simp [l99]
theorem lfull_hi {n : Nat → Nat} {k j x : Nat} (h : n k ≤ x) (h' : x < (lfull n k j).length) : (lfull n k j)[x] = m98 k := by
  unfold lfull at h' ⊢
  rw [List.getElem_append_right (by rw [l99_len]; exact h)]
  simp
/-- The outer loop: rows ahead of i are grown, and gathered in vl. -/
structure Ph2 (B LB N0 : Nat) (v : Nat → Value) (n : Nat → Nat) (u : Nat → Value) (i : Nat) (vl : Value) (w : World) : Prop where
  sz : N0 ≤ w.heap.size
  bn : B ≤ N0
  lbo : LB < N0
  old : ∀ k, k < 4 → ∀ g, (v k).ownBlock = some g → g < N0
  apart : ∀ k m, k < 4 → m < 4 → k ≠ m → ∀ g, (v k).ownBlock = some g → (v m).ownBlock ≠ some g
  notLB : ∀ k, k < 4 → (v k).ownBlock ≠ some LB
  lists : ∀ k, k < 4 → w.cell? ⟨LB, k, none⟩ = some (v k)
  heads : ∀ k, k < 4 → ∀ g c, v k = .slice (some ⟨g, 0, none⟩) (n k) c → TksAt w (some ⟨g, 0, none⟩) (l99 n k)
  form : ∀ k, k < 4 → (v k = .slice none 0 0 ∧ n k = 0) ∨ ∃ g c, v k = .slice (some ⟨g, 0, none⟩) (n k) c
  own : ∀ k, i ≤ k → k < 4 → w.ownsRow B 36 4 (v k) (n k) ((l99 n k).flatMap Tk.cells)
  done : ∀ k, k < i → w.ownsRow B 36 4 (u k) (n k + 70) ((lfull n k 70).flatMap Tk.cells)
  place : ∀ k, k < i → ∀ g, (u k).ownBlock = some g → (v k).ownBlock = some g ∨ N0 ≤ g
  long : w.ownsRow N0 22 1 vl i ((List.range i).map u)
/-- The inner loop: row i is grown by j. -/
structure Ph2i (B : Nat) (W : World) (v : Nat → Value) (n : Nat → Nat) (i j : Nat) (t : Value) (w : World) : Prop where
  row : w.ownsRow B 36 4 t (n i + j) ((lfull n i j).flatMap Tk.cells)
  at_ : t.ownBlock = (v i).ownBlock ∨ ∀ g, t.ownBlock = some g → W.heap.size ≤ g
  head : ∀ g c, v i = .slice (some ⟨g, 0, none⟩) (n i) c → g < W.heap.size ∧ TksAt w (some ⟨g, 0, none⟩) (l99 n i)
  grown : W.grownBy w (v i).ownBlock
theorem grown_refl (w : World) (r : Option Nat) : w.grownBy w r := ⟨rfl, rfl, rfl, Nat.le_refl _, fun _ _ _ => rfl⟩
theorem grown_tr {a b c : World} {r : Option Nat} (h : a.grownBy b r) (k : b.grownBy c r) : a.grownBy c r :=
  ⟨k.os.trans h.os, k.tape.trans h.tape, k.output.trans h.output, Nat.le_trans h.size k.size, fun x hx hne => (k.block x (Nat.lt_of_lt_of_le hx h.size) hne).trans (h.block x hx hne)⟩
theorem Ph2i.start {B LB N0 i : Nat} {v u : Nat → Value} {n : Nat → Nat} {vl : Value} {w : World} (h : Ph2 B LB N0 v n u i vl w) (hi : i < 4) : Ph2i B w v n i 0 (v i) w :=
  ⟨by rw [lfull_zero]; exact h.own i (Nat.le_refl _) hi, .inl rfl, fun g c hv => ⟨Nat.lt_of_lt_of_le (h.old i hi g (by rw [hv]; rfl)) h.sz, h.heads i hi g c hv⟩, grown_refl _ _⟩
theorem Ph2i.alloc {B i j : Nat} {W w : World} {v : Nat → Value} {n : Nat → Nat} {t : Value} (h : Ph2i B W v n i j t w) (o : Obj) : Ph2i B W v n i j t (w.alloc o) :=
  ⟨h.row.alloc o, h.at_, fun p c hv => ⟨(h.head p c hv).1, (h.head p c hv).2.up (below_alloc _ _)⟩, grown_tr h.grown (World.grownBy_alloc _ _ _)⟩
theorem Ph2i.step {B i j : Nat} {W w w' : World} {v : Nat → Value} {n : Nat → Nat} {t t' : Value} (h : Ph2i B W v n i j t w)
    (h1 : w'.ownsRow B 36 4 t' (n i + j + 1) ((lfull n i j).flatMap Tk.cells ++ (m98 i).cells)) (h2 : w.grownBy w' t.ownBlock)
    (h3 : t'.ownBlock = t.ownBlock ∨ ((∀ g, t'.ownBlock = some g → w.heap.size ≤ g) ∧ ∀ k, k < w.heap.size → w'.heap[k]? = w.heap[k]?)) : Ph2i B W v n i (j + 1) t' w' := by
  rw [lfull_snoc] at h1
  refine ⟨h1, ?_, fun g c hv => ?_, ?_⟩
  · rcases h3 with h3 | ⟨h3, _⟩
    · rw [h3]; exact h.at_
    · exact .inr fun g hg => Nat.le_trans h.grown.size (h3 g hg)
  · obtain ⟨hgW, hh⟩ := h.head g c hv
    refine ⟨hgW, ?_⟩
    have hvb : (v i).ownBlock = some g := by rw [hv]; rfl
    rcases h3 with h3 | ⟨_, h4⟩
    · by_cases hb : t.ownBlock = (v i).ownBlock
      · rcases h1.2 with ⟨hn, h0⟩ | ⟨g2, cap, cur, hn, _⟩
        · omega
        · have hga : g2 = g := by
            have h5 : t'.ownBlock = some g2 := by rw [hn]; rfl
            rw [h3, hb, hvb] at h5
            simpa using h5.symm
          subst hga
          rw [hn] at h1
          have h9 := h1
          unfold lfull at h9
          exact own_head h9 (by simp [l99]; omega)
      · refine hh.frame h2.size fun a o hp ha => h2.block a ha fun he => ?_
        obtain ⟨rfl, rfl⟩ : g = a ∧ 0 = o := by simpa using hp
        rcases h.at_ with h5 | h5
        · exact hb h5
        · have := h5 g he.symm
          omega
    · exact hh.frame h2.size fun a o _ ha => h4 a ha
  · refine ⟨h2.os.trans h.grown.os, h2.tape.trans h.grown.tape, h2.output.trans h.grown.output, Nat.le_trans h.grown.size h2.size, fun b hb hne => ?_⟩
    refine (h2.block b (Nat.lt_of_lt_of_le hb h.grown.size) fun he => ?_).trans (h.grown.block b hb hne)
    rcases h.at_ with h5 | h5
    · exact hne (he.trans h5)
    · have := h5 b he.symm
      omega
/-- The list of the grown rows stays. -/
theorem Ph2.long_at {B LB N0 i : Nat} {v u : Nat → Value} {n : Nat → Nat} {vl : Value} {w w' : World} (h : Ph2 B LB N0 v n u i vl w) (hi : i < 4) (hg : w.grownBy w' (v i).ownBlock) :
    w'.ownsRow N0 22 1 vl i ((List.range i).map u) := by
  refine h.long.kept hg ?_
  rcases hb : vl.ownBlock with _ | b
  · exact .inl rfl
  · refine .inr fun he => ?_
    have h1 := ownT_lt h.long hb
    have h2 := h.old i hi b he.symm
    omega
/-- A block of rows of one type is none of another type's. -/
theorem own_types {w : World} {B B' n n' m m' : Nat} {e e' : TypeId} {v v' : Value} {xs xs' : List Value} (h : w.ownsRow B e m v n xs) (h' : w.ownsRow B' e' m' v' n' xs') (he : e ≠ e') {g : Nat} (hg : v.ownBlock = some g) : v'.ownBlock ≠ some g := by
  intro hg'
  rcases h.2 with ⟨rfl, _⟩ | ⟨g1, c1, cur1, rfl, _, hh1, _⟩
  · cases hg
  · rcases h'.2 with ⟨rfl, _⟩ | ⟨g2, c2, cur2, rfl, _, hh2, _⟩
    · cases hg'
    · obtain rfl : g1 = g := by simpa [Value.ownBlock] using hg
      obtain rfl : g2 = g1 := by simpa [Value.ownBlock] using hg'
      rw [hh1] at hh2
      simp only [Option.some.injEq, Obj.cells.injEq] at hh2
      exact he hh2.2.1
theorem Ph2.next {B LB N0 i : Nat} {v u : Nat → Value} {n : Nat → Nat} {vl vl' t : Value} {W w w' : World} (h : Ph2 B LB N0 v n u i vl W) (hi4 : i < 4) (hi : Ph2i B W v n i 70 t w)
    (hl : w'.ownsRow N0 22 1 vl' (i + 1) ((List.range i).map u ++ [t])) (hg : w.grownBy w' vl.ownBlock) :
    Ph2 B LB N0 v n (fun k => if k = i then t else u k) (i + 1) vl' w' := by
  have hlw := h.long_at hi4 hi.grown
  have hsz := Nat.le_trans h.sz hi.grown.size
  have hvl : ∀ k, k < 4 → ∀ g, (v k).ownBlock = some g → some g ≠ vl.ownBlock := fun k hk g hb he => by
    have h1 := ownT_lt hlw he.symm
    have h2 := h.old k hk g hb
    omega
  refine ⟨Nat.le_trans hsz hg.size, h.bn, h.lbo, h.old, h.apart, h.notLB, fun k hk => ?_, fun k hk g c hv => ?_, h.form, fun k hik hk => ?_, fun k hk => ?_, fun k hk g hb => ?_, ?_⟩
  · rw [← h.lists k hk]
    refine (World.cell?_of_block (a := ⟨LB, k, none⟩) (hg.block LB (Nat.lt_of_lt_of_le h.lbo hsz) fun he => ?_)).trans (World.cell?_of_block (a := ⟨LB, k, none⟩) (hi.grown.block LB (Nat.lt_of_lt_of_le h.lbo h.sz) fun he => ?_))
    · have := ownT_lt hlw he.symm
      have := h.lbo
      omega
    · exact h.notLB i hi4 he.symm
  · have hvb : (v k).ownBlock = some g := by rw [hv]; rfl
    have h1 : TksAt w (some ⟨g, 0, none⟩) (l99 n k) := by
      by_cases hki : k = i
      · subst hki
        exact (hi.head g c hv).2
      · refine (h.heads k hk g c hv).frame hi.grown.size fun a o hp ha => hi.grown.block a ha fun he => ?_
        obtain ⟨rfl, rfl⟩ : g = a ∧ 0 = o := by simpa using hp
        exact h.apart k i hk hi4 hki g hvb he.symm
    refine h1.frame hg.size fun a o hp ha => hg.block a ha ?_
    obtain ⟨rfl, rfl⟩ : g = a ∧ 0 = o := by simpa using hp
    exact hvl k hk g hvb
  · have h1 := h.own k (by omega) hk
    refine own_frame h1 fun g hb => ?_
    have hgn := h.old k hk g hb
    exact (hg.block g (Nat.lt_of_lt_of_le hgn hsz) (hvl k hk g hb)).trans (hi.grown.block g (Nat.lt_of_lt_of_le hgn h.sz) fun he => h.apart k i hk hi4 (by omega) g hb he.symm)
  · by_cases hki : k = i
    · subst hki
      rw [if_pos rfl]
      refine own_frame hi.row fun g hb => hg.block g (hi.row.lt g hb).2 fun he => ?_
      exact own_types hi.row hlw (by decide) hb he.symm
    · rw [if_neg hki]
      have hk2 : k < i := by omega
      have h1 := h.done k hk2
      have h2 : w.ownsRow B 36 4 (u k) (n k + 70) ((lfull n k 70).flatMap Tk.cells) := by
        refine own_frame h1 fun g hb => hi.grown.block g (h1.lt g hb).2 fun he => ?_
        rcases h.place k hk2 g hb with h3 | h3
        · exact h.apart k i (by omega) hi4 hki g h3 he.symm
        · have := h.old i hi4 g he.symm
          omega
      refine own_frame h2 fun g hb => hg.block g (h2.lt g hb).2 fun he => ?_
      exact own_types h2 hlw (by decide) hb he.symm
  · by_cases hki : k = i
    · subst hki
      rw [if_pos rfl] at hb
      rcases hi.at_ with h1 | h1
      · exact .inl (by rw [← h1]; exact hb)
      · exact .inr (Nat.le_trans h.sz (h1 g hb))
    · rw [if_neg hki] at hb
      exact h.place k (by omega) g hb
  · have he : (List.range (i + 1)).map (fun k => if k = i then t else u k) = (List.range i).map u ++ [t] := by
      rw [List.range_succ, List.map_append]
      congr 1
      · refine List.map_congr_left fun k hk => ?_
        have : k < i := List.mem_range.1 hk
        rw [if_neg (by omega)]
      · simp
    rw [he]
    exact hl
/-- What phase 1 leaves. -/
theorem Ph2.start {w : World} {B LB : Nat} {v : Nat → Value} {l : Nat → List Tk} (h : Rows4 w B LB v (mkd l 4 0)) (hB : B ≤ w.heap.size) (u : Nat → Value) (n : Nat → Nat) (hn : ∀ k, (l k).length = n k) :
    Ph2 B LB w.heap.size v n u 0 (.slice none 0 0) w := by
  have hown : ∀ k, k < 4 → w.ownsRow B 36 4 (v k) (n k) ((l99 n k).flatMap Tk.cells) := fun k hk => by
    have h1 := h.own k hk
    rw [mkd_end l k hk, List.length_replicate, hn k] at h1
    exact h1
  refine ⟨Nat.le_refl _, hB, h.lb, fun k hk g hg => ((hown k hk).lt g hg).2, h.apart, h.notLB, h.lists, fun k hk g c hv => ?_, fun k hk => ?_, fun k _ hk => hown k hk, fun k hk => absurd hk (by omega), fun k hk => absurd hk (by omega), World.ownsRow_nil _ _ _ _⟩
  · have h1 := hown k hk
    rw [hv] at h1
    exact own_head (m := []) (by rw [List.append_nil]; exact h1) (by rw [List.append_nil, l99_len])
  · rcases (hown k hk).2 with ⟨hn, h0⟩ | ⟨g, cap, cur, hn, _⟩
    · exact .inl ⟨hn, h0⟩
    · exact .inr ⟨g, cap, hn⟩
/-- What phase 2 leaves, at one row. -/
theorem Ph2.fin {B LB N0 : Nat} {v u : Nat → Value} {n : Nat → Nat} {vl : Value} {w : World} (h : Ph2 B LB N0 v n u 4 vl w) :
    ∃ gl cl, vl = .slice (some ⟨gl, 0, none⟩) 4 cl ∧ gl < w.heap.size ∧ ∀ i, i < 4 → ∃ g c, w.cell? ⟨gl, i, none⟩ = some (.slice (some ⟨g, 0, none⟩) (n i + 70) c) ∧ g < w.heap.size ∧ n i + 70 ≤ c ∧ c ≤ maxLen ∧
      ∀ x, x < n i + 70 → TkCell w g (x * 4) (if x < n i then m99 i else m98 i) := by
  obtain ⟨gl, cl, cur, hv, _, hg, _, _, _, htk⟩ := ownT_at h.long (by omega)
  refine ⟨gl, cl, hv, (Array.getElem?_eq_some_iff.1 hg).1, fun i hi => ?_⟩
  obtain ⟨g, c, cu, hv2, _, hg2, hnc, hcm, _, htk2⟩ := ownT_at (h.done i hi) (by omega)
  refine ⟨g, c, ?_, (Array.getElem?_eq_some_iff.1 hg2).1, hnc, hcm, fun x hx => ?_⟩
  · rw [Lib.cell_of_heap hg, ← hv2]
    have h1 := congrArg (·[i]?) htk
    simp only [List.getElem?_take, List.getElem?_map] at h1
    rw [if_pos (by omega), List.getElem?_range hi] at h1
    simpa using h1
  · have h2 := cells_take hg2 htk2 (lfull_len n i 70) x (by rw [lfull_len]; exact hx)
    by_cases hxn : x < n i
    · rw [lfull_lo hxn] at h2
      rw [if_pos hxn]
      exact h2
    · rw [lfull_hi (by omega)] at h2
      rw [if_neg hxn]
      exact h2
end Go.Proofs.YtcigdlpljjkplaaDoor
