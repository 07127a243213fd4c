/- Do values fit columns' types: the contract of fits. Facts that fit the types that are inferred, put into a positive literal: each bind fits what the rule says. No program in sight. The reference's AtomVars; == of values; what a list of variables holds; the rounds of Match. Conditions: the values and the types lie in memory as they are told. none. as told. -/
import Derived.Test.YtafjjececdhmjaaGreatNKb
import Derived.Test.YtafjjececdhmjaaGreatNKt
import Derived.Deep.RegionHeld3
import Derived.BigQuiet
import Derived.Test.YtafjjececdhmjaaGreatNKw
import Derived.Test.YtafjjececdhmjaaGreatNKr
import Derived.Test.YtafjjececdhmjaaGreatNKv
import Derived.Test.YtafjjececdhmjaaGreatNR16
import Derived.Test.YtafjjececdhmjaaGreatNKo
import Derived.Laws.StructEq
namespace Go.Proofs.YtafjjececdhmjaaGreat
open Go.RowKit

/-- Types in a row of memory. -/
def TysAt (w : World) (q : Option Addr) (cs : List Int) : Prop := cs.length = 0 ∨ ∃ a o, q = some ⟨a, o, none⟩ ∧ a < w.heap.size ∧ ∀ i, (h : i < cs.length) → w.cell? ⟨a, o + i, none⟩ = some (.int .i8 cs[i])
theorem TysAt.up {w w' : World} {q : Option Addr} {cs : List Int} (h : TysAt w q cs) (hb : Below w.heap.size w w') : TysAt w' q cs :=
  h.imp id fun ⟨a, o, hp, ha, hc⟩ => ⟨a, o, hp, Nat.lt_of_lt_of_le ha hb.size, fun i hi => (hb.cell (p := ⟨a, o + i, none⟩) ha).trans (hc i hi)⟩
/-- Values that fit. -/
def FitV (vs : List Vl) (cs : List Int) : Prop := vs.length = cs.length ∧ ∀ i, (h : i < vs.length) → (h' : i < cs.length) → cs[i] = 0 ∨ cs[i] = kdT vs[i].k
set_option maxHeartbeats 8000000 in
set_option maxRecDepth 100000 in
theorem tFits1 (vs : List Vl) (cs : List Int) (sv : Value) (q : Option Addr) (c2 : Nat) (w : World) (hv : VlSl w sv vs) (hq : TysAt w q cs) (hn : vs.length ≤ 4398046511104) :
    Calls Tryz.prog 31 #[sv, .slice q cs.length c2] w fun e w' => ∃ b : Bool, e = .returned (.bool b) ∧ (b = true → FitV vs cs) ∧ Below w.heap.size w w' := by
  obtain ⟨p, c, rfl, _, hva⟩ := hv
  have HV := Lib.hid hva; clear hva
  have HQ := Lib.hid hq; clear hq
  by_cases hl : vs.length = cs.length
  · have HLE := Lib.hid hl
    rw [← hl]
    have hl' : ((vs.length : Int) == (vs.length : Int)) = true := by simp
    clear hl
    go_enter Tryz.func31, Tryz.ntmps31
    go_wp2_with fail
    go_loopw [5, 6, 14] (fun _ _ i wr => ∃ j : Nat, j ≤ vs.length ∧ i = .int .i64 j ∧ (∀ m, (h : m < vs.length) → (h' : m < cs.length) → m < j → cs[m] = 0 ∨ cs[m] = kdT vs[m].k) ∧ Below w.heap.size w wr) (fun _ _ i _ => vs.length - (intOf i).toNat)
    case atStart => exact ⟨0, by omega, rfl, fun m _ _ h => by omega, Below.refl _ _⟩
    case round =>
      obtain ⟨j, hj, rfl, hal, hb⟩ := hrel
      have HAL := Lib.hid hal; clear hal
      have Hb := Lib.hid hb; clear hb
      rename World => wr
      by_cases hlt : j < vs.length
      · have hlt2 : j < cs.length := by rw [← HLE.out]; exact hlt
        rcases HV.out with hx | ⟨a, o, rfl, hva⟩
        · omega
        rcases HQ.out with hx | ⟨a2, o2, rfl, ha2, hqa⟩
        · omega
        have hck := (hva.at_ j hlt).up Hb.out hva.lt
        have k9 := (Hb.out.cell (p := ⟨a2, o2 + j, none⟩) ha2).trans (hqa j hlt2)
        have ha1 := hva.lt
        clear hva hqa
        have HNX := Lib.hid (show (cs[j] = 0 ∨ cs[j] = kdT vs[j].k) → ∀ m, (h : m < vs.length) → (h' : m < cs.length) → m < j + 1 → cs[m] = 0 ∨ cs[m] = kdT vs[m].k from fun h0 m h1 h2 h3 => by
          by_cases e : m = j
          · subst e; exact h0
          · exact HAL.out m h1 h2 (by omega))
        obtain ⟨T, hT⟩ : ∃ T, T = cs[j] := ⟨_, rfl⟩
        obtain ⟨y, hy⟩ : ∃ y, y = vs[j] := ⟨_, rfl⟩
        rw [← hT] at k9 HNX
        rw [← hy] at hck HNX
        clear hT hy
        obtain ⟨yk, yn, yt⟩ := y
        obtain ⟨k0, k1, k2⟩ := hck
        simp only at k0 k1 k2 HNX
        have hk0 : (0 : Int) ≤ (j : Int) := by omega
        have hki : (j : Int) < (vs.length : Int) := by omega
        obtain ⟨U, hU⟩ : ∃ U, U = wr.alloc (.cells #[.int .i8 yk, .int .i64 yn, .string yt] 91) := ⟨_, rfl⟩
        have HBU := Lib.hid (show Below wr.heap.size wr U by rw [hU]; exact below_alloc _ _)
        have HCU := Lib.hid (show U.heap[wr.heap.size]? = some (.cells #[.int .i8 yk, .int .i64 yn, .string yt] 91 (0, 0)) by rw [hU]; exact heap_alloc_new wr _)
        have hbu : wr.heap.size < U.heap.size := (Array.getElem?_eq_some_iff.1 HCU.out).1
        have ha3 : a2 < wr.heap.size := Nat.lt_of_lt_of_le ha2 Hb.out.size
        have HK := Lib.hid (show ∀ w', Below U.heap.size U w' → w'.cell? ⟨a2, o2 + j, none⟩ = some (.int .i8 T) ∧ w'.cell? ⟨wr.heap.size, 0, none⟩ = some (.int .i8 yk) ∧ w'.cell? ⟨wr.heap.size, 1, none⟩ = some (.int .i64 yn) ∧ w'.cell? ⟨wr.heap.size, 2, none⟩ = some (.string yt) from fun w' h => by
          have h1 := (h.block wr.heap.size hbu).trans HCU.out
          exact ⟨(h.cell (p := ⟨a2, o2 + j, none⟩) (by show a2 < U.heap.size; omega)).trans ((HBU.out.cell (p := ⟨a2, o2 + j, none⟩) ha3).trans k9), by rw [Lib.cell_of_heap h1]; rfl, by rw [Lib.cell_of_heap h1]; rfl, by rw [Lib.cell_of_heap h1]; rfl⟩)
        go_wp2_with fail
        rw [← hU]
        clear hU k0 k1 k2 k9
        have Hc := Lib.hid ((Below.refl U.heap.size U).drew)
        have HKD := Lib.hid (fun V' => tKind yk yn yt V')
        obtain ⟨KD, hKD⟩ : ∃ K, K = kdT yk := ⟨_, rfl⟩
        rw [← hKD] at HKD HNX
        clear hKD
        have HBW := Lib.hid (Hb.out.trans (HBU.out.mono Hb.out.size))
        have hsw := HBW.out.size
        by_cases hT0 : T = 0
        · subst hT0
          obtain ⟨k9, k0, k1, k2⟩ := HK.out U (Below.refl _ _)
          go_quiet (fail)
          go_wp2_with fail
          go_roundw
          case rel => exact ⟨j + 1, by omega, by go_num, HNX.out (.inl rfl), below_drewN HBW.out _⟩
          case measure => simp [intOf]; omega
        · have qT : (T != 0) = true := by simpa using hT0
          by_cases hTK : T = KD
          · have HN2 := Lib.hid (HNX.out (.inr hTK))
            subst hTK
            go_region_held3 (fun w' => w'.cell? ⟨a2, o2 + j, none⟩ = some (.int .i8 T) ∧ w'.cell? ⟨wr.heap.size, 0, none⟩ = some (.int .i8 yk) ∧ w'.cell? ⟨wr.heap.size, 1, none⟩ = some (.int .i64 yn) ∧ w'.cell? ⟨wr.heap.size, 2, none⟩ = some (.string yt))
              (first
                | (refine HK.out _ ?_
                   with_reducible exact Hc.out))
              (first
                | (go_at_call 59
                   refine (HKD.out _).mono ?_
                   rintro r w3 ⟨rfl, hb1⟩
                   have Hc := Lib.hid (show Below U.heap.size U w3 from ⟨hb1.os, hb1.tape, hb1.output, hb1.size, hb1.block⟩)
                   clear hb1))
            all_goals
              go_wp2_with fail
              go_roundw
              case rel => exact ⟨j + 1, by omega, by go_num, HN2.out, HBW.out.trans (Hc.out.mono hsw)⟩
              case measure => simp [intOf]; omega
          · have qK : (T != KD) = true := by simpa using hTK
            go_region_held3 (fun w' => w'.cell? ⟨a2, o2 + j, none⟩ = some (.int .i8 T) ∧ w'.cell? ⟨wr.heap.size, 0, none⟩ = some (.int .i8 yk) ∧ w'.cell? ⟨wr.heap.size, 1, none⟩ = some (.int .i64 yn) ∧ w'.cell? ⟨wr.heap.size, 2, none⟩ = some (.string yt))
              (first
                | (refine HK.out _ ?_
                   with_reducible exact Hc.out))
              (first
                | (go_at_call 59
                   refine (HKD.out _).mono ?_
                   rintro r w3 ⟨rfl, hb1⟩
                   have Hc := Lib.hid (show Below U.heap.size U w3 from ⟨hb1.os, hb1.tape, hb1.output, hb1.size, hb1.block⟩)
                   clear hb1))
            all_goals
              go_wp2_with fail
              go_ret
              exact ⟨false, rfl, (fun h => nomatch h), HBW.out.trans (Hc.out.mono hsw)⟩
      · obtain rfl : j = vs.length := by omega
        go_wp2_with fail
        go_ret
        exact ⟨true, rfl, (fun _ => ⟨HLE.out, fun i h h' => HAL.out i h h' h⟩), Hb.out⟩
  · have hl2 : ((vs.length : Int) == (cs.length : Int)) = false := by
      rw [beq_eq_false_iff_ne]
      omega
    have hl3 : ¬ (vs.length : Int) = (cs.length : Int) := by omega
    go_enter Tryz.func31, Tryz.ntmps31
    go_wp2_with fail
    go_ret
    exact ⟨false, rfl, (fun h => nomatch h), Below.refl _ _⟩
end Go.Proofs.YtafjjececdhmjaaGreat

namespace Go.Proofs.YtafjjececdhmjaaGreat
open Go.RowKit

theorem has_12 {cs : List Cn} (hs : ∀ p t, Cn.say p t ∈ cs → t = 1 ∨ t = 2) {T : Int} {p : Pl} (h : Has cs T p) : T = 1 ∨ T = 2 := by
  induction h with
  | say h => exact hs _ _ h
  | left _ _ ih => exact ih
  | right _ _ ih => exact ih
theorem kidT_12 (op : Int) : kidT op = 1 ∨ kidT op = 2 := by unfold kidT; split <;> simp
theorem ownT_12 (op : Int) : ownT op = 1 ∨ ownT op = 2 := by unfold ownT; split <;> simp
/-- A source that is a type is a number's or a text's. -/
def S12 (s : Sr) : Prop := ∀ u, s = .ty u → u = 1 ∨ u = 2
theorem tmSr_12 (n : Int) (t : Tm) : S12 (tmSr n t) := by
  intro u h
  unfold tmSr at h
  split at h
  · cases h
  · split at h
    · injection h with h
      rw [← h]
      split <;> simp
    · cases h
theorem exSr_12 (n : Int) : ∀ (d : Nat) (e : Ex d), S12 (exSr n d e)
  | 0, e => nomatch e
  | d + 1, (op, t, s, ks) => by
    intro u h
    change (if op = 0 then tmSr n t else .ty (ownT op)) = .ty u at h
    split at h
    · exact tmSr_12 n t u h
    · injection h with h
      rw [← h]
      exact ownT_12 op
theorem saySr_12 {s : Sr} {t : Int} (ht : t = 1 ∨ t = 2) : ∀ p u, Cn.say p u ∈ saySr s t → u = 1 ∨ u = 2 := by
  intro p u h
  cases s with
  | any => simp [saySr] at h
  | ty a =>
    change Cn.say p u ∈ (if a = t then [] else [Cn.bad]) at h
    split at h <;> simp at h
  | pl q =>
    simp [saySr] at h
    rw [h.2]
    exact ht
theorem joinSr_12 {s u : Sr} (hs : S12 s) (hu : S12 u) : ∀ p t, Cn.say p t ∈ joinSr s u → t = 1 ∨ t = 2 := by
  intro p t h
  cases s with
  | any => simp [joinSr] at h
  | ty a =>
    cases u with
    | any => simp [joinSr] at h
    | ty b =>
      change Cn.say p t ∈ (if a = b then [] else [Cn.bad]) at h
      split at h <;> simp at h
    | pl q =>
      simp [joinSr] at h
      rw [h.2]
      exact hs a rfl
  | pl q =>
    cases u with
    | any => simp [joinSr] at h
    | ty b =>
      simp [joinSr] at h
      rw [h.2]
      exact hu b rfl
    | pl r => simp [joinSr] at h
theorem exCn_12 (n : Int) : ∀ (d : Nat) (e : Ex d) (p : Pl) (t : Int), Cn.say p t ∈ exCn n d e → t = 1 ∨ t = 2
  | 0, e, _, _, _ => nomatch e
  | d + 1, (op, tm, s, ks), p, t, h => by
    change Cn.say p t ∈ (if op = 0 then [] else ks.flatMap fun k => exCn n d k ++ saySr (exSr n d k) (kidT op)) at h
    split at h
    · simp at h
    · obtain ⟨k, _, h1⟩ := List.mem_flatMap.1 h
      rcases List.mem_append.1 h1 with h2 | h2
      · exact exCn_12 n d k p t h2
      · exact saySr_12 (kidT_12 op) p t h2
theorem pl_12 (q : Pl) : S12 (.pl q) := fun _ h => by cases h
theorem ltCn_12 (n : Int) {d : Nat} (x : Lt d) : ∀ p t, Cn.say p t ∈ ltCn n x → t = 1 ∨ t = 2 := by
  intro p t h
  unfold ltCn at h
  rcases List.mem_append.1 h with h1 | h1
  · split at h1
    · rcases List.mem_append.1 h1 with h2 | h2
      · exact exCn_12 n d _ p t h2
      · rcases List.mem_append.1 h2 with h3 | h3
        · exact exCn_12 n d _ p t h3
        · exact joinSr_12 (exSr_12 n d _) (exSr_12 n d _) p t h3
    · simp at h1
  · obtain ⟨k, hk, h2⟩ := mem_idxd.1 h1
    exact joinSr_12 (tmSr_12 n _) (pl_12 _) p t h2
theorem ruCn_12 (n : Int) {d : Nat} (p0 : ByteArray) (hs : List Ag) (bs : List (Lt d)) : ∀ p t, Cn.say p t ∈ ruCn n p0 hs bs → t = 1 ∨ t = 2 := by
  intro p t h
  unfold ruCn at h
  rcases List.mem_append.1 h with h1 | h1
  · obtain ⟨k, hk, h2⟩ := mem_idxd.1 h1
    unfold agCn at h2
    split at h2
    · simp at h2
      exact .inl h2.2
    · split at h2
      · rcases List.mem_cons.1 h2 with h3 | h3
        · injection h3 with _ h4
          exact .inl h4
        · exact saySr_12 (.inl rfl) p t h3
      · exact joinSr_12 (tmSr_12 n _) (pl_12 _) p t h2
  · obtain ⟨y, _, h2⟩ := List.mem_flatMap.1 h1
    exact ltCn_12 n y p t h2
theorem proCn_12 {d : Nat} (xs : List (Ru d)) : ∀ p t, Cn.say p t ∈ proCn xs → t = 1 ∨ t = 2 := by
  intro p t h
  obtain ⟨k, hk, h2⟩ := mem_idxd.1 h
  exact ruCn_12 _ _ _ _ p t h2
/-- What a rule says the program says. -/
theorem ltCn_pro {d : Nat} {xs : List (Ru d)} {n : Nat} (hn : n < xs.length) {y : Lt d} (hy : y ∈ xs[n].bs) : ∀ c ∈ ltCn n y, c ∈ proCn xs := fun c hc =>
  mem_idxd.2 ⟨n, hn, by
    show c ∈ ruCn ((0 + n : Nat) : Int) xs[n].p xs[n].hs xs[n].bs
    rw [Nat.zero_add]
    unfold ruCn
    exact List.mem_append_right _ (List.mem_flatMap.2 ⟨y, hy, hc⟩)⟩
/-- Facts that fit. -/
def FitF (fs : List Fc) (dd : List Sg) : Prop := ∀ f ∈ fs, (∀ v ∈ f.xs, vlOk v = true) ∧ ∀ s ∈ dd, s.name = f.p → FitV f.xs s.cols
theorem sgm_real {l : List Tm} {t : Tm} (h : Real (sgm l t)) : sgm l t = t := by
  unfold sgm at h ⊢
  split
  · rfl
  · rename_i hn
    rw [if_neg hn] at h
    split
    · rename_i x hb
      rw [hb] at h
      exact absurd rfl (show ¬ (bl (⟨#[]⟩ : ByteArray)).isEmpty = true from h.1)
    · rfl
/-- **A bind that comes of a fact that fits.** -/
theorem bok_of {d : Nat} {xs : List (Ru d)} {dd : List Sg} {fs : List Fc} (hi : InfD xs 0 dd) (hf : FitF fs dd) {n : Nat} (hn : n < xs.length) {y : Lt d} (hy : y ∈ xs[n].bs) (h1 : y.k = 1) {f : Fc} (hm : f ∈ fs) (hp : y.p = f.p) {l : List Tm} {b : Tm}
    (hlen : y.ts.length = f.xs.length) (hb : ∃ k, ∃ h : k < (y.ts.map (sgm l)).length, ∃ h' : k < f.xs.length, Real (y.ts.map (sgm l))[k] ∧ (y.ts.map (sgm l))[k].v = b.v ∧ b.x = f.xs[k]) : BOk (proCn xs) n b := by
  obtain ⟨k, hk, hk2, hR, hv, hx⟩ := hb
  have hk3 : k < y.ts.length := by simpa using hk
  simp only [List.getElem_map] at hR hv
  have e := sgm_real hR
  rw [e] at hR hv
  rcases hi with ⟨h0, _⟩ | ⟨_, hg, hok, hty⟩
  · exact absurd rfl h0
  obtain ⟨hval, hfit⟩ := hf f hm
  have hvk := vlOk_k (hval f.xs[k] (List.getElem_mem hk2))
  rw [hx.symm] at hvk
  refine ⟨hvk, fun T hT => ?_⟩
  have hc : Cn.eq ⟨n, b.v, 0⟩ ⟨-1, y.p, k⟩ ∈ proCn xs := by
    refine ltCn_pro hn hy _ ?_
    unfold ltCn
    refine List.mem_append_right _ (mem_idxd.2 ⟨k, hk3, ?_⟩)
    rw [Nat.zero_add]
    unfold tsCn
    have e2 : tmSr n y.ts[k] = .pl ⟨n, b.v, 0⟩ := by
      unfold tmSr
      rw [if_neg hR.2, if_neg hR.1, hv]
    rw [e2]
    simp [joinSr]
  have hT2 : Has (proCn xs) T ⟨-1, y.p, k⟩ := .right hc hT
  have hin : (bl y.p, y.ts.length) ∈ proPr xs := List.mem_flatMap.2 ⟨xs[n], List.getElem_mem hn, by
    unfold prOf rpr
    refine List.mem_cons_of_mem _ (List.mem_flatMap.2 ⟨y, hy, ?_⟩)
    unfold lpr
    rw [if_neg (by omega)]
    simp⟩
  obtain ⟨s, hs, hsn⟩ := hok.all _ _ hin
  have hsn2 : s.name = y.p := bl_inj hsn
  have hcl : s.cols.length = y.ts.length := hg.2.1 _ _ _ (by rw [← hsn]; exact hok.in_ s hs) hin
  have hsk : k < s.cols.length := by omega
  have h3 := (hty s hs k hsk).2 T (by rw [hsn2]; exact hT2)
  have h4 := (hfit s hs (by rw [hsn2, hp])).2 k hk2 hsk
  have h5 := has_12 (proCn_12 xs) hT2
  rw [← h3] at h4
  rcases h4 with h4 | h4
  · omega
  · rw [← hx] at h4
    unfold kdT at h4
    split at h4 <;> omega
end Go.Proofs.YtafjjececdhmjaaGreat

namespace Go.Proofs.YtafjjececdhmjaaGreat
open Go.RowKit

theorem bl_eq {a b : ByteArray} (h : bl a = bl b) : a = b := bl_inj h
def baSame (s t : ByteArray) : Bool := decide (s.toList = t.toList)
theorem baSame_iff (s t : ByteArray) : baSame s t = true ↔ s = t := by
  unfold baSame
  rw [decide_eq_true_eq]
  constructor
  · intro h
    rw [ByteArray.toList_eq, ByteArray.toList_eq] at h
    exact bl_eq h
  · intro h
    rw [h]
def vlSame (x y : Vl) : Bool := decide (x.k = y.k) && (decide (x.n = y.n) && baSame x.t y.t)
theorem vlSame_iff (x y : Vl) : vlSame x y = true ↔ x = y := by
  obtain ⟨k, n, t⟩ := x
  obtain ⟨k', n', t'⟩ := y
  simp [vlSame, baSame_iff]
theorem eqv_run (d : Nat) (k n : Int) (t : ByteArray) (k' n' : Int) (t' : ByteArray) (W : World) : (Op.equalIn (d + 2) 91 (.agg #[.int .i8 k, .int .i64 n, .string t]) (.agg #[.int .i8 k', .int .i64 n', .string t'])).run Tryz.prog W = .ok (vlSame ⟨k, n, t⟩ ⟨k', n', t'⟩) W := by
  have hS : Tryz.prog.underlying 91 = some (.struct (Tryz.prog.fieldsOf 91)) := by kernel_rfl
  have hp : Tryz.prog.stoodInHeld 91 = false := by kernel_rfl
  rw [run_equalIn_agg W (d + 1) 91 _ _ hS hp]
  simp only [Program.fieldsOf, Tryz.underlying91]
  go_simp
  unfold vlSame baSame
  by_cases h1 : k = k' <;> by_cases h2 : n = n' <;> by_cases h3 : t.toList = t'.toList <;> simp [h1, h2, h3]
theorem neq_vl (x y : Vl) (b : Bool) (h : vlSame x y = b) (W : World) : (binOp .neq 91 (.agg #[.int .i8 x.k, .int .i64 x.n, .string x.t]) (.agg #[.int .i8 y.k, .int .i64 y.n, .string y.t])).run Tryz.prog W = .ok (.bool (!b)) W := by
  rw [run_neq_struct, show (10000 : Nat) = 9998 + 2 from rfl, eqv_run, ← h]
  rfl
theorem fold_mem : ∀ (ts : List Tm) (acc : List (List UInt8)) {v : List UInt8}, v ∈ ts.foldl addV acc → v ∈ acc ∨ ∃ t ∈ ts, bl t.v = v ∧ Real t
  | [], _, _, h => .inl h
  | t :: r, acc, v, h => by
    rcases fold_mem r _ h with h1 | ⟨u, hu, h2⟩
    · unfold addV at h1
      split at h1
      · rename_i hn
        rcases List.mem_append.1 h1 with h2 | h2
        · exact .inl h2
        · refine .inr ⟨t, by simp, (List.mem_singleton.1 h2).symm, ?_⟩
          unfold newV at hn
          simp only [Bool.and_eq_true, Bool.not_eq_true', beq_eq_false_iff_ne] at hn
          exact ⟨by rw [hn.1.1]; simp, hn.1.2⟩
      · exact .inl h1
    · exact .inr ⟨u, by simp [hu], h2⟩
theorem vars_mem {ts : List Tm} {v : List UInt8} (h : v ∈ varsL ts) : ∃ k, ∃ h : k < ts.length, bl ts[k].v = v ∧ Real ts[k] := by
  rcases fold_mem ts [] h with h1 | ⟨t, ht, h2⟩
  · simp at h1
  · obtain ⟨k, hk, rfl⟩ := List.getElem_of_mem ht
    exact ⟨k, hk, h2⟩
theorem vars_len : ∀ (ts : List Tm) (acc : List (List UInt8)), (ts.foldl addV acc).length ≤ acc.length + ts.length
  | [], acc => by simp
  | t :: r, acc => by
    have h1 := vars_len r (addV acc t)
    have h2 : (addV acc t).length ≤ acc.length + 1 := by unfold addV; split <;> simp
    simp only [List.foldl_cons, List.length_cons]
    omega
set_option maxHeartbeats 2000000 in
theorem rAtomVars (pr : ByteArray) (ts : List Tm) (p : Option Addr) (c : Nat) (w : World) (hts : TmSl w (.slice p ts.length c) ts) (hn : ts.length ≤ 10000) :
    Calls Tryz.prog 61 #[.agg #[.string pr, .slice p ts.length c]] w (VlPost (varsL ts) w) := by
  obtain ⟨V, hV⟩ : ∃ V, V = w.alloc (.cells #[.string pr, .slice p ts.length c] 26) := ⟨_, rfl⟩
  have HBV := Lib.hid (show Below w.heap.size w V by rw [hV]; exact below_alloc _ _)
  have HVR := Lib.hid (rVars ts p c V (hts.up HBV.out) hn)
  clear hts
  go_enter Tryz.func61, Tryz.ntmps61
  go_wp2_with fail
  rw [← hV]
  clear hV
  refine HVR.out.mono ?_
  rintro e w1 ⟨p', c', rfl, hb, hs⟩
  have HB := Lib.hid (HBV.out.trans (hb.mono HBV.out.size)); clear hb
  have HS := Lib.hid (show SsAt w1 w.heap.size p' (varsL ts) from hs.imp id fun ⟨a, o, h1, h2, h3⟩ => ⟨a, o, h1, Nat.le_trans HBV.out.size h2, h3⟩)
  clear hs
  go_wp2_with fail
  go_ret
  exact ⟨p', c', rfl, HB.out, HS.out⟩
/-- What Match leaves. -/
def MtPost (pr fp : ByteArray) (ts : List Tm) (xs : List Vl) (w : World) (r : Ending) (w' : World) : Prop :=
  ∃ (p : Option Addr) (c : Nat) (bs : List Tm) (ok : Bool), r = .returned (.tuple #[.slice p bs.length c, .bool ok]) ∧ Below w.heap.size w w' ∧ bs.length ≤ 24 ∧ LsAt w' p bs ∧ (∀ g, (Value.slice p bs.length c).ownBlock = some g → w.heap.size ≤ g) ∧
    (ok = true → atOk pr ts = true ∧ pr = fp ∧ ts.length = xs.length ∧ ∀ b ∈ bs, ∃ k, ∃ h : k < ts.length, ∃ h' : k < xs.length, Real ts[k] ∧ ts[k].v = b.v ∧ b.x = xs[k])
theorem MtPost.no {pr fp : ByteArray} {ts : List Tm} {xs : List Vl} {w w' : World} (h : Below w.heap.size w w') : MtPost pr fp ts xs w (.returned (.tuple #[.slice none 0 0, .bool false])) w' :=
  ⟨none, 0, [], false, rfl, h, by simp, .inl rfl, fun g hg => (by cases hg), fun h => nomatch h⟩
theorem bds_row {w : World} {B c : Nat} {p : Option Addr} {l : List Tm} (h : w.ownsRow B 115 4 (.slice p l.length c) l.length (l.flatMap Tm.cells)) : LsAt w p l := by
  rcases row_cells Tm.cells (fun _ => rfl) h with h0 | ⟨g, hp, _, hg, hc⟩
  · exact .inl h0
  · refine .inr ⟨g, 0, hp, hg, fun i hi => ?_⟩
    rw [Nat.zero_add]
    exact ⟨hc i hi 0 (by omega), hc i hi 1 (by omega), hc i hi 2 (by omega), hc i hi 3 (by omega)⟩
end Go.Proofs.YtafjjececdhmjaaGreat
