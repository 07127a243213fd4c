/- The contracts of the reference's IsFact, Fact and Facts. Conditions: the facts lie in memory as they are told; no list is too long. -/
import Derived.Test.YtlghiakckkhekaaDoorV2
import Derived.Test.YtlghiakckkhekaaDoorA2
namespace Go.Proofs.YtlghiakckkhekaaDoor
open Go.RowKit

def fcOk (f : Fc) : Bool := nameB (bl f.p) && decide (f.xs.length ≤ 24) && f.xs.all vlOk
def showTs (xs : List Vl) : List (List UInt8) := xs.map showL
def factL (f : Fc) : List UInt8 := colsL (bl f.p) (showTs f.xs)
def factsL : List Fc → List UInt8
  | [] => []
  | f :: r => factL f ++ ([46, 10] ++ factsL r)
theorem factsL_snoc (l : List Fc) (f : Fc) : factsL (l ++ [f]) = factsL l ++ (factL f ++ [46, 10]) := by
  induction l with
  | nil => simp [factsL]
  | cons x r ih => simp [factsL, ih]
theorem factsL_take (l : List Fc) (j : Nat) (h : j < l.length) : factsL (l.take (j + 1)) = factsL (l.take j) ++ (factL l[j] ++ [46, 10]) := by
  rw [← List.take_append_getElem h, factsL_snoc]
theorem factL_le {f : Fc} (hr : FcR f) (ho : fcOk f = true) : (factL f).length ≤ 20000 := by
  simp only [fcOk, Bool.and_eq_true, decide_eq_true_eq] at ho
  refine colsL_bound (nameB_le ho.1.1) ?_ (by simpa [showTs] using ho.1.2)
  intro x hx
  obtain ⟨t, ht, rfl⟩ := List.mem_map.1 hx
  exact showL_le (hr.r_ t ht)
theorem factsL_le (l : List Fc) (hr : ∀ f ∈ l, FcR f) : ∀ j, j ≤ l.length → (∀ m, (h : m < l.length) → m < j → fcOk l[m] = true) → (factsL (l.take j)).length ≤ 20002 * j
  | 0, _, _ => by simp [factsL]
  | j + 1, h, ho => by
    have h1 := factsL_le l hr j (by omega) (fun m hm hmj => ho m hm (by omega))
    have h2 := factL_le (hr l[j] (List.getElem_mem (by omega))) (ho j (by omega) (by omega))
    rw [factsL_take l j (by omega), List.length_append, List.length_append]
    simp
    omega
theorem all_vl {xs : List Vl} (h : ∀ m, (hm : m < xs.length) → vlOk xs[m] = true) : xs.all vlOk = true := by
  rw [List.all_eq_true]
  intro t ht
  obtain ⟨m, hm, rfl⟩ := List.mem_iff_getElem.1 ht
  exact h m hm
theorem not_vl {xs : List Vl} {m : Nat} (hm : m < xs.length) (h : vlOk xs[m] = false) : xs.all vlOk = false := by
  rw [List.all_eq_false]
  exact ⟨xs[m], List.getElem_mem hm, by simp [h]⟩
theorem all_fc {xs : List Fc} (h : ∀ m, (hm : m < xs.length) → fcOk xs[m] = true) : xs.all fcOk = true := by
  rw [List.all_eq_true]
  intro t ht
  obtain ⟨m, hm, rfl⟩ := List.mem_iff_getElem.1 ht
  exact h m hm
theorem not_fc {xs : List Fc} {m : Nat} (hm : m < xs.length) (h : fcOk xs[m] = false) : xs.all fcOk = false := by
  rw [List.all_eq_false]
  exact ⟨xs[m], List.getElem_mem hm, by simp [h]⟩
set_option maxHeartbeats 2000000 in
theorem rIsFact (p : ByteArray) (sv : Value) (ts : List Vl) (w : World) (hp : p.size ≤ maxLen) (hts : VlSl w sv ts) :
    Calls Tryd.prog 42 #[.agg #[.string p, sv]] w fun e w' => e = .returned (.bool (fcOk ⟨p, ts, sv⟩)) ∧ Below w.heap.size w w' := by
  obtain ⟨q, cap, rfl, hm, hs⟩ := hts
  have HS := Lib.hid hs; clear hs
  rcases hn : nameB (bl p) with _ | _
  · have HE := Lib.hid (show fcOk ⟨p, ts, .slice q ts.length cap⟩ = false by simp [fcOk, hn])
    have HN := Lib.hid hn; clear hn
    go_enter Tryd.func42, Tryd.ntmps42
    go_wp2_with fail
    refine (rName p _ hp).mono ?_
    rintro e w1 ⟨rfl, rfl⟩
    rw [HN.out]
    go_wp2_with fail
    go_ret
    exact ⟨ret_bool HE.out.symm, below_alloc _ _⟩
  · by_cases h24 : ts.length ≤ 24
    · have HE := Lib.hid (show fcOk ⟨p, ts, .slice q ts.length cap⟩ = ts.all vlOk by simp [fcOk, hn, h24])
      have HN := Lib.hid hn; clear hn
      have d24 : decide ((24 : Int) < (ts.length : Int)) = false := decide_eq_false (by omega)
      obtain ⟨W, hW⟩ : ∃ W, W = w.alloc (.cells #[.string p, .slice q ts.length cap] 48) := ⟨_, rfl⟩
      have HBW := Lib.hid (show Below w.heap.size w W by rw [hW]; exact below_alloc _ _)
      have hsW : W.heap.size = w.heap.size + 1 := by rw [hW]; simp
      have HBX := Lib.hid (show W.heap[w.heap.size]? = some (.cells #[.string p, .slice q ts.length cap] 48 (0, 0)) by rw [hW]; exact heap_alloc_new w _)
      go_enter Tryd.func42, Tryd.ntmps42
      go_wp2_with fail
      refine (rName p _ hp).mono ?_
      rintro e w1 ⟨rfl, rfl⟩
      rw [HN.out]
      go_wp2_with fail
      rw [← hW]
      clear hW
      go_loopw [3] (fun i wr => ∃ j : Nat, j ≤ ts.length ∧ i = .int .i64 j ∧ (∀ m, (h : m < ts.length) → m < j → vlOk ts[m] = true) ∧ Below W.heap.size W wr) (fun i _ => ts.length - (intOf i).toNat)
      case atStart => exact ⟨0, by omega, rfl, fun m _ h => by omega, Below.refl _ _⟩
      case round =>
        obtain ⟨j, hj, rfl, hok, hb⟩ := hrel
        have Hok := Lib.hid hok; clear hok
        have Hb := Lib.hid hb; clear hb
        have hbx := (Hb.out.block w.heap.size (by omega)).trans HBX.out
        have x0 : wr.cell? ⟨w.heap.size, 0, none⟩ = some (.string p) := by rw [Lib.cell_of_heap hbx]; rfl
        have x1 : wr.cell? ⟨w.heap.size, 1, none⟩ = some (.slice q ts.length cap) := by rw [Lib.cell_of_heap hbx]; rfl
        clear hbx
        by_cases hlt : j < ts.length
        · rcases HS.out with h0 | ⟨a, o, hq, hat⟩
          · omega
          subst hq
          have hck := (hat.at_ j hlt).up (HBW.out.trans (Hb.out.mono (by omega))) hat.lt
          clear hat
          obtain ⟨tk, htk⟩ : ∃ tk, tk = ts[j] := ⟨_, rfl⟩
          rw [← htk] at hck
          have HTK := Lib.hid htk; clear htk
          obtain ⟨k, n, t⟩ := tk
          obtain ⟨c0, c1, c2⟩ := hck
          rcases hx : vlOk ⟨k, n, t⟩ with _ | _
          all_goals have HX := Lib.hid hx
          all_goals clear hx
          · go_wp2_with fail
            refine (rCheck k n t _).mono ?_
            rintro e w1 ⟨rfl, hb1⟩
            rw [HX.out, show okCode false 10 = 10 from rfl]
            have Hb1 := Lib.hid hb1; clear hb1
            go_wp2_with fail
            go_ret
            exact ⟨ret_bool (by rw [HE.out, not_vl hlt (by rw [← HTK.out]; exact HX.out)]), HBW.out.trans ((Hb.out.trans (Hb1.out.mono Hb.out.size)).mono (by omega))⟩
          · go_wp2_with fail
            refine (rCheck k n t _).mono ?_
            rintro e w1 ⟨rfl, hb1⟩
            rw [HX.out, show okCode true 10 = 0 from rfl]
            have Hb1 := Lib.hid hb1; clear hb1
            go_wp2_with fail
            go_roundw
            case rel => exact ⟨j + 1, by omega, by go_num, fun m hm hmj => by
                          by_cases e : m = j
                          · subst e; rw [← HTK.out]; exact HX.out
                          · exact Hok.out m hm (by omega), Hb.out.trans (Hb1.out.mono Hb.out.size)⟩
            case measure => simp [intOf]; omega
        · go_wp2_with fail
          go_ret
          exact ⟨ret_bool (by rw [HE.out, all_vl (fun m hm => Hok.out m hm (by omega))]), HBW.out.trans (Hb.out.mono (by omega))⟩
    · have HE := Lib.hid (show fcOk ⟨p, ts, .slice q ts.length cap⟩ = false by simp [fcOk, h24])
      have HN := Lib.hid hn; clear hn
      have d24 : decide ((24 : Int) < (ts.length : Int)) = true := decide_eq_true (by omega)
      go_enter Tryd.func42, Tryd.ntmps42
      go_wp2_with fail
      refine (rName p _ hp).mono ?_
      rintro e w1 ⟨rfl, rfl⟩
      rw [HN.out]
      go_wp2_with fail
      go_ret
      exact ⟨ret_bool HE.out.symm, below_alloc _ _⟩
/-- At the head of the rounds that gather the values' texts. -/
def FtRel (ts : List Vl) (W : World) (v i : Value) (wr : World) : Prop :=
  ∃ j : Nat, i = .int .i64 j ∧ j ≤ ts.length ∧ wr.ownsRowF W.heap.size 9 1 v j (strVs ((showTs ts).take j)) ∧ Below W.heap.size W wr
set_option maxHeartbeats 4000000 in
set_option maxRecDepth 100000 in
theorem rFact (p : ByteArray) (sv : Value) (ts : List Vl) (w : World) (hts : VlSl w sv ts) (hr : FcR ⟨p, ts, sv⟩) (ho : fcOk ⟨p, ts, sv⟩ = true) :
    Calls Tryd.prog 43 #[.agg #[.string p, sv]] w fun e w' => e = .returned (.string ⟨(factL ⟨p, ts, sv⟩).toArray⟩) ∧ Below w.heap.size w w' := by
  obtain ⟨i0, hi, hzz⟩ := Option.map_eq_some_iff.1 infoStr
  simp only [Prod.mk.injEq] at hzz
  obtain ⟨hz0, hz1, hz2⟩ := hzz
  have HI := Lib.hid hi; clear hi
  have HZ0 := Lib.hid hz0; clear hz0
  have HZ1 := Lib.hid hz1; clear hz1
  have HZ2 := Lib.hid hz2; clear hz2
  have HL := Lib.hid (factL_le hr ho)
  have h24 : ts.length ≤ 24 := by simp only [fcOk, Bool.and_eq_true, decide_eq_true_eq] at ho; exact ho.1.2
  obtain ⟨q, cap, rfl, hm, hs⟩ := hts
  have HS := Lib.hid hs; clear hs
  have HR := Lib.hid hr.r_; clear hr
  clear ho
  obtain ⟨W, hW⟩ : ∃ W, W = w.alloc (.cells #[.string p, .slice q ts.length cap] 48) := ⟨_, rfl⟩
  have HBW := Lib.hid (show Below w.heap.size w W by rw [hW]; exact below_alloc _ _)
  have hsW : W.heap.size = w.heap.size + 1 := by rw [hW]; simp
  have HBX := Lib.hid (show W.heap[w.heap.size]? = some (.cells #[.string p, .slice q ts.length cap] 48 (0, 0)) by rw [hW]; exact heap_alloc_new w _)
  go_enter Tryd.func43, Tryd.ntmps43
  go_wp2_with fail
  rw [← hW]
  clear hW
  go_loopw [3, 4] (fun v i wr => FtRel ts W v i wr) (fun _ i _ => ts.length - (intOf i).toNat)
  case atStart => exact ⟨0, rfl, by omega, ⟨rfl, .inl ⟨rfl, rfl⟩⟩, Below.refl _ _⟩
  case round =>
    obtain ⟨j, rfl, hj, hown, hb⟩ := hrel
    have Hb := Lib.hid hb; clear hb
    have hsz := Hb.out.size
    obtain ⟨pn, cn, rfl⟩ := own_slice1 hown
    have HO := Lib.hid hown; clear hown
    have hbx := (Hb.out.block w.heap.size (by omega)).trans HBX.out
    have x0 : wr.cell? ⟨w.heap.size, 0, none⟩ = some (.string p) := by rw [Lib.cell_of_heap hbx]; rfl
    have x1 : wr.cell? ⟨w.heap.size, 1, none⟩ = some (.slice q ts.length cap) := by rw [Lib.cell_of_heap hbx]; rfl
    clear hbx
    by_cases hlt : j < ts.length
    · rcases HS.out with h0 | ⟨a, o, hq, hat⟩
      · omega
      subst hq
      have hck := (hat.at_ j hlt).up (HBW.out.trans (Hb.out.mono (by omega))) hat.lt
      have HRk := Lib.hid (HR.out ts[j] (List.getElem_mem hlt))
      clear hat
      obtain ⟨tk, htk⟩ : ∃ tk, tk = ts[j] := ⟨_, rfl⟩
      rw [← htk] at hck HRk
      have HTK := Lib.hid htk; clear htk
      obtain ⟨k, n, t⟩ := tk
      obtain ⟨c0, c1, c2⟩ := hck
      go_wp2_with fail
      refine (rShow k n t _ HRk.out).mono ?_
      rintro e w1 ⟨rfl, hb1⟩
      have hown1 : w1.ownsRowF W.heap.size 9 1 (.slice pn j cn) j (strVs ((showTs ts).take j)) := own_below HO.out hb1
      have HO1 := Lib.hid hown1; clear hown1
      have HB1 := Lib.hid (Hb.out.trans (hb1.mono Hb.out.size)); clear hb1
      have hsz1 := HB1.out.size
      clear c0 c1 c2 x0 x1
      obtain ⟨s, hs⟩ : ∃ s : ByteArray, s = ⟨(showL ⟨k, n, t⟩).toArray⟩ := ⟨_, rfl⟩
      have HSS := Lib.hid hs
      rw [← hs]
      clear hs
      go_wp2_with (at_builtin; refine wpApp_row rfl _ _ 127 rfl W.heap.size 9 i0 _ 1 16 Tryd.underlying127 HI.out HZ0.out HZ1.out HZ2.out rfl (by decide) _ _ _ rfl (HO1.out.alloc _) ⟨w1.heap.size, 0, none⟩ 1 1 [.string s] rfl rfl (new_cells w1 [.string s] 9) ?c1 ?c2 ?c3 ?c4 ?_)
      case c1 => intro u hu; obtain rfl := List.mem_singleton.1 hu; rfl
      case c2 => unfold maxLen; omega
      case c3 => omega
      case c4 => simp; omega
      intro v' w2 hown' hgrow _ _
      have HO' := Lib.hid hown'; clear hown'
      have HG := Lib.hid hgrow; clear hgrow
      go_wp2_with fail
      refine ⟨⟨j + 1, by go_num, by omega, ?_, (HB1.out.alloc hsz1 _).grown HG.out (by simp; omega) (fun g hg => (HO1.out.lt g hg).1)⟩, by simp [intOf]; omega⟩
      have h1 := strVs_snoc (showTs ts) j (by simpa [showTs] using hlt)
      have h2 : (showTs ts)[j]'(by simpa [showTs] using hlt) = showL ⟨k, n, t⟩ := by
        have h3 : (showTs ts)[j]'(by simpa [showTs] using hlt) = showL ts[j] := by simp [showTs]
        rw [h3, ← HTK.out]
      rw [h1, h2, ← HSS.out, hsW]
      exact HO'.out
    · obtain rfl : j = ts.length := by omega
      obtain ⟨p3, c3, hv3, hat3⟩ := own_strs (l := showTs ts) (by
        have h := HO.out
        rwa [show (showTs ts).take ts.length = showTs ts by rw [List.take_of_length_le (by simp [showTs])]] at h) (by simp [showTs])
      have hlen : (showTs ts).length = ts.length := by simp [showTs]
      injection hv3 with e1 e2 e3
      clear e2
      subst e1 e3
      have hc := fun w' h => rCols p (showTs ts) pn cn w' h (by have h9 : (colsL (bl p) (showTs ts)).length ≤ 20000 := HL.out; omega)
      rw [hlen] at hc
      have HC := Lib.hid hc; clear hc hlen
      have HAT := Lib.hid hat3; clear hat3
      go_wp2_with fail
      refine (HC.out _ HAT.out).mono ?_
      rintro e w1 ⟨rfl, rfl⟩
      clear x0 x1
      go_wp2_with fail
      go_ret
      exact ⟨rfl, HBW.out.trans (Hb.out.mono (by omega))⟩
/-- What a call leaves that writes facts. -/
def FsPost (fs : List Fc) (w : World) (e : Ending) (w' : World) : Prop := e = .returned (.tuple #[.string ⟨(txt (fs.all fcOk) (factsL fs)).toArray⟩, .int .i64 (okCode (fs.all fcOk) 10)]) ∧ Below w.heap.size w w'
theorem ret_no10 {b : Bool} {l : List UInt8} (hb : b = false) : Ending.returned (.tuple #[.string ⟨#[]⟩, .int .i64 10]) = .returned (.tuple #[.string ⟨(txt b l).toArray⟩, .int .i64 (okCode b 10)]) := by rw [hb]; rfl
theorem ret_yes10 {b : Bool} {l : List UInt8} {s : ByteArray} (hb : b = true) (hs : bl s = l) : Ending.returned (.tuple #[.string s, .int .i64 0]) = .returned (.tuple #[.string ⟨(txt b l).toArray⟩, .int .i64 (okCode b 10)]) := by
  subst hb hs
  simp [txt, okCode]
def RfRel (fs : List Fc) (w : World) (v i : Value) (wr : World) : Prop :=
  ∃ (j : Nat) (s : ByteArray), i = .int .i64 j ∧ v = .string s ∧ j ≤ fs.length ∧ bl s = factsL (fs.take j) ∧ (∀ m, (h : m < fs.length) → m < j → fcOk fs[m] = true) ∧ Below w.heap.size w wr
set_option maxHeartbeats 4000000 in
theorem rFacts (fs : List Fc) (p : Option Addr) (cap : Nat) (w : World) (hs : FcsAt w p fs) (hr : ∀ f ∈ fs, FcR f) (hn : fs.length ≤ 4398046511104) :
    Calls Tryd.prog 18 #[.slice p fs.length cap] w (FsPost fs w) := by
  have HS := Lib.hid hs; clear hs
  have HR := Lib.hid hr; clear hr
  go_enter Tryd.func18, Tryd.ntmps18
  go_wp2_with fail
  go_loopw [4, 5] (fun v i wr => RfRel fs w v i wr) (fun _ i _ => fs.length - (intOf i).toNat)
  case atStart => exact ⟨0, _, rfl, rfl, by omega, rfl, fun m _ h => by omega, Below.refl _ _⟩
  case round =>
    obtain ⟨j, s, rfl, rfl, hj, hs, hok, hb⟩ := hrel
    have HSS := Lib.hid hs; clear hs
    have Hok := Lib.hid hok; clear hok
    have Hb := Lib.hid hb; clear hb
    have hssz : s.size ≤ 20002 * j := by
      have h1 := factsL_le fs HR.out j hj Hok.out
      rw [← HSS.out, size_bl] at h1
      exact h1
    by_cases hlt : j < fs.length
    · rcases HS.out.1 with h0 | ⟨a, o, hp, ha, hc⟩
      · omega
      subst hp
      have hck := (hc j hlt).up Hb.out ha
      clear hc
      have HE := Lib.hid ((HS.out.2 fs[j] (List.getElem_mem hlt)).up Hb.out)
      have HRk := Lib.hid (HR.out fs[j] (List.getElem_mem hlt))
      obtain ⟨tk, htk⟩ : ∃ tk, tk = fs[j] := ⟨_, rfl⟩
      rw [← htk] at hck HE HRk
      have HTK := Lib.hid htk; clear htk
      obtain ⟨p, xs, sv⟩ := tk
      obtain ⟨c0, c1⟩ := hck
      simp only at c0 c1 HE
      have HE2 := Lib.hid HE.out
      obtain ⟨q, cp, hsv, hm, _⟩ := HE.out
      subst hsv
      rcases hx : fcOk ⟨p, xs, .slice q xs.length cp⟩ with _ | _
      all_goals have HX := Lib.hid hx
      all_goals clear hx
      · go_wp2_with fail
        refine (rIsFact p _ xs _ HRk.out.p_ HE2.out).mono ?_
        rintro e w1 ⟨rfl, hb1⟩
        rw [HX.out]
        have Hb1 := Lib.hid hb1; clear hb1
        clear c0 c1
        go_wp2_with fail
        go_ret2
        exact ⟨ret_no10 (not_fc hlt (by rw [← HTK.out]; exact HX.out)), Hb.out.trans (Hb1.out.mono Hb.out.size)⟩
      · go_wp2_with fail
        refine (rIsFact p _ xs _ HRk.out.p_ HE2.out).mono ?_
        rintro e w1 ⟨rfl, hb1⟩
        rw [HX.out]
        obtain ⟨hcc, _⟩ := bcell hb1
        have h0 := (hcc a (o + j * 2) (Nat.lt_of_lt_of_le ha Hb.out.size)).trans c0
        have h1 := (hcc a (o + j * 2 + 1) (Nat.lt_of_lt_of_le ha Hb.out.size)).trans c1
        have Hb1 := Lib.hid hb1; clear hb1
        clear c0 c1 hcc
        go_wp2_with fail
        refine (rFact p _ xs _ (HE2.out.up Hb1.out) HRk.out HX.out).mono ?_
        rintro e w2 ⟨rfl, hb2⟩
        have Hb2 := Lib.hid hb2; clear hb2
        clear h0 h1
        obtain ⟨x, hx⟩ : ∃ x : ByteArray, x = ⟨(factL ⟨p, xs, .slice q xs.length cp⟩).toArray⟩ := ⟨_, rfl⟩
        have hxb : bl x = factL ⟨p, xs, .slice q xs.length cp⟩ := by rw [hx]
        rw [← hx]
        have hxs : x.size ≤ 20000 := by
          have h2 := factL_le HRk.out HX.out
          rw [← hxb, size_bl] at h2
          exact h2
        have HXB := Lib.hid hxb; clear hxb hx
        have hcat1 : ¬ 9223372036854775807 < s.size + x.size := by omega
        have hcat2 : ¬ 9223372036854775807 < s.size + x.size + 2 := by omega
        go_wp2_with fail
        go_roundw
        case rel => exact ⟨j + 1, s ++ x ++ ⟨#[46, 10]⟩, by go_num, rfl, by omega, by rw [bl_app, bl_app, HSS.out, HXB.out, factsL_take fs j hlt, ← HTK.out]; simp [bl], fun m hm hmj => by
                      by_cases e : m = j
                      · subst e; rw [← HTK.out]; exact HX.out
                      · exact Hok.out m hm (by omega), Hb.out.trans ((Hb1.out.trans (Hb2.out.mono Hb1.out.size)).mono Hb.out.size)⟩
        case measure => simp [intOf]; omega
    · obtain rfl : j = fs.length := by omega
      go_wp2_with fail
      go_ret2
      exact ⟨ret_yes10 (all_fc (fun m hm => Hok.out m hm hm)) (by rw [HSS.out, List.take_length]), Hb.out⟩
end Go.Proofs.YtlghiakckkhekaaDoor
