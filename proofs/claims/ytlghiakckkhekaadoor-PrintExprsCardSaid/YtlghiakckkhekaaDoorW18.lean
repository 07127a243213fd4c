/- The contracts of print.Atom; how long the texts are. Conditions: the terms lie in memory as they are told; a text is no longer than the model lets any be. -/
import Derived.Test.YtlghiakckkhekaaDoorW17
namespace Go.Proofs.YtlghiakckkhekaaDoor
open Go.RowKit

theorem runB_le {fr to : UInt8} {l : List UInt8} (h : runB fr to l = true) : l.length ≤ 120 := by
  cases l with
  | nil => simp
  | cons c r => simp [runB] at h; simp; omega
theorem itoa_le {n : Int} (h0 : -9223372036854775808 ≤ n) (h1 : n ≤ 9223372036854775807) : (Lib.itoa n).length ≤ 21 := by
  unfold Lib.itoa
  split
  · have := dec_len n.natAbs (by omega); simp; omega
  · have := dec_len n.toNat (by omega); omega
theorem quoteL_le (l : List UInt8) : (quoteL l).length ≤ 4 * l.length + 2 := by
  have := escL_le l; simp [quoteL]; omega
theorem showL_le {x : Vl} (hr : VlR x.k x.n x.t) : (showL x).length ≤ 802 := by
  unfold showL
  split
  · rename_i hv
    split
    · have := itoa_le hr.n0 hr.n1; omega
    · rename_i hk
      have h200 : x.t.size ≤ 200 := by
        simp [vlOk] at hv hk; omega
      have hb := size_bl x.t
      split
      · omega
      · have := quoteL_le (bl x.t); omega
  · simp
theorem termL_le {t : Tm} (hr : TmR t.v t.x.k t.x.n t.x.t) (ho : tmOk t = true) : (termL t).length ≤ 802 := by
  unfold termL
  split
  · exact showL_le hr.toVlR
  · rename_i h0
    simp only [tmOk, h0, if_false, Bool.false_eq_true, Bool.and_eq_true, Bool.or_eq_true] at ho
    rcases ho.2 with h | h
    · rw [beq_iff_eq] at h; rw [h]; simp
    · have := runB_le h; omega
theorem nameB_le {l : List UInt8} (h : nameB l = true) : l.length ≤ 120 := by
  simp only [nameB, Bool.and_eq_true] at h
  exact runB_le h.1
theorem sepL_bound (l : List (List UInt8)) (h : ∀ x ∈ l, x.length ≤ 802) (f : Bool) : (sepL f l).length ≤ 804 * l.length := by
  induction l generalizing f with
  | nil => simp [sepL]
  | cons x r ih =>
    have h1 := h x (by simp)
    have h2 := ih (fun y hy => h y (by simp [hy])) false
    cases f <;> simp [sepL] <;> omega
theorem not_bad {ts : List Tm} (h : ts.any tmBad = false) : ∀ t ∈ ts, tmOk t = true := by
  intro t ht
  have := List.any_eq_false.1 h t ht
  simpa [tmBad] using this
theorem colsL_bound {name : List UInt8} {l : List (List UInt8)} (hn : name.length ≤ 120) (h : ∀ x ∈ l, x.length ≤ 802) (h24 : l.length ≤ 24) : (colsL name l).length ≤ 20000 := by
  have := sepL_bound l h true
  unfold colsL
  rw [List.length_append, List.length_append]
  split <;> simp <;> omega
theorem atomL_le {p : ByteArray} {ts : List Tm} (hr : TmsR ts) (ho : atOk p ts = true) : (atomL p ts).length ≤ 20000 := by
  simp only [atOk, Bool.and_eq_true, decide_eq_true_eq, Bool.not_eq_true'] at ho
  refine colsL_bound (nameB_le ho.1.1) ?_ (by simpa [termTs] using ho.1.2)
  intro x hx
  obtain ⟨t, ht, rfl⟩ := List.mem_map.1 hx
  exact termL_le (hr t ht) (not_bad ho.2 t ht)
theorem atOk_24 {p : ByteArray} {ts : List Tm} (ho : atOk p ts = true) : ts.length ≤ 24 := by
  simp only [atOk, Bool.and_eq_true, decide_eq_true_eq] at ho
  exact ho.1.2

set_option maxHeartbeats 1000000 in
theorem pToldA (p : ByteArray) (sv : Value) (ts : List Tm) (w : World) (hp : p.size ≤ maxLen) (hts : TmSl w sv ts) (hr : TmsR ts) (hT : Tabs w) :
    Calls Tryd.prog 66 #[.agg #[.string p, sv], .func (.func 67) #[] #[], .func (.func 68) #[] #[]] w (TextPost (atOk p ts) (atomL p ts) w) := by
  have HR := Lib.hid hr; clear hr
  have HT := Lib.hid hT; clear hT
  have HTS := Lib.hid hts
  obtain ⟨q, cap, rfl, _, _⟩ := hts
  rcases hx : atOk p ts with _ | _
  all_goals have HX := Lib.hid hx
  all_goals rw [← hx]
  all_goals clear hx
  · go_enter Tryd.func66, Tryd.ntmps66
    go_wp2_with fail
    refine (tCheckAtom p _ ts _ hp (HTS.out.up (below_alloc _ _)) HR.out).mono ?_
    rintro e w1 ⟨rfl, hb⟩
    have Hb := Lib.hid hb; clear hb
    rw [HX.out, show okCode false 40 = 40 from rfl]
    go_wp2_with fail
    go_ret2
    exact ⟨ret_no HX.out, (below_alloc _ _).trans (Hb.out.mono (by simp))⟩
  · have HL := Lib.hid (atomL_le HR.out HX.out)
    go_enter Tryd.func66, Tryd.ntmps66
    go_wp2_with fail
    refine (tCheckAtom p _ ts _ hp (HTS.out.up (below_alloc _ _)) HR.out).mono ?_
    rintro e w1 ⟨rfl, hb⟩
    obtain ⟨hc, hf⟩ := bcell hb
    have Hb := Lib.hid hb; clear hb
    have hsz1 : w.heap.size < w1.heap.size := by have := Hb.out.size; simp at this; omega
    rw [HX.out, show okCode true 40 = 0 from rfl]
    go_wp2_with fail
    clear hc hf
    refine (pAtom w w1.heap.size [] p _ ts _ ⟨by omega, ((below_alloc _ _).trans (Hb.out.mono (by simp))).trans ((below_alloc w1 _).mono (by omega))⟩ HT.out HTS.out HR.out (atOk_24 HX.out) (wr_fresh _ w1) (by have := HL.out; simp; omega)).mono ?_
    rintro e w2 ⟨rfl, hw2, hk2⟩
    have H2 := Lib.hid hw2; clear hw2
    have HK2 := Lib.hid hk2; clear hk2
    go_wp2_with fail
    refine (bText w1.heap.size _ _ H2.out).mono ?_
    rintro e w3 ⟨rfl, hk3⟩
    have HK3 := Lib.hid hk3; clear hk3
    go_wp2_with fail
    go_ret2
    exact ⟨ret_yes HX.out, (((below_alloc _ _).trans (Hb.out.mono (by simp))).trans ((below_alloc w1 _).mono (by omega))).trans ((HK2.out.trans HK3.out).below.mono (by omega))⟩
theorem pAtomT (p : ByteArray) (sv : Value) (ts : List Tm) (w : World) (hp : p.size ≤ maxLen) (hts : TmSl w sv ts) (hr : TmsR ts) (hT : Tabs w) :
    Calls Tryd.prog 31 #[.agg #[.string p, sv]] w (TextPost (atOk p ts) (atomL p ts) w) := by
  have HR := Lib.hid hr; clear hr
  have HT := Lib.hid hT; clear hT
  have HTS := Lib.hid hts
  obtain ⟨q, cap, rfl, _, _⟩ := hts
  go_enter Tryd.func31, Tryd.ntmps31
  go_wp2_with fail
  refine (pToldA p _ ts _ hp (HTS.out.up (below_alloc _ _)) HR.out (HT.out.alloc _)).mono ?_
  rintro e w1 ⟨rfl, hb⟩
  have Hb := Lib.hid hb; clear hb
  go_wp2_with fail
  go_ret2
  exact ⟨rfl, (below_alloc _ _).trans (Hb.out.mono (by simp))⟩
end Go.Proofs.YtlghiakckkhekaaDoor
