/- The walk of TopTyped, the contracts of Fits and assigned laid ahead. Appends of lists that may be empty; the rows that assigned makes. Conditions: what is handed in lies in memory as it is told. as told. -/
import Derived.Test.YtafjjececdhmjaaGreatNKr
import Derived.Test.YtafjjececdhmjaaGreatNKv
import Derived.Test.YtafjjececdhmjaaGreatNKw
import Derived.Test.YtafjjececdhmjaaGreatNKx
import Derived.Test.YtafjjececdhmjaaGreatNY67
namespace Go.Proofs.YtafjjececdhmjaaGreat
open Go.RowKit

/-- An assignment in a row of assignments: where its binds lie. -/
structure As where
  p : Option Addr
  c : Nat
  l : List Tm
/-- Assignments in a row of memory. -/
def AssAt (w : World) (pa : Option Addr) (L : List As) : Prop := (L.length = 0 ∨ ∃ a o, pa = some ⟨a, o, none⟩ ∧ a < w.heap.size ∧ ∀ i, (h : i < L.length) → w.cell? ⟨a, o + i, none⟩ = some (.slice L[i].p L[i].l.length L[i].c)) ∧ ∀ s ∈ L, LsAt w s.p s.l
theorem AssAt.up {w w' : World} {pa : Option Addr} {L : List As} (h : AssAt w pa L) (hb : Below w.heap.size w w') : AssAt w' pa L :=
  ⟨h.1.imp id fun ⟨a, o, hp, ha, hc⟩ => ⟨a, o, hp, Nat.lt_of_lt_of_le ha hb.size, fun i hi => (hb.cell (p := ⟨a, o + i, none⟩) ha).trans (hc i hi)⟩, fun s hs => (h.2 s hs).up hb⟩
/-- The contract of Fits. -/
def FitsC : Prop := ∀ (fs : List Fc) (q : Option Addr) (cap2 : Nat) (dd : List Sg) (ps : Option Addr) (cs : Nat) (w : World), FcsAt w q fs → (∀ f ∈ fs, FcR f) → fs.length ≤ 1048576 → SgMem w ps dd → (∀ i j, (hi : i < dd.length) → (hj : j < dd.length) → i < j → bl dd[i].name < bl dd[j].name) → dd.length ≤ 17825792 → (∀ x ∈ dd, x.cols.length ≤ 24) → (∀ x ∈ dd, x.name.size ≤ maxLen) →
  Calls Tryz.prog 10 #[.slice q fs.length cap2, .slice ps dd.length cs] w fun e w' => ∃ b : Bool, e = .returned (.bool b) ∧ (b = true → FitF fs dd) ∧ Below w.heap.size w w'
/-- What assigned leaves. -/
def AsPost (cs : List Cn) (n : Int) (w : World) (e : Ending) (w' : World) : Prop := ∃ (pa : Option Addr) (ca : Nat) (L : List As), e = .returned (.slice pa L.length ca) ∧ L.length ≤ 1000000 ∧ AssAt w' pa L ∧ (∀ s ∈ L, s.l.length ≤ 10000 ∧ ∀ b ∈ s.l, BOk cs n b) ∧ Below w.heap.size w w'
/-- The contract of assigned. -/
def AssC : Prop := ∀ (d : Nat) (xs : List (Ru d)) (dd : List Sg) (fs : List Fc) (n : Nat) (hn : n < xs.length) (q : Option Addr) (cap2 : Nat) (w : World), InfD xs 0 dd → FitF fs dd → RuAt w xs[n] → RuR xs[n].p xs[n].hs xs[n].bs → FcsAt w q fs → (∀ f ∈ fs, FcR f) → fs.length ≤ 1048576 → fs.length ^ posN xs[n].bs < 1000000 →
  Calls Tryz.prog 12 #[.slice xs[n].bp xs[n].bs.length xs[n].bc, .slice q fs.length cap2] w (AsPost (proCn xs) n w)
set_option maxRecDepth 100000 in
set_option maxHeartbeats 16000000 in
theorem topTyped (hF : FitsC) (hA : AssC) (d : Nat) (xs : List (Ru d)) (p : Option Addr) (cap : Nat) (fs : List Fc) (q : Option Addr) (cap2 : Nat) (s0 : ByteArray) (s1 : Value) (w : World) (hx : RusAt w d p xs) (hr : ∀ x ∈ xs, RuX x) (hf : FcsAt w q fs) (hfr : ∀ f ∈ fs, FcR f)
    (hn : fs.length ≤ 4398046511104) :
    Calls Tryz.prog 4 #[.agg #[.slice p xs.length cap, .slice q fs.length cap2, .string s0, s1]] w fun e w' => e = .returned (.bool true) ∧ Below w.heap.size w w' := by
  obtain ⟨V, hV⟩ : ∃ V, V = w.alloc (.cells #[.slice p xs.length cap, .slice q fs.length cap2, .string s0, s1] 28) := ⟨_, rfl⟩
  have HBV := Lib.hid (show Below w.heap.size w V by rw [hV]; exact below_alloc _ _)
  have HSV := Lib.hid (show V.heap.size = w.heap.size + 1 by rw [hV]; simp)
  have HB1 := Lib.hid (show V.heap[w.heap.size]? = some (.cells #[.slice p xs.length cap, .slice q fs.length cap2, .string s0, s1] 28 (0, 0)) by rw [hV]; exact heap_alloc_new w _)
  have hbk : w.heap.size < V.heap.size := by rw [HSV.out]; omega
  have HX := Lib.hid (hx.up HBV.out); clear hx
  have HFC := Lib.hid (hf.up HBV.out); clear hf
  have HXR := Lib.hid hr; clear hr
  have HFR := Lib.hid hfr
  have HBJ := Lib.hid (beyondJob d xs p cap fs q cap2 V HX.out HXR.out HFC.out hfr hn)
  clear hfr hn
  have HFT := Lib.hid hF; clear hF
  have HAS := Lib.hid hA; clear hA
  obtain ⟨x0, x1⟩ := fourC HB1.out
  rw [hV] at x0 x1
  go_enter Tryz.func4, Tryz.ntmps4
  go_wp2_with fail
  rw [← hV]
  clear hV x0 x1
  refine HBJ.out.mono ?_
  rintro e w1 ⟨b, rfl, hb, hb1⟩
  have Hb1 := Lib.hid (show Below V.heap.size V w1 from hb1); clear hb1 HBJ
  cases b
  case true =>
    go_wp2_with fail
    go_ret
    exact ⟨rfl, HBV.out.trans (Hb1.out.mono HBV.out.size)⟩
  case false =>
    obtain ⟨hxn, hfn, _⟩ := hb rfl
    clear hb
    obtain ⟨x0, x1⟩ := fourC ((Hb1.out.block w.heap.size hbk).trans HB1.out)
    go_wp2_with fail
    refine (tInfer d p cap xs w1 (HX.out.up Hb1.out) (fun x hx => ⟨(HXR.out x hx).r_⟩) hxn).mono ?_
    rintro e w2 hi
    obtain ⟨ps, cs, i1, c1, dd, rfl, hb2, hsm, hid⟩ := infU_of hi
    have HSM := Lib.hid hsm; clear hsm
    obtain ⟨hdn, hcn⟩ := infD_len hid
    have HCW := Lib.hid hcn; clear hcn
    have HID := Lib.hid hid; clear hid hi
    have Hb2 := Lib.hid (Hb1.out.trans (hb2.mono Hb1.out.size)); clear hb2 Hb1 x0 x1
    go_wp2_with fail
    refine (tKnown _).mono ?_
    rintro e w3 ⟨rfl, hb3⟩
    have HSM3 := Lib.hid (HSM.out.up hb3); clear HSM
    have Hb3 := Lib.hid (Hb2.out.trans (hb3.mono Hb2.out.size)); clear hb3 Hb2
    obtain ⟨x0, x1⟩ := fourC ((Hb3.out.block w.heap.size hbk).trans HB1.out)
    by_cases hc1 : c1 = 0
    · subst hc1
      have HSO := Lib.hid (show ∀ i j, (hi : i < dd.length) → (hj : j < dd.length) → i < j → bl dd[i].name < bl dd[j].name from by
        rcases HID.out with ⟨h0, _⟩ | ⟨_, _, hok, _⟩
        · exact absurd rfl h0
        · exact hok.so)
      have HNM := Lib.hid (show ∀ s ∈ dd, s.name.size ≤ maxLen from fun s hs => by
        rcases HID.out with ⟨h0, _⟩ | ⟨_, _, hok, _⟩
        · exact absurd rfl h0
        · obtain ⟨x, hx, h1⟩ := List.mem_flatMap.1 (hok.in_ s hs)
          have hr := (HXR.out x hx).r_
          unfold prOf rpr at h1
          rcases List.mem_cons.1 h1 with h2 | h2
          · have h3 : s.name = x.p := bl_inj (by simpa using congrArg Prod.fst h2)
            rw [h3]
            exact hr.p_
          · obtain ⟨y, hy, h3⟩ := List.mem_flatMap.1 h2
            unfold lpr at h3
            split at h3
            · simp at h3
            · have h4 : s.name = y.p := bl_inj (by simpa using congrArg Prod.fst (List.mem_singleton.1 h3))
              rw [h4]
              exact (hr.b_ y hy).p_)
      have HGD := Lib.hid (show Good xs from by
        rcases HID.out with ⟨h0, _⟩ | ⟨_, hg, _⟩
        · exact absurd rfl h0
        · exact hg)
      go_wp2_with fail
      refine (HFT.out fs q cap2 dd ps cs w3 (HFC.out.up Hb3.out) HFR.out hfn HSM3.out HSO.out (by omega) HCW.out HNM.out).mono ?_
      rintro e w4 ⟨b, rfl, hb, hb4⟩
      have Hb4 := Lib.hid (Hb3.out.trans (hb4.mono Hb3.out.size)); clear hb4 x0 x1
      cases b
      case false =>
        go_wp2_with fail
        go_ret
        exact ⟨rfl, HBV.out.trans (Hb4.out.mono HBV.out.size)⟩
      case true =>
        have HFF := Lib.hid (hb rfl); clear hb
        go_wp2_with fail
        go_loopw [6, 7, 8, 9] (fun i _ _ _ wr => ∃ j : Nat, j ≤ xs.length ∧ i = .int .i64 j ∧ Below V.heap.size V wr) (fun i _ _ _ _ => xs.length - (intOf i).toNat)
        case atStart => exact ⟨0, by omega, rfl, Hb4.out⟩
        case round =>
          obtain ⟨j, hj, rfl, hb⟩ := hrel
          have Hb := Lib.hid hb; clear hb
          rename World => wr
          obtain ⟨x0, x1⟩ := fourC ((Hb.out.block w.heap.size hbk).trans HB1.out)
          by_cases hlt : j < xs.length
          · rcases HX.out.1 with h0 | ⟨a, o, rfl, ha, hc⟩
            · omega
            have r2 := (hc j hlt).c2
            clear hc
            have hmem := List.getElem_mem hlt
            have huse := HGD.out.1 _ hmem
            have hsh := ruOk_short huse.1
            have hra := HX.out.2 _ hmem
            have hrr := (HXR.out _ hmem).r_
            have hlo : ∀ y ∈ xs[j].bs, ltOk y = true := by
              have h1 := huse.1
              unfold ruOk at h1
              simp only [Bool.and_eq_true, decide_eq_true_eq, List.all_eq_true] at h1
              exact h1.1.2
            have HMA := Lib.hid (fun V' (h : Below V.heap.size V V') => tMany d xs[j].bs xs[j].bp xs[j].bc fs.length V' (hra.b_.up h) hsh.2.1 hfn)
            have HAC := Lib.hid (fun (h0 : fs.length ^ posN xs[j].bs < 1000000) V' (h : Below V.heap.size V V') => HAS.out d xs dd fs j hlt q cap2 V' HID.out HFF.out (hra.up h) hrr (HFC.out.up h) HFR.out hfn h0)
            have HKI := Lib.hid (fun (l : List Tm) (p : Option Addr) (c : Nat) V' (h : Below V.heap.size V V') (hl : LsAt V' p l) (hl2 : l.length ≤ 10000) (hb : ∀ b ∈ l, BOk (proCn xs) j b) =>
              tKinds (proCn xs) j l p c hl2 hb HGD.out.2.2 d xs[j].bs xs[j].bp xs[j].bc V' hl (hra.b_.up h) (fun y hy => hrr.b_ y hy) hlo (fun y hy => ltCn_pro hlt hy) (by have := hsh.2.1; omega))
            clear hmem huse hsh hra hrr hlo
            obtain ⟨x, hx⟩ : ∃ x, x = xs[j] := ⟨_, rfl⟩
            rw [← hx] at r2 HMA HAC HKI
            clear hx
            have HS := Lib.hid (show ∀ w', Below V.heap.size V w' → w'.cell? ⟨w.heap.size, 0, none⟩ = some (.slice (some ⟨a, o, none⟩) xs.length cap) ∧ w'.cell? ⟨w.heap.size, 1, none⟩ = some (.slice q fs.length cap2) ∧ w'.cell? ⟨a, o + j * 3 + 2, none⟩ = some (.slice x.bp x.bs.length x.bc) from fun w' h => by
              obtain ⟨h1, h2⟩ := fourC ((h.block w.heap.size hbk).trans HB1.out)
              exact ⟨h1, h2, (h.cell (p := ⟨a, o + j * 3 + 2, none⟩) ha).trans r2⟩)
            have hk0 : (0 : Int) ≤ (j : Int) := by omega
            have hki : (j : Int) < (xs.length : Int) := by omega
            clear r2
            go_wp2_with fail
            clear x0 x1
            have Hc := Lib.hid Hb.out.drew
            go_region_held3 (fun w' => w'.cell? ⟨w.heap.size, 0, none⟩ = some (.slice (some ⟨a, o, none⟩) xs.length cap) ∧ w'.cell? ⟨w.heap.size, 1, none⟩ = some (.slice q fs.length cap2) ∧ w'.cell? ⟨a, o + j * 3 + 2, none⟩ = some (.slice x.bp x.bs.length x.bc))
              (first
                | (refine HS.out _ ?_
                   with_reducible exact Hc.out))
              (first
                | (go_at_call 11
                   refine (HMA.out _ ?_).mono ?_
                   · with_reducible exact Hc.out
                   rintro r w5 ⟨b5, rfl, hb5, hw5⟩
                   have HM5 := Lib.hid hb5
                   have Hc := Lib.hid (show Below V.heap.size V w5 by rw [hw5]; exact Hc.out)
                   clear hb5 hw5))
            all_goals
              cases b5
              case true =>
                go_wp2_with fail
                go_roundw
                case rel => exact ⟨j + 1, by omega, by go_num, Hc.out⟩
                case measure => simp [intOf]; omega
              case false =>
                have HM6 := Lib.hid (HM5.out rfl)
                go_wp2_with fail
                have Hd := Lib.hid Hc.out.drew
                go_region_held3 (fun w' => w'.cell? ⟨w.heap.size, 0, none⟩ = some (.slice (some ⟨a, o, none⟩) xs.length cap) ∧ w'.cell? ⟨w.heap.size, 1, none⟩ = some (.slice q fs.length cap2) ∧ w'.cell? ⟨a, o + j * 3 + 2, none⟩ = some (.slice x.bp x.bs.length x.bc))
                  (first
                    | (refine HS.out _ ?_
                       with_reducible exact Hd.out))
                  (first
                    | (go_at_call 12
                       refine (HAC.out HM6.out _ ?_).mono ?_
                       · with_reducible exact Hd.out
                       rintro r w6 ⟨pa, ca, L, rfl, hL, hat, hall, hb6⟩
                       have HL := Lib.hid hL
                       have HAT := Lib.hid hat
                       have HALL := Lib.hid hall
                       have Hd := Lib.hid (Hd.out.trans (hb6.mono Hd.out.size))
                       clear hL hat hall hb6))
                all_goals
                  go_wp2_with fail
                  have hLL := HL.out
                  go_loopw [8, 9] (fun i _ wm => ∃ m : Nat, m ≤ L.length ∧ i = .int .i64 m ∧ Below w6.heap.size w6 wm) (fun i _ _ => L.length - (intOf i).toNat)
                  case atStart => exact ⟨0, by omega, rfl, Below.refl _ _⟩
                  case round =>
                    obtain ⟨m, hm, rfl, hbm⟩ := hrel
                    have HQ := Lib.hid hbm; clear hbm
                    rename World => wm
                    have hVm := Hd.out.trans (HQ.out.mono Hd.out.size)
                    by_cases hlt2 : m < L.length
                    · rcases HAT.out.1 with h0 | ⟨a6, o6, rfl, ha6, hc6⟩
                      · omega
                      have hcs := hc6 m hlt2
                      have hls := HAT.out.2 _ (List.getElem_mem hlt2)
                      have hal := HALL.out _ (List.getElem_mem hlt2)
                      clear hc6
                      obtain ⟨s, hs⟩ : ∃ s, s = L[m] := ⟨_, rfl⟩
                      rw [← hs] at hcs hls hal
                      clear hs
                      have HKS := Lib.hid (fun V' (h : Below w6.heap.size w6 V') => HKI.out s.l s.p s.c V' (Hd.out.trans (h.mono Hd.out.size)) (hls.up h) hal.1 hal.2)
                      have HS2 := Lib.hid (show ∀ w', Below w6.heap.size w6 w' → w'.cell? ⟨w.heap.size, 0, none⟩ = some (.slice (some ⟨a, o, none⟩) xs.length cap) ∧ w'.cell? ⟨w.heap.size, 1, none⟩ = some (.slice q fs.length cap2) ∧ w'.cell? ⟨a, o + j * 3 + 2, none⟩ = some (.slice x.bp x.bs.length x.bc) ∧ w'.cell? ⟨a6, o6 + m, none⟩ = some (.slice s.p s.l.length s.c) from fun w' h => by
                        obtain ⟨h1, h2, h3⟩ := HS.out w' (Hd.out.trans (h.mono Hd.out.size))
                        exact ⟨h1, h2, h3, (h.cell (p := ⟨a6, o6 + m, none⟩) ha6).trans hcs⟩)
                      clear hcs hls hal
                      have hm0 : (0 : Int) ≤ (m : Int) := by omega
                      have hm1 : (m : Int) < (L.length : Int) := by omega
                      go_wp2_with fail
                      have He := Lib.hid HQ.out.drew
                      go_region_held3 (fun w' => w'.cell? ⟨w.heap.size, 0, none⟩ = some (.slice (some ⟨a, o, none⟩) xs.length cap) ∧ w'.cell? ⟨w.heap.size, 1, none⟩ = some (.slice q fs.length cap2) ∧ w'.cell? ⟨a, o + j * 3 + 2, none⟩ = some (.slice x.bp x.bs.length x.bc) ∧ w'.cell? ⟨a6, o6 + m, none⟩ = some (.slice s.p s.l.length s.c))
                        (first
                          | (refine HS2.out _ ?_
                             with_reducible exact He.out))
                        (first
                          | (go_at_call 13
                             refine (HKS.out _ ?_).mono ?_
                             · with_reducible exact He.out
                             rintro r w7 ⟨rfl, hb7⟩
                             have He := Lib.hid (He.out.trans (hb7.mono He.out.size))
                             clear hb7))
                      all_goals
                        go_wp2_with fail
                        go_roundw
                        case rel => exact ⟨m + 1, by omega, by go_num, He.out⟩
                        case measure => simp [intOf]; omega
                    · go_wp2_with fail
                      go_roundw
                      case rel => exact ⟨j + 1, by omega, by go_num, hVm⟩
                      case measure => simp [intOf]; omega
          · go_wp2_with fail
            go_ret
            exact ⟨rfl, HBV.out.trans (Hb.out.mono HBV.out.size)⟩
    · have q1 : (c1 == 0) = false := by simpa using hc1
      have q2 : (c1 != 0) = true := by simpa using hc1
      go_wp2_with fail
      go_ret
      exact ⟨rfl, HBV.out.trans (Hb3.out.mono HBV.out.size)⟩
end Go.Proofs.YtafjjececdhmjaaGreat

namespace Go.Proofs.YtafjjececdhmjaaGreat
open Go.RowKit

theorem infoBds : (Tryz.prog.info? 56).map (fun i => (i.zero, i.size, i.bytes)) = some (some (.slice none 0 0), 1, 24) := by kernel_rfl
section
variable {P : Program}
/-- Nothing appended. -/
theorem run_append_zero {w : World} (t ty e : TypeId) (i : TypeInfo) (ht : P.underlying t = some (.slice e)) (hi : P.info? e = some i) {p q : Option Addr} {n cap c : Nat} (hc : n ≤ cap) :
    (Builtin.append_ #[t, t] ty #[.slice p n cap, .slice q 0 c]).run P w = .ok (.slice p n cap) w := by
  rcases p with _ | p <;> rcases q with _ | q <;>
  simp [Builtin.append_, run_underlying ht, sizeOf, typeInfo, hi, Builtin.lenOf, Builtin.firstCells, loadCells, loadCellsFrom, storeCells, hc]
/-- append at a step of a walk, what is appended may be empty. -/
theorem wpOwnX {w : World} {ops : Array Oper} {rest : List Oper} {o : Oper} {a : Act} {Q : Exit → Act → World → Prop} (hgd : o.guard = none) (s x : Operand) (t : TypeId)
    (ho : o.op = .call { callee := .builtin .append, args := #[s, x], argTypes := #[t, t] })
    (base : Nat) (e : TypeId) (i : TypeInfo) (z : Value) (size bytes : Nat) (ht : P.underlying t = some (.slice e)) (hi : P.info? e = some i) (hz : i.zero = some z)
    (hsize : i.size = size) (hby : i.bytes = bytes) (hzs : z.cells.size = size) (hsz : 0 < size)
    (v : Value) (n : Nat) (xs : List Value) (hs : a.eval s = v) (hown : w.ownsRow base e size v n xs)
    (q : Option Addr) (m c : Nat) (news : List Value) (hx : a.eval x = .slice q m c) (hl : news.length = m * size) (hnews : m = 0 ∨ ∃ ad, q = some ad ∧ ∀ j u, news[j]? = some u → w.cell? (ad.add j) = some u) (h1 : ∀ u ∈ news, u.oneCell' = true)
    (h63 : n + m ≤ maxLen) (hbytes : (n + m) * bytes ≤ 140737488355328) (hbase : base ≤ w.heap.size)
    (h : ∀ v' w', w'.ownsRow base e size v' (n + m) (xs ++ news) → w.grownBy w' v.ownBlock → (v'.ownBlock = v.ownBlock ∨ ((∀ g, v'.ownBlock = some g → w.heap.size ≤ g) ∧ ∀ k, k < w.heap.size → w'.heap[k]? = w.heap[k]?)) → wpList P ops Q rest (a.put o.dst v') w') : wpList P ops Q (o :: rest) a w := by
  rcases Nat.eq_zero_or_pos m with rfl | hm
  · have hn : news = [] := List.eq_nil_of_length_eq_zero (by omega)
    subst hn
    obtain ⟨p, cap, hv, hc⟩ : ∃ p cap, v = .slice p n cap ∧ n ≤ cap := by
      rcases hown.2 with ⟨hv, h0⟩ | ⟨g, cap, cur, hv, _, _, h2, _⟩
      · exact ⟨none, 0, by rw [hv, h0], by omega⟩
      · exact ⟨_, cap, hv, h2⟩
    have hr := run_append_zero (P := P) (w := w) t o.type e i ht hi (p := p) (q := q) (c := c) hc
    rw [← hv] at hr
    refine wpList_plain hgd fun K hK => ?_
    unfold Oper.wp execOp
    simp only [ho, resolve, invoke, builtin, Sem.run_bind, Sem.run_pure, Result.andThen_ok, List.map_toArray, List.map_cons, List.map_nil, hs, hx, hr]
    exact hK _ _ (h v w (by rw [List.append_nil]; exact hown) ⟨rfl, rfl, rfl, Nat.le_refl _, fun _ _ _ => rfl⟩ (.inl rfl))
  · rcases hnews with h0 | ⟨ad, rfl, hnw⟩
    · omega
    · exact wpOwnR hgd s x t ho base e i z size bytes ht hi hz hsize hby hzs hsz v n xs hs hown ad m c news hx hl hnw h1 h63 hbytes hbase h
end
theorem tm_len (t : Tm) : t.cells.length = 4 := rfl
theorem tms_len (l : List Tm) : (l.flatMap Tm.cells).length = l.length * 4 := by
  induction l with
  | nil => rfl
  | cons x r ih => rw [List.flatMap_cons, List.length_append, ih, List.length_cons, tm_len]; omega
theorem tms_one (l : List Tm) : ∀ u ∈ l.flatMap Tm.cells, u.oneCell' = true := by
  intro u hu
  obtain ⟨x, _, h⟩ := List.mem_flatMap.1 hu
  simp only [Tm.cells, Vl.cells, List.mem_cons, List.not_mem_nil, or_false] at h
  rcases h with rfl | rfl | rfl | rfl <;> rfl
/-- The cells of an assignment, to be appended. -/
theorem ls_news {w : World} {p : Option Addr} {l : List Tm} (h : LsAt w p l) : l.length = 0 ∨ ∃ ad, p = some ad ∧ ∀ j u, (l.flatMap Tm.cells)[j]? = some u → w.cell? (ad.add j) = some u := by
  rcases h with h0 | ⟨a, o, hp, ht⟩
  · exact .inl h0
  · refine .inr ⟨_, hp, fun j u hu => ?_⟩
    have hj : j < l.length * 4 := by rw [← tms_len]; exact (List.getElem?_eq_some_iff.1 hu).1
    have hi : j / 4 < l.length := by omega
    have hq : j % 4 < 4 := by omega
    have hjj : j = j / 4 * 4 + j % 4 := by omega
    have h1 : (l.flatMap Tm.cells)[j / 4 * 4 + j % 4]? = (l[j / 4].cells)[j % 4]? := flat_at Tm.cells tm_len l (j / 4) hi (j % 4) hq
    rw [← hjj, hu] at h1
    have h2 := ht.at_ (j / 4) hi
    rw [addr_add]
    have h3 : j % 4 = 0 ∨ j % 4 = 1 ∨ j % 4 = 2 ∨ j % 4 = 3 := by omega
    rcases h3 with h3 | h3 | h3 | h3
    · rw [h3] at h1 hjj
      rw [show o + j = o + j / 4 * 4 by omega, h2.c0]
      exact h1.symm
    · rw [h3] at h1 hjj
      rw [show o + j = o + j / 4 * 4 + 1 by omega, h2.c1]
      exact h1.symm
    · rw [h3] at h1 hjj
      rw [show o + j = o + j / 4 * 4 + 2 by omega, h2.c2]
      exact h1.symm
    · rw [h3] at h1 hjj
      rw [show o + j = o + j / 4 * 4 + 3 by omega, h2.c3]
      exact h1.symm
/-- A pair of a name and a value. -/
def prV (x : Tm) : List Value := [.string x.v, .string ⟨#[]⟩, .int .i8 x.x.k, .int .i64 x.x.n, .string x.x.t]
theorem pv_row {w : World} {B c : Nat} {p : Option Addr} {l : List Tm} (h : w.ownsRow B 95 5 (.slice p l.length c) l.length (l.flatMap prV)) : BdsAt w p l := by
  rcases row_cells prV (fun _ => rfl) h with h0 | ⟨g, hp, _, hg, hc⟩
  · exact .inl h0
  · refine .inr ⟨g, 0, hp, hg, fun i hi => ?_⟩
    rw [Nat.zero_add]
    exact ⟨hc i hi 0 (by omega), hc i hi 1 (by omega), hc i hi 2 (by omega), hc i hi 3 (by omega), hc i hi 4 (by omega)⟩
/-- An assignment's slice. -/
def As.sl (s : As) : Value := .slice s.p s.l.length s.c
/-- The row of assignments that is being made: its lists lie in other blocks than its own. -/
structure NxS (B : Nat) (v : Value) (L : List As) (w : World) : Prop where
  ow : w.ownsRow B 56 1 v L.length (L.map As.sl)
  el : ∀ s ∈ L, s.l.length = 0 ∨ ∃ a o, s.p = some ⟨a, o, none⟩ ∧ TmsAt w a o s.l ∧ v.ownBlock ≠ some a
theorem NxS.start (B : Nat) (w : World) : NxS B (.slice none 0 0) [] w := ⟨ownR_nil _ _ _ _, fun s hs => by simp at hs⟩
theorem NxS.up {B : Nat} {v : Value} {L : List As} {w w' : World} (h : NxS B v L w) (hb : Below w.heap.size w w') : NxS B v L w' :=
  ⟨ownR_up h.ow hb, fun s hs => (h.el s hs).imp id fun ⟨a, o, hp, ht, hn⟩ => ⟨a, o, hp, ht.up hb ht.lt, hn⟩⟩
theorem TmsAt.same {w w' : World} {a o : Nat} {l : List Tm} (h : TmsAt w a o l) (hs : w.heap.size ≤ w'.heap.size) (e : w'.heap[a]? = w.heap[a]?) : TmsAt w' a o l :=
  ⟨Nat.lt_of_lt_of_le h.lt hs, fun i hi => ⟨(cell_eq e _).trans (h.at_ i hi).c0, (cell_eq e _).trans (h.at_ i hi).c1, (cell_eq e _).trans (h.at_ i hi).c2, (cell_eq e _).trans (h.at_ i hi).c3⟩⟩
theorem NxS.next {B : Nat} {v v' : Value} {L : List As} {w w1 w2 : World} (h : NxS B v L w) (h1 : Below w.heap.size w w1) {s : As} (hs : s.l.length = 0 ∨ ∃ a o, s.p = some ⟨a, o, none⟩ ∧ TmsAt w1 a o s.l ∧ w.heap.size ≤ a) {o : Obj}
    (hg : (w1.alloc o).grownBy w2 v.ownBlock) (hown : w2.ownsRow B 56 1 v' (L.length + 1) (L.map As.sl ++ [s.sl]))
    (hat : v'.ownBlock = v.ownBlock ∨ ((∀ g, v'.ownBlock = some g → (w1.alloc o).heap.size ≤ g) ∧ ∀ k, k < (w1.alloc o).heap.size → w2.heap[k]? = (w1.alloc o).heap[k]?)) : NxS B v' (L ++ [s]) w2 := by
  have hz : (w1.alloc o).heap.size = w1.heap.size + 1 := by simp
  have hz2 := hg.size
  have hz1 := h1.size
  refine ⟨by rw [List.length_append, List.map_append]; exact hown, fun r hr => ?_⟩
  have key : ∀ a oo, ∀ l : List Tm, TmsAt w1 a oo l → v.ownBlock ≠ some a → TmsAt w2 a oo l ∧ v'.ownBlock ≠ some a := fun a oo l ht hn => by
    refine ⟨ht.same (by omega) ?_, fun e => ?_⟩
    · rw [hg.block a (by have := ht.lt; omega) (fun e => hn e.symm), Below.heap_alloc _ _ _ ht.lt]
    · rcases hat with h2 | ⟨h2, _⟩
      · rw [h2] at e; exact hn e
      · have := h2 a e; have := ht.lt; omega
  rcases List.mem_append.1 hr with h5 | h5
  · refine (h.el r h5).imp id fun ⟨a, oo, hp, ht, hn⟩ => ?_
    obtain ⟨k1, k2⟩ := key a oo r.l (ht.up h1 ht.lt) hn
    exact ⟨a, oo, hp, k1, k2⟩
  · rw [List.mem_singleton.1 h5]
    refine hs.imp id fun ⟨a, oo, hp, ht, hn⟩ => ?_
    obtain ⟨k1, k2⟩ := key a oo s.l ht (fun e => by have := (ownR_lt h.ow e).2; omega)
    exact ⟨a, oo, hp, k1, k2⟩
theorem flat_one : ∀ L : List As, (L.flatMap fun s => [s.sl]) = L.map As.sl
  | [] => rfl
  | x :: r => by rw [List.flatMap_cons, flat_one r]; rfl
/-- The row, once it is made. -/
theorem NxS.done {B : Nat} {p : Option Addr} {c : Nat} {L : List As} {w : World} (h : NxS B (.slice p L.length c) L w) : AssAt w p L := by
  refine ⟨?_, fun s hs => (h.el s hs).imp id fun ⟨a, o, hp, ht, _⟩ => ⟨a, o, hp, ht⟩⟩
  have h1 : w.ownsRow B 56 1 (.slice p L.length c) L.length (L.flatMap fun s => [s.sl]) := by
    rw [flat_one]
    exact h.ow
  rcases row_cells (k := 1) (fun s : As => [s.sl]) (fun _ => rfl) h1 with h0 | ⟨g, hp, _, hg, hc⟩
  · exact .inl h0
  · refine .inr ⟨g, 0, hp, hg, fun i hi => ?_⟩
    have h2 := hc i hi 0 (by omega)
    rw [Nat.zero_add]
    simpa [As.sl] using h2
/-- What is told of the assignments after so many rounds. -/
def AsG (cs : List Cn) (n : Int) (m : Nat) (L : List As) : Prop := ∀ s ∈ L, s.l.length ≤ m ∧ ∀ b ∈ s.l, BOk cs n b ∧ VlR b.x.k b.x.n b.x.t
theorem AsG.mono {cs : List Cn} {n : Int} {m m' : Nat} {L : List As} (h : AsG cs n m L) (hm : m ≤ m') : AsG cs n m' L := fun s hs => ⟨Nat.le_trans (h s hs).1 hm, (h s hs).2⟩
theorem AsG.snoc {cs : List Cn} {n : Int} {m : Nat} {L : List As} (h : AsG cs n m L) {s : As} (h1 : s.l.length ≤ m) (h2 : ∀ b ∈ s.l, BOk cs n b ∧ VlR b.x.k b.x.n b.x.t) : AsG cs n m (L ++ [s]) := fun r hr => by
  rcases List.mem_append.1 hr with h5 | h5
  · exact h r h5
  · rw [List.mem_singleton.1 h5]; exact ⟨h1, h2⟩
/-- Terms within bounds stay so when what they are bound to is put in. -/
theorem tmsR_sgm {l : List Tm} (hl : ∀ b ∈ l, VlR b.x.k b.x.n b.x.t) {ts : List Tm} (h : TmsR ts) : TmsR (ts.map (sgm l)) := by
  intro t ht
  obtain ⟨u, hu, rfl⟩ := List.mem_map.1 ht
  unfold sgm
  split
  · exact h u hu
  · split
    · rename_i x hx
      obtain ⟨b, hb, _, rfl⟩ := bnd_mem hx
      exact ⟨hl b hb, Nat.zero_le _⟩
    · exact h u hu
theorem AsG.r_ {cs : List Cn} {n : Int} {m : Nat} {L : List As} (h : AsG cs n m L) {s : As} (hs : s ∈ L) : ∀ b ∈ s.l, VlR b.x.k b.x.n b.x.t := fun b hb => ((h s hs).2 b hb).2
end Go.Proofs.YtafjjececdhmjaaGreat
