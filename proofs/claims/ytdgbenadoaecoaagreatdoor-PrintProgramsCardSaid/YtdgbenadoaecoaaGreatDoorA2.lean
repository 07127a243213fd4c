/- The contracts of the reference's atom, Atom and Query, and of print.Query. Conditions: the terms lie in memory as they are told. -/
import Derived.Test.YtdgbenadoaecoaaGreatDoorA1
namespace Go.Proofs.YtdgbenadoaecoaaGreatDoor
open Go.RowKit

def strVs (l : List (List UInt8)) : List Value := l.map fun x => .string ⟨x.toArray⟩
theorem infoStr : (Tryz.prog.info? 9).map (fun i => (i.zero, i.size, i.bytes)) = some (some (.string ⟨#[]⟩), 1, 16) := by kernel_rfl
theorem strVs_one (l : List (List UInt8)) : ∀ u ∈ strVs l, u.oneCell' = true := by
  intro u hu
  obtain ⟨x, _, rfl⟩ := List.mem_map.1 hu
  rfl
theorem own_strs {w : World} {B n : Nat} {v : Value} {l : List (List UInt8)} (h : w.ownsRowF B 9 1 v n (strVs l)) (hn : n = l.length) : ∃ p cap, v = .slice p l.length cap ∧ StrsAt w p l := by
  subst hn
  rcases h.2 with ⟨hv, hn⟩ | ⟨g, cap, cur, fz, hv, _, hg, _, _, _, hcs, htake⟩
  · exact ⟨none, 0, by rw [hv, hn], .inl hn⟩
  · refine ⟨_, cap, hv, .inr ⟨g, 0, rfl, fun i hi => ?_⟩⟩
    rw [Nat.zero_add, Lib.cell_of_heap hg]
    have h1 : (strVs l)[i]? = some (.string ⟨l[i].toArray⟩) := by simp [strVs, hi]
    rw [← h1, ← htake, List.getElem?_take_of_lt (by omega), Array.getElem?_toList]
theorem own_below {w w' : World} {B n m : Nat} {e : TypeId} {v : Value} {xs : List Value} (h : w.ownsRowF B e m v n xs) (hb : Below w.heap.size w w') : w'.ownsRowF B e m v n xs := by
  refine ⟨h.1, ?_⟩
  rcases h.2 with h2 | ⟨g, cap, cur, fz, hv, hB, hg, h3⟩
  · exact .inl h2
  · exact .inr ⟨g, cap, cur, fz, hv, hB, (hb.block g (Array.getElem?_eq_some_iff.1 hg).1).trans hg, h3⟩
theorem own_slice1 {w : World} {B n : Nat} {e : TypeId} {v : Value} {xs : List Value} (h : w.ownsRowF B e 1 v n xs) : ∃ p cap, v = .slice p n cap := by
  rcases h.2 with ⟨hv, hn⟩ | ⟨g, cap, cur, fz, hv, _⟩
  · exact ⟨none, 0, by rw [hv, hn]⟩
  · exact ⟨_, cap, hv⟩
theorem strVs_snoc (l : List (List UInt8)) (j : Nat) (h : j < l.length) : strVs (l.take (j + 1)) = strVs (l.take j) ++ [.string ⟨l[j].toArray⟩] := by
  rw [← List.take_append_getElem h]
  unfold strVs
  rw [List.map_append]
  rfl
/-- At the head of the rounds that gather the columns' texts. -/
def AtRel (ts : List Tm) (W : World) (v i : Value) (wr : World) : Prop :=
  ∃ j : Nat, i = .int .i64 j ∧ j ≤ ts.length ∧ wr.ownsRowF W.heap.size 9 1 v j (strVs ((termTs ts).take j)) ∧ Below W.heap.size W wr
set_option maxHeartbeats 4000000 in
set_option maxRecDepth 100000 in
theorem rAtomL (p : ByteArray) (sv : Value) (ts : List Tm) (w : World) (hts : TmSl w sv ts) (hr : TmsR ts) (ho : atOk p ts = true) :
    Calls Tryz.prog 70 #[.agg #[.string p, sv]] w fun e w' => e = .returned (.string ⟨(atomL p ts).toArray⟩) ∧ Below w.heap.size w w' := by
  obtain ⟨i0, hi, hzz⟩ := Option.map_eq_some_iff.1 infoStr
  simp only [Prod.mk.injEq] at hzz
  obtain ⟨hz0, hz1, hz2⟩ := hzz
  have HI := Lib.hid hi; clear hi
  have HZ0 := Lib.hid hz0; clear hz0
  have HZ1 := Lib.hid hz1; clear hz1
  have HZ2 := Lib.hid hz2; clear hz2
  have HL := Lib.hid (atomL_le hr ho)
  have h24 := atOk_24 ho
  obtain ⟨q, cap, rfl, hm, hs⟩ := hts
  have HS := Lib.hid hs; clear hs
  have HR := Lib.hid hr; clear hr
  clear ho
  obtain ⟨W, hW⟩ : ∃ W, W = w.alloc (.cells #[.string p, .slice q ts.length cap] 65) := ⟨_, rfl⟩
  have HBW := Lib.hid (show Below w.heap.size w W by rw [hW]; exact below_alloc _ _)
  have hsW : W.heap.size = w.heap.size + 1 := by rw [hW]; simp
  have HBX := Lib.hid (show W.heap[w.heap.size]? = some (.cells #[.string p, .slice q ts.length cap] 65 (0, 0)) by rw [hW]; exact heap_alloc_new w _)
  go_enter Tryz.func70, Tryz.ntmps70
  go_wp2_with fail
  rw [← hW]
  clear hW
  go_loopw [3, 4] (fun v i wr => AtRel ts W v i wr) (fun _ i _ => ts.length - (intOf i).toNat)
  case atStart => exact ⟨0, rfl, by omega, ⟨rfl, .inl ⟨rfl, rfl⟩⟩, Below.refl _ _⟩
  case round =>
    obtain ⟨j, rfl, hj, hown, hb⟩ := hrel
    have Hb := Lib.hid hb; clear hb
    have hsz := Hb.out.size
    obtain ⟨pn, cn, rfl⟩ := own_slice1 hown
    have HO := Lib.hid hown; clear hown
    have hbx := (Hb.out.block w.heap.size (by omega)).trans HBX.out
    have x0 : wr.cell? ⟨w.heap.size, 0, none⟩ = some (.string p) := by rw [Lib.cell_of_heap hbx]; rfl
    have x1 : wr.cell? ⟨w.heap.size, 1, none⟩ = some (.slice q ts.length cap) := by rw [Lib.cell_of_heap hbx]; rfl
    clear hbx
    by_cases hlt : j < ts.length
    · rcases HS.out with h0 | ⟨a, o, hq, hat⟩
      · omega
      subst hq
      have hck := (hat.at_ j hlt).up (HBW.out.trans (Hb.out.mono (by omega))) hat.lt
      have HRk := Lib.hid (HR.out ts[j] (List.getElem_mem hlt))
      clear hat
      obtain ⟨tk, htk⟩ : ∃ tk, tk = ts[j] := ⟨_, rfl⟩
      rw [← htk] at hck HRk
      have HTK := Lib.hid htk; clear htk
      obtain ⟨v, k, n, t⟩ := tk
      obtain ⟨c0, c1, c2, c3⟩ := hck
      go_wp2_with fail
      refine (rText v k n t _ HRk.out).mono ?_
      rintro e w1 ⟨rfl, hb1⟩
      have hown1 : w1.ownsRowF W.heap.size 9 1 (.slice pn j cn) j (strVs ((termTs ts).take j)) := own_below HO.out hb1
      have HO1 := Lib.hid hown1; clear hown1
      have HB1 := Lib.hid (Hb.out.trans (hb1.mono Hb.out.size)); clear hb1
      have hsz1 := HB1.out.size
      clear c0 c1 c2 c3 x0 x1
      obtain ⟨s, hs⟩ : ∃ s : ByteArray, s = ⟨(termL ⟨v, ⟨k, n, t⟩⟩).toArray⟩ := ⟨_, rfl⟩
      have HSS := Lib.hid hs
      rw [← hs]
      clear hs
      go_wp2_with (at_builtin; refine wpApp_row rfl _ _ 88 rfl W.heap.size 9 i0 _ 1 16 Tryz.underlying88 HI.out HZ0.out HZ1.out HZ2.out rfl (by decide) _ _ _ rfl (HO1.out.alloc _) ⟨w1.heap.size, 0, none⟩ 1 1 [.string s] rfl rfl (new_cells w1 [.string s] 9) ?c1 ?c2 ?c3 ?c4 ?_)
      case c1 => intro u hu; obtain rfl := List.mem_singleton.1 hu; rfl
      case c2 => unfold maxLen; omega
      case c3 => omega
      case c4 => simp; omega
      intro v' w2 hown' hgrow _ _
      have HO' := Lib.hid hown'; clear hown'
      have HG := Lib.hid hgrow; clear hgrow
      go_wp2_with fail
      refine ⟨⟨j + 1, by go_num, by omega, ?_, (HB1.out.alloc hsz1 _).grown HG.out (by simp; omega) (fun g hg => (HO1.out.lt g hg).1)⟩, by simp [intOf]; omega⟩
      have h1 := strVs_snoc (termTs ts) j (by simpa [termTs] using hlt)
      have h2 : (termTs ts)[j]'(by simpa [termTs] using hlt) = termL ⟨v, ⟨k, n, t⟩⟩ := by
        have h3 : (termTs ts)[j]'(by simpa [termTs] using hlt) = termL ts[j] := by simp [termTs]
        rw [h3, ← HTK.out]
      rw [h1, h2, ← HSS.out, hsW]
      exact HO'.out
    · obtain rfl : j = ts.length := by omega
      obtain ⟨p3, c3, hv3, hat3⟩ := own_strs (l := termTs ts) (by
        have h := HO.out
        rwa [show (termTs ts).take ts.length = termTs ts by rw [List.take_of_length_le (by simp [termTs])]] at h) (by simp [termTs])
      have hlen : (termTs ts).length = ts.length := by simp [termTs]
      injection hv3 with e1 e2 e3
      clear e2
      subst e1 e3
      have hc := fun w' h => rCols p (termTs ts) pn cn w' h (by have := HL.out; unfold atomL at this; omega)
      rw [hlen] at hc
      have HC := Lib.hid hc; clear hc hlen
      have HAT := Lib.hid hat3; clear hat3
      go_wp2_with fail
      refine (HC.out _ HAT.out).mono ?_
      rintro e w1 ⟨rfl, rfl⟩
      clear x0 x1
      go_wp2_with fail
      go_ret
      exact ⟨rfl, HBW.out.trans (Hb.out.mono (by omega))⟩
theorem ret_cat {b : Bool} {l : List UInt8} {s : ByteArray} (hb : b = true) (hs : bl s = l) : Ending.returned (.tuple #[.string s, .int .i64 0]) = .returned (.tuple #[.string ⟨(txt b l).toArray⟩, .int .i64 (okCode b 40)]) := by
  rw [hb, show txt true l = l from rfl, ← hs, str_eta]
  rfl
end Go.Proofs.YtdgbenadoaecoaaGreatDoor
