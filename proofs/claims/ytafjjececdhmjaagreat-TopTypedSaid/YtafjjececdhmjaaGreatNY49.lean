/- The reference's replaced: a rule with its variables replaced. Conditions: the pairs and the rule lie in memory as they are told; beside a variable a term bears no value; the rule's lists are short. -/
import Derived.Test.YtafjjececdhmjaaGreatNKo
namespace Go.Proofs.YtafjjececdhmjaaGreat
open Go.RowKit

theorem infoAg : (Tryz.prog.info? 99).map (fun i => (i.zero, i.size, i.bytes)) = some (some (.agg #[.int .i8 0, .string ⟨#[]⟩, .int .i8 0, .int .i64 0, .string ⟨#[]⟩]), 5, 56) := by kernel_rfl
theorem infoLit : (Tryz.prog.info? 114).map (fun i => (i.zero, i.size, i.bytes)) = some (some (.agg #[.int .i8 0, .string ⟨#[]⟩, .slice none 0 0, .int .i8 0, .int .i8 0, .string ⟨#[]⟩, .int .i8 0, .int .i64 0, .string ⟨#[]⟩, .slice none 0 0, .int .i8 0, .string ⟨#[]⟩, .int .i8 0, .int .i64 0, .string ⟨#[]⟩, .slice none 0 0]), 16, 216) := by kernel_rfl
theorem threeC {w : World} {b : Nat} {x0 x1 x2 : Value} {t : TypeId} {fz : Nat × Nat} (h : w.heap[b]? = some (.cells #[x0, x1, x2] t fz)) : w.cell? ⟨b, 0, none⟩ = some x0 ∧ w.cell? ⟨b, 1, none⟩ = some x1 ∧ w.cell? ⟨b, 2, none⟩ = some x2 :=
  ⟨by rw [Lib.cell_of_heap h]; rfl, by rw [Lib.cell_of_heap h]; rfl, by rw [Lib.cell_of_heap h]; rfl⟩
set_option maxRecDepth 100000 in
set_option maxHeartbeats 8000000 in
theorem rReplaced (l : List (ByteArray × ByteArray)) (p : Option Addr) (c : Nat) (hn : l.length ≤ 10000) (d : Nat) (pr : ByteArray) (hp : Option Addr) (hc : Nat) (hs : List Ag) (bp : Option Addr) (bc : Nat) (bs : List (Lt d)) (w : World)
    (hl : PrsAt w p l) (hh : AgsAt w hp hs) (hb : LtsAt w d bp bs) (hpr : PutR hs bs) :
    Calls Tryz.prog 29 #[.slice p l.length c, .agg #[.string pr, .slice hp hs.length hc, .slice bp bs.length bc]] w (RpPost (rhoP l) pr hs bs w) := by
  obtain ⟨i0, hi, hzz⟩ := Option.map_eq_some_iff.1 infoAg
  simp only [Prod.mk.injEq] at hzz
  obtain ⟨hz0, hz1, hz2⟩ := hzz
  have HI := Lib.hid hi; clear hi
  have HZ0 := Lib.hid hz0; clear hz0
  have HZ1 := Lib.hid hz1; clear hz1
  have HZ2 := Lib.hid hz2; clear hz2
  obtain ⟨i1, hi, hzz⟩ := Option.map_eq_some_iff.1 infoLit
  simp only [Prod.mk.injEq] at hzz
  obtain ⟨hz0, hz1, hz2⟩ := hzz
  have HJ := Lib.hid hi; clear hi
  have HJ0 := Lib.hid hz0; clear hz0
  have HJ1 := Lib.hid hz1; clear hz1
  have HJ2 := Lib.hid hz2; clear hz2
  have hl24 := hpr.hn
  have hl16 := hpr.bn
  have HPR := Lib.hid hpr; clear hpr
  have HL := Lib.hid hl; clear hl
  have HH := Lib.hid hh; clear hh
  have HBS := Lib.hid hb; clear hb
  obtain ⟨R, hR⟩ : ∃ R : Ending → World → Prop, R = RpPost (rhoP l) pr hs bs w := ⟨_, rfl⟩
  rw [← hR]
  have HEND := Lib.hid (show ∀ r w', RpPost (rhoP l) pr hs bs w r w' → R r w' by rw [hR]; exact fun _ _ h => h)
  clear hR
  obtain ⟨V, hV⟩ : ∃ V, V = (w.alloc (.cells #[.string pr, .slice hp hs.length hc, .slice bp bs.length bc] 41)).alloc (.cells #[.string ⟨#[]⟩, .slice none 0 0, .slice none 0 0] 41) := ⟨_, rfl⟩
  have HBV := Lib.hid (show Below w.heap.size w V by rw [hV]; exact (below_alloc _ _).trans ((below_alloc _ _).mono (by simp)))
  have hsV : V.heap.size = w.heap.size + 1 + 1 := by rw [hV]; simp
  have HB1 := Lib.hid (show V.heap[w.heap.size]? = some (.cells #[.string pr, .slice hp hs.length hc, .slice bp bs.length bc] 41 (0, 0)) by
    have h1 := heap_alloc_new w (.cells #[.string pr, .slice hp hs.length hc, .slice bp bs.length bc] 41)
    rw [hV]
    exact ((below_alloc (w.alloc _) _).block _ (by simp)).trans h1)
  have HB2 := Lib.hid (show V.heap[w.heap.size + 1]? = some (.cells #[.string ⟨#[]⟩, .slice none 0 0, .slice none 0 0] 41 (0, 0)) by rw [hV]; simpa using heap_alloc_new (w.alloc _) _)
  obtain ⟨W, hW⟩ : ∃ W, W = V.alloc (.cells #[.string pr, .slice none 0 0, .slice none 0 0] 41) := ⟨_, rfl⟩
  have HRW := Lib.hid (show HdR (rhoP l) pr hs V (w.heap.size + 1 + 1) 0 (.slice none 0 0) W by
    rw [hW, ← hsV]
    exact ⟨heap_alloc_new V _, ownR_nil _ _ _ _, below_alloc _ _⟩)
  go_enter Tryz.func29, Tryz.ntmps29
  go_wp2_with fail
  rw [← hV]
  rw [← hW]
  clear hV hW
  go_loopw [6] (fun i wr => ∃ (j : Nat) (v : Value), j ≤ hs.length ∧ i = .int .i64 j ∧ HdR (rhoP l) pr hs V (w.heap.size + 1 + 1) j v wr) (fun i _ => hs.length - (intOf i).toNat)
  case atStart => exact ⟨0, _, by omega, rfl, HRW.out⟩
  case round =>
    clear HRW
    obtain ⟨j, v, hj, rfl, hr⟩ := hrel
    have HR := Lib.hid hr; clear hr
    rename World => wr
    have hsz := HR.out.u_.size
    obtain ⟨x0, x1, x2⟩ := threeC ((HR.out.u_.block w.heap.size (by omega)).trans HB1.out)
    obtain ⟨y0, y1, y2⟩ := threeC HR.out.b_
    obtain ⟨pv, cv, rfl⟩ := ownR_slice HR.out.r_
    have f1 : wr.frozen? ⟨w.heap.size + 1 + 1, 1, none⟩ = false := Lib.frozen_of_heap HR.out.b_ 1
    by_cases hlt : j < hs.length
    · rcases HH.out with hx | ⟨a, o, rfl, hta, hcc⟩
      · omega
      · have Hwr := Lib.hid (HBV.out.trans (HR.out.u_.mono (by omega)))
        obtain ⟨kg, hck⟩ := hcc j hlt
        have k9 := (Hwr.out.cell (p := ⟨a, o + j * 5, none⟩) hta).trans kg
        have hck := hck.up Hwr.out hta
        clear hcc kg
        have HPUT := Lib.hid fun V' (hV' : Below wr.heap.size wr V') => rPut l p c hs[j].t V' (HL.out.up (Hwr.out.trans (hV'.mono Hwr.out.size))) (HPR.out.h_ _ (List.getElem_mem hlt)) hn
        have HNX := Lib.hid (fun (w2 : World) (v' : Value) hb hown => HR.out.next (w2 := w2) (v' := v') hlt hb hown)
        obtain ⟨y, hy⟩ : ∃ y, y = hs[j] := ⟨_, rfl⟩
        rw [← hy] at hck HPUT HNX k9
        obtain ⟨yg, ⟨yv, ⟨yk, yn, ys⟩⟩⟩ := y
        clear hy
        obtain ⟨u, hu⟩ : ∃ u, u = rnTm (rhoP l) ⟨yv, ⟨yk, yn, ys⟩⟩ := ⟨_, rfl⟩
        have HNX := Lib.hid (show ∀ (w2 : World) (v' : Value), Below (w.heap.size + 1 + 1 + 1) wr w2 → w2.ownsRow (w.heap.size + 1 + 1 + 1) 99 5 v' (j + 1) (((hs.take j).map (rnAg (rhoP l))).flatMap Ag.cells ++ Ag.cells ⟨yg, u⟩) → HdR (rhoP l) pr hs V (w.heap.size + 1 + 1) (j + 1) v' (w2.setCell ⟨w.heap.size + 1 + 1, 1, none⟩ v') by
          rw [hu]; exact HNX.out)
        change Hid (∀ V' : World, Below wr.heap.size wr V' → Calls _ _ #[_, Tm.agg ⟨yv, ⟨yk, yn, ys⟩⟩] V' _) at HPUT
        simp only [← hu] at HPUT
        clear hu
        obtain ⟨uv, ⟨uk, un, us⟩⟩ := u
        obtain ⟨k0, k1, k2, k3⟩ := hck
        simp only at k0 k1 k2 k3 k9
        have HPUT := Lib.hid (show ∀ V' : World, Below wr.heap.size wr V' → Calls Tryz.prog 57 #[.slice p l.length c, .agg #[.string yv, .int .i8 yk, .int .i64 yn, .string ys]] V' fun e w' => e = .returned (.agg #[.string uv, .int .i8 uk, .int .i64 un, .string us]) ∧ Below V'.heap.size V' w' from HPUT.out)
        have hk0 : (0 : Int) ≤ (j : Int) := by omega
        have hki : (j : Int) < (hs.length : Int) := by omega
        have hb5 : w.heap.size + 1 + 1 < wr.heap.size := (Array.getElem?_eq_some_iff.1 HR.out.b_).1
        have hb3 : w.heap.size < wr.heap.size := by omega
        have hba : a < wr.heap.size := by omega
        have HS := Lib.hid (show ∀ w', Below (w.heap.size + 1 + 1) wr w' → w'.cell? ⟨w.heap.size, 1, none⟩ = some (.slice (some ⟨a, o, none⟩) hs.length hc) ∧ w'.cell? ⟨a, o + j * 5, none⟩ = some (.int .i8 yg) ∧ w'.cell? ⟨a, o + j * 5 + 1, none⟩ = some (.string yv) ∧ w'.cell? ⟨a, o + j * 5 + 1 + 1, none⟩ = some (.int .i8 yk) ∧ w'.cell? ⟨a, o + j * 5 + 1 + 2, none⟩ = some (.int .i64 yn) ∧ w'.cell? ⟨a, o + j * 5 + 1 + 3, none⟩ = some (.string ys) from fun w' h =>
          have hx : a < w.heap.size + 1 + 1 := by omega
          ⟨(h.cell (p := ⟨w.heap.size, 1, none⟩) (by show w.heap.size < w.heap.size + 1 + 1; omega)).trans x1, (h.cell (p := ⟨a, o + j * 5, none⟩) hx).trans k9, (h.cell (p := ⟨a, o + j * 5 + 1, none⟩) hx).trans k0, (h.cell (p := ⟨a, o + j * 5 + 1 + 1, none⟩) hx).trans k1, (h.cell (p := ⟨a, o + j * 5 + 1 + 2, none⟩) hx).trans k2, (h.cell (p := ⟨a, o + j * 5 + 1 + 3, none⟩) hx).trans k3⟩)
        go_wp2_with fail
        have y1a := y1
        have f1a := f1
        have Hb := Lib.hid ((Below.refl wr.heap.size wr).drew)
        refine wp_region_noPanic ?_
        refine wp_region_held_drew (S := (fun w' => w'.cell? ⟨w.heap.size, 1, none⟩ = some (.slice (some ⟨a, o, none⟩) hs.length hc) ∧ w'.cell? ⟨a, o + j * 5, none⟩ = some (.int .i8 yg) ∧ w'.cell? ⟨a, o + j * 5 + 1, none⟩ = some (.string yv) ∧ w'.cell? ⟨a, o + j * 5 + 1 + 1, none⟩ = some (.int .i8 yk) ∧ w'.cell? ⟨a, o + j * 5 + 1 + 2, none⟩ = some (.int .i64 yn) ∧ w'.cell? ⟨a, o + j * 5 + 1 + 3, none⟩ = some (.string ys))) (by kernel_rfl) ?_ (fun hHeld => ?_)
        · (try dsimp only)
          (refine HS.out _ ?_
           repeat (with_reducible first | exact Hb2.out.mono (Nat.le_succ _) | exact Hb.out.mono (Nat.le_of_lt hb5) | exact Below.refl _ _ | refine Below.drew ?_ | refine Below.setCell ?_ ?_ _ | refine Below.alloc ?_ ?_ _)
           all_goals (first | (with_reducible exact Nat.le_refl _) | (have := Hb.out.size; omega)))
        refine wpAnyH_take (i := 0) (oi := _) (v := ?_) (by simp only [List.getElem?_toArray, List.getElem?_cons_zero]; rfl) (by kernel_rfl) (by kernel_rfl) (by kernel_rfl) (fun _ _ _ h => h) (Or.inl ⟨by rfl, ?_⟩) (by assumption) ?_
        rotate_left
        · (intro w' hSw; (try dsimp only at hSw); go_simp; (try with_reducible rfl))
        (try simp only [Act.put, List.setIfInBounds_toArray, List.set_cons_zero, List.set_cons_succ])
        refine wpAnyH_take (i := 2) (oi := _) (v := ?_) (by simp only [List.getElem?_toArray, List.getElem?_cons_succ, List.getElem?_cons_zero]; rfl) (by kernel_rfl) (by kernel_rfl) (by kernel_rfl) (fun _ _ _ h => h) (Or.inl ⟨by rfl, ?_⟩) (by assumption) ?_
        rotate_left
        · (intro w' hSw; (try dsimp only at hSw); go_simp; (try with_reducible rfl))
        (try simp only [Act.put, List.setIfInBounds_toArray, List.set_cons_zero, List.set_cons_succ])
        refine wpAnyH_take (i := 3) (oi := _) (v := ?_) (by simp only [List.getElem?_toArray, List.getElem?_cons_succ, List.getElem?_cons_zero]; rfl) (by kernel_rfl) (by kernel_rfl) (by kernel_rfl) (fun _ _ _ h => h) (Or.inl ⟨by rfl, ?_⟩) (by assumption) ?_
        rotate_left
        · (intro w' hSw; (try dsimp only at hSw); go_simp; (try with_reducible rfl))
        (try simp only [Act.put, List.setIfInBounds_toArray, List.set_cons_zero, List.set_cons_succ])
        refine wpAnyH_take (i := 4) (oi := _) (v := ?_) (by simp only [List.getElem?_toArray, List.getElem?_cons_succ, List.getElem?_cons_zero]; rfl) (by kernel_rfl) (by kernel_rfl) (by kernel_rfl) (fun _ _ _ h => h) (Or.inl ⟨by rfl, ?_⟩) (by assumption) ?_
        rotate_left
        · (intro w' hSw; (try dsimp only at hSw); go_simp; (try with_reducible rfl))
        (try simp only [Act.put, List.setIfInBounds_toArray, List.set_cons_zero, List.set_cons_succ])
        refine wpAnyH_take (i := 5) (oi := _) (v := ?_) (by simp only [List.getElem?_toArray, List.getElem?_cons_succ, List.getElem?_cons_zero]; rfl) (by kernel_rfl) (by kernel_rfl) (by kernel_rfl) (fun _ _ _ h => h) (Or.inl ⟨by rfl, ?_⟩) (by assumption) ?_
        rotate_left
        · (intro w' hSw; (try dsimp only at hSw); go_simp; (try with_reducible rfl))
        (try simp only [Act.put, List.setIfInBounds_toArray, List.set_cons_zero, List.set_cons_succ])
        refine wpAnyH_take (i := 6) (oi := _) (v := ?_) (by simp only [List.getElem?_toArray, List.getElem?_cons_succ, List.getElem?_cons_zero]; rfl) (by kernel_rfl) (by kernel_rfl) (by kernel_rfl) (fun _ _ _ h => h) (Or.inl ⟨by rfl, ?_⟩) (by assumption) ?_
        rotate_left
        · (intro w' hSw; (try dsimp only at hSw); go_simp; (try with_reducible rfl))
        (try simp only [Act.put, List.setIfInBounds_toArray, List.set_cons_zero, List.set_cons_succ])
        refine wpAnyH_take (i := 7) (oi := _) (v := ?_) (by simp only [List.getElem?_toArray, List.getElem?_cons_succ, List.getElem?_cons_zero]; rfl) (by kernel_rfl) (by kernel_rfl) (by kernel_rfl) (fun _ _ _ h => h) (Or.inl ⟨by rfl, ?_⟩) (by assumption) ?_
        rotate_left
        · (intro w' hSw; (try dsimp only at hSw); go_simp; (try with_reducible rfl))
        (try simp only [Act.put, List.setIfInBounds_toArray, List.set_cons_zero, List.set_cons_succ])
        refine wpAnyH_take (i := 8) (oi := _) (v := ?_) (by simp only [List.getElem?_toArray, List.getElem?_cons_succ, List.getElem?_cons_zero]; rfl) (by kernel_rfl) (by kernel_rfl) (by kernel_rfl) (fun _ _ _ h => h) (Or.inl ⟨by rfl, ?_⟩) (by assumption) ?_
        rotate_left
        · (intro w' hSw; (try dsimp only at hSw); go_simp; (try with_reducible rfl))
        (try simp only [Act.put, List.setIfInBounds_toArray, List.set_cons_zero, List.set_cons_succ])
        refine wpAnyH_take (i := 9) (oi := _) (v := ?_) (by simp only [List.getElem?_toArray, List.getElem?_cons_succ, List.getElem?_cons_zero]; rfl) (by kernel_rfl) (by kernel_rfl) (by kernel_rfl) (fun _ _ _ h => h) (Or.inl ⟨by rfl, ?_⟩) (by assumption) ?_
        rotate_left
        · (intro w' hSw; (try dsimp only at hSw); go_simp; (try with_reducible rfl))
        (try simp only [Act.put, List.setIfInBounds_toArray, List.set_cons_zero, List.set_cons_succ])
        refine wpAnyH_take (i := 10) (oi := _) (v := ?_) (by simp only [List.getElem?_toArray, List.getElem?_cons_succ, List.getElem?_cons_zero]; rfl) (by kernel_rfl) (by kernel_rfl) (by kernel_rfl) (fun _ _ _ h => h) (Or.inl ⟨by rfl, ?_⟩) (by assumption) ?_
        rotate_left
        · (intro w' hSw; (try dsimp only at hSw); go_simp; (try with_reducible rfl))
        (try simp only [Act.put, List.setIfInBounds_toArray, List.set_cons_zero, List.set_cons_succ])
        refine wpAnyH_take (i := 11) (oi := _) (v := ?_) (by simp only [List.getElem?_toArray, List.getElem?_cons_succ, List.getElem?_cons_zero]; rfl) (by kernel_rfl) (by kernel_rfl) (by kernel_rfl) (fun _ _ _ h => h) (Or.inl ⟨by rfl, ?_⟩) (by assumption) ?_
        rotate_left
        · (intro w' hSw; (try dsimp only at hSw); go_simp; (try with_reducible rfl))
        (try simp only [Act.put, List.setIfInBounds_toArray, List.set_cons_zero, List.set_cons_succ])
        refine wpAnyH_take (i := 12) (oi := _) (v := ?_) (by simp only [List.getElem?_toArray, List.getElem?_cons_succ, List.getElem?_cons_zero]; rfl) (by kernel_rfl) (by kernel_rfl) (by kernel_rfl) (fun _ _ _ h => h) (Or.inl ⟨by rfl, ?_⟩) (by assumption) ?_
        rotate_left
        · (intro w' hSw; (try dsimp only at hSw); go_simp; (try with_reducible rfl))
        (try simp only [Act.put, List.setIfInBounds_toArray, List.set_cons_zero, List.set_cons_succ])
        refine wpAnyH_take (i := 13) (oi := _) (v := ?_) (by simp only [List.getElem?_toArray, List.getElem?_cons_succ, List.getElem?_cons_zero]; rfl) (by kernel_rfl) (by kernel_rfl) (by kernel_rfl) (fun _ _ _ h => h) (Or.inl ⟨by rfl, ?_⟩) (by assumption) ?_
        rotate_left
        · (intro w' hSw; (try dsimp only at hSw); go_simp; (try with_reducible rfl))
        (try simp only [Act.put, List.setIfInBounds_toArray, List.set_cons_zero, List.set_cons_succ])
        refine wpAnyH_take (i := 14) (oi := _) (v := ?_) (by simp only [List.getElem?_toArray, List.getElem?_cons_succ, List.getElem?_cons_zero]; rfl) (by kernel_rfl) (by kernel_rfl) (by kernel_rfl) (fun _ _ _ h => h) (Or.inl ⟨by rfl, ?_⟩) (by assumption) ?_
        rotate_left
        · (intro w' hSw; (try dsimp only at hSw); go_simp; (try with_reducible rfl))
        (try simp only [Act.put, List.setIfInBounds_toArray, List.set_cons_zero, List.set_cons_succ])
        refine wpAnyH_ready (rs := [1, 15]) (by kernel_rfl) (by simp) ?_
        refine AllReadyH.cons (o := _) (by simp only [List.getElem?_toArray, List.getElem?_cons_succ, List.getElem?_cons_zero]; rfl) (fun K hK => ?_) ?_
        · go_simp
          refine hK.out _ _ ?_ (fun hHeld => ?_)
          · (try dsimp only)
            (refine HS.out _ ?_
             repeat (with_reducible first | exact Hb2.out.mono (Nat.le_succ _) | exact Hb.out.mono (Nat.le_of_lt hb5) | exact Below.refl _ _ | refine Below.drew ?_ | refine Below.setCell ?_ ?_ _ | refine Below.alloc ?_ ?_ _)
             all_goals (first | (with_reducible exact Nat.le_refl _) | (have := Hb.out.size; omega)))
          clear hK K
          (try simp only [Act.put, List.setIfInBounds_toArray, List.set_cons_zero, List.set_cons_succ])
          refine wpAnyH_ready (rs := [15]) (by kernel_rfl) (by simp) ?_
          refine AllReadyH.cons (o := _) (by simp only [List.getElem?_toArray, List.getElem?_cons_succ, List.getElem?_cons_zero]; rfl) (fun K hK => ?_) ?_
          · go_simp
            go_at_call 57
            refine (HPUT.out _ ?_).mono ?_
            · with_reducible exact Hb.out
            rintro r w1 ⟨rfl, hb1⟩
            have Hb := Lib.hid (show Below wr.heap.size wr w1 from ⟨hb1.os, hb1.tape, hb1.output, hb1.size, hb1.block⟩)
            clear hb1
            have HO := Lib.hid (ownR_up HR.out.r_ Hb.out)
            have HS1 := Lib.hid Hb.out.size
            have y1 := (Hb.out.cell (p := ⟨w.heap.size + 1 + 1, 1, none⟩) hb5).trans y1
            have f1 := (Hb.out.frozen (p := ⟨w.heap.size + 1 + 1, 1, none⟩) hb5).trans f1
            have nn : ∀ (cs : Array Value) (t : TypeId) (f : Nat × Nat), (w1.alloc (.cells cs t f)).cell? ⟨w.heap.size + 1 + 1, 1, none⟩ = some (.slice pv j cv) := fun cs t f => ((below_alloc w1 (.cells cs t f)).cell (p := ⟨w.heap.size + 1 + 1, 1, none⟩) (Nat.lt_of_lt_of_le hb5 HS1.out)).trans y1
            dsimp only
            (try go_wp2_with fail)
            refine hK.out _ _ ?_ (fun hHeld => ?_)
            · (try dsimp only)
              (refine HS.out _ ?_
               repeat (with_reducible first | exact Hb2.out.mono (Nat.le_succ _) | exact Hb.out.mono (Nat.le_of_lt hb5) | exact Below.refl _ _ | refine Below.drew ?_ | refine Below.setCell ?_ ?_ _ | refine Below.alloc ?_ ?_ _)
               all_goals (first | (with_reducible exact Nat.le_refl _) | (have := Hb.out.size; omega)))
            clear hK K
            (try simp only [Act.put, List.setIfInBounds_toArray, List.set_cons_zero, List.set_cons_succ])
            refine wpAnyH_take (i := 16) (oi := _) (v := ?_) (by simp only [List.getElem?_toArray, List.getElem?_cons_succ, List.getElem?_cons_zero]; rfl) (by kernel_rfl) (by kernel_rfl) (by kernel_rfl) (fun _ _ _ h => h) (Or.inl ⟨by rfl, ?_⟩) (by assumption) ?_
            rotate_left
            · (intro w' hSw; (try dsimp only at hSw); go_simp; (try with_reducible rfl))
            (try simp only [Act.put, List.setIfInBounds_toArray, List.set_cons_zero, List.set_cons_succ])
            refine wpAnyH_ready (rs := [17]) (by kernel_rfl) (by simp) ?_
            refine AllReadyH.cons (o := _) (by simp only [List.getElem?_toArray, List.getElem?_cons_succ, List.getElem?_cons_zero]; rfl) (fun K hK => ?_) ?_
            · go_simp
              refine hK.out _ _ ?_ (fun hHeld => ?_)
              · (try dsimp only)
                (refine HS.out _ ?_
                 repeat (with_reducible first | exact Hb2.out.mono (Nat.le_succ _) | exact Hb.out.mono (Nat.le_of_lt hb5) | exact Below.refl _ _ | refine Below.drew ?_ | refine Below.setCell ?_ ?_ _ | refine Below.alloc ?_ ?_ _)
                 all_goals (first | (with_reducible exact Nat.le_refl _) | (have := Hb.out.size; omega)))
              clear hK K
              (try simp only [Act.put, List.setIfInBounds_toArray, List.set_cons_zero, List.set_cons_succ])
              refine wpAnyH_ready (rs := [18]) (by kernel_rfl) (by simp) ?_
              refine AllReadyH.cons (o := _) (by simp only [List.getElem?_toArray, List.getElem?_cons_succ, List.getElem?_cons_zero]; rfl) (fun K hK => ?_) ?_
              · refine step_append_lies _ (by rfl) _ _ _ (by rfl) (w.heap.size + 1 + 1 + 1) 99 i0 _ 5 56 Tryz.underlying38 HI.out HZ0.out HZ1.out HZ2.out rfl (by decide) (.slice pv j cv) j _ (by rfl) (ownR_alloc HO.out _) ⟨w1.heap.size, 0, none⟩ 1 1 [.int .i8 yg, .string uv, .int .i8 uk, .int .i64 un, .string us] (by rfl) (by rfl) (World.news_of_block (cs := #[.int .i8 yg, .string uv, .int .i8 uk, .int .i64 un, .string us]) (t := 99) (fr := (0, 0)) (heap_alloc_new w1 _)) (by simp [Value.oneCell']) (by omega) (by unfold maxLen; omega) (by omega) (by have := HS1.out; simp; omega) (w1.heap.size + 1) (by simp) ?_
                intro g cap w2 hown2 hgrow hat hlt2
                have Hb2 := Lib.hid (show Below (w.heap.size + 1 + 1 + 1) wr w2 from ap_below Hb.out (Nat.succ_le_of_lt hb5) HO.out hgrow)
                have HF := Lib.hid (HNX.out w2 _ Hb2.out hown2)
                have y1 := (Hb2.out.cell (p := ⟨w.heap.size + 1 + 1, 1, none⟩) (Nat.lt_succ_self _)).trans y1a
                have f1 := (Hb2.out.frozen (p := ⟨w.heap.size + 1 + 1, 1, none⟩) (Nat.lt_succ_self _)).trans f1a
                clear hat hgrow hown2
                refine hK.out _ _ ?_ (fun hHeld => ?_)
                · (try dsimp only)
                  (refine HS.out _ ?_
                   repeat (with_reducible first | exact Hb2.out.mono (Nat.le_succ _) | exact Hb.out.mono (Nat.le_of_lt hb5) | exact Below.refl _ _ | refine Below.drew ?_ | refine Below.setCell ?_ ?_ _ | refine Below.alloc ?_ ?_ _)
                   all_goals (first | (with_reducible exact Nat.le_refl _) | (have := Hb.out.size; omega)))
                clear hK K
                (try simp only [Act.put, List.setIfInBounds_toArray, List.set_cons_zero, List.set_cons_succ])
                refine wpAnyH_take (i := 19) (oi := _) (v := ?_) (by simp only [List.getElem?_toArray, List.getElem?_cons_succ, List.getElem?_cons_zero]; rfl) (by kernel_rfl) (by kernel_rfl) (by kernel_rfl) (fun _ _ _ h => h) (Or.inl ⟨by rfl, ?_⟩) (by assumption) ?_
                rotate_left
                · (intro w' hSw; (try dsimp only at hSw); go_simp; (try with_reducible rfl))
                (try simp only [Act.put, List.setIfInBounds_toArray, List.set_cons_zero, List.set_cons_succ])
                refine wpAnyH_ready (rs := [20]) (by kernel_rfl) (by simp) ?_
                refine AllReadyH.cons (o := _) (by simp only [List.getElem?_toArray, List.getElem?_cons_succ, List.getElem?_cons_zero]; rfl) (fun K hK => ?_) ?_
                · go_simp
                  refine hK.out _ _ ?_ (fun hHeld => ?_)
                  · (try dsimp only)
                    (refine HS.out _ ?_
                     repeat (with_reducible first | exact Hb2.out.mono (Nat.le_succ _) | exact Hb.out.mono (Nat.le_of_lt hb5) | exact Below.refl _ _ | refine Below.drew ?_ | refine Below.setCell ?_ ?_ _ | refine Below.alloc ?_ ?_ _)
                     all_goals (first | (with_reducible exact Nat.le_refl _) | (have := Hb.out.size; omega)))
                  clear hK K
                  (try simp only [Act.put, List.setIfInBounds_toArray, List.set_cons_zero, List.set_cons_succ])
                  refine wpAnyH_done (by kernel_rfl) ?_ _
                  refine NoPanic.normal ?_
                  clear x0 x1 x2 y0 y1 y2 f1 y1a f1a k0 k1 k2 k3 k9 nn
                  go_wp2_with fail
                  go_roundw
                  case rel => exact ⟨j + 1, _, by omega, by go_num, HF.out⟩
                  case measure => simp [intOf]; omega
                exact AllReadyH.nil
              exact AllReadyH.nil
            exact AllReadyH.nil
          exact AllReadyH.nil
        refine AllReadyH.cons (o := _) (by simp only [List.getElem?_toArray, List.getElem?_cons_succ, List.getElem?_cons_zero]; rfl) (fun K hK => ?_) ?_
        · go_simp
          go_at_call 57
          refine (HPUT.out _ ?_).mono ?_
          · with_reducible exact Hb.out
          rintro r w1 ⟨rfl, hb1⟩
          have Hb := Lib.hid (show Below wr.heap.size wr w1 from ⟨hb1.os, hb1.tape, hb1.output, hb1.size, hb1.block⟩)
          clear hb1
          have HO := Lib.hid (ownR_up HR.out.r_ Hb.out)
          have HS1 := Lib.hid Hb.out.size
          have y1 := (Hb.out.cell (p := ⟨w.heap.size + 1 + 1, 1, none⟩) hb5).trans y1
          have f1 := (Hb.out.frozen (p := ⟨w.heap.size + 1 + 1, 1, none⟩) hb5).trans f1
          have nn : ∀ (cs : Array Value) (t : TypeId) (f : Nat × Nat), (w1.alloc (.cells cs t f)).cell? ⟨w.heap.size + 1 + 1, 1, none⟩ = some (.slice pv j cv) := fun cs t f => ((below_alloc w1 (.cells cs t f)).cell (p := ⟨w.heap.size + 1 + 1, 1, none⟩) (Nat.lt_of_lt_of_le hb5 HS1.out)).trans y1
          dsimp only
          (try go_wp2_with fail)
          refine hK.out _ _ ?_ (fun hHeld => ?_)
          · (try dsimp only)
            (refine HS.out _ ?_
             repeat (with_reducible first | exact Hb2.out.mono (Nat.le_succ _) | exact Hb.out.mono (Nat.le_of_lt hb5) | exact Below.refl _ _ | refine Below.drew ?_ | refine Below.setCell ?_ ?_ _ | refine Below.alloc ?_ ?_ _)
             all_goals (first | (with_reducible exact Nat.le_refl _) | (have := Hb.out.size; omega)))
          clear hK K
          (try simp only [Act.put, List.setIfInBounds_toArray, List.set_cons_zero, List.set_cons_succ])
          refine wpAnyH_take (i := 16) (oi := _) (v := ?_) (by simp only [List.getElem?_toArray, List.getElem?_cons_succ, List.getElem?_cons_zero]; rfl) (by kernel_rfl) (by kernel_rfl) (by kernel_rfl) (fun _ _ _ h => h) (Or.inl ⟨by rfl, ?_⟩) (by assumption) ?_
          rotate_left
          · (intro w' hSw; (try dsimp only at hSw); go_simp; (try with_reducible rfl))
          (try simp only [Act.put, List.setIfInBounds_toArray, List.set_cons_zero, List.set_cons_succ])
          refine wpAnyH_ready (rs := [1, 17]) (by kernel_rfl) (by simp) ?_
          refine AllReadyH.cons (o := _) (by simp only [List.getElem?_toArray, List.getElem?_cons_succ, List.getElem?_cons_zero]; rfl) (fun K hK => ?_) ?_
          · go_simp
            refine hK.out _ _ ?_ (fun hHeld => ?_)
            · (try dsimp only)
              (refine HS.out _ ?_
               repeat (with_reducible first | exact Hb2.out.mono (Nat.le_succ _) | exact Hb.out.mono (Nat.le_of_lt hb5) | exact Below.refl _ _ | refine Below.drew ?_ | refine Below.setCell ?_ ?_ _ | refine Below.alloc ?_ ?_ _)
               all_goals (first | (with_reducible exact Nat.le_refl _) | (have := Hb.out.size; omega)))
            clear hK K
            (try simp only [Act.put, List.setIfInBounds_toArray, List.set_cons_zero, List.set_cons_succ])
            refine wpAnyH_ready (rs := [17]) (by kernel_rfl) (by simp) ?_
            refine AllReadyH.cons (o := _) (by simp only [List.getElem?_toArray, List.getElem?_cons_succ, List.getElem?_cons_zero]; rfl) (fun K hK => ?_) ?_
            · go_simp
              refine hK.out _ _ ?_ (fun hHeld => ?_)
              · (try dsimp only)
                (refine HS.out _ ?_
                 repeat (with_reducible first | exact Hb2.out.mono (Nat.le_succ _) | exact Hb.out.mono (Nat.le_of_lt hb5) | exact Below.refl _ _ | refine Below.drew ?_ | refine Below.setCell ?_ ?_ _ | refine Below.alloc ?_ ?_ _)
                 all_goals (first | (with_reducible exact Nat.le_refl _) | (have := Hb.out.size; omega)))
              clear hK K
              (try simp only [Act.put, List.setIfInBounds_toArray, List.set_cons_zero, List.set_cons_succ])
              refine wpAnyH_ready (rs := [18]) (by kernel_rfl) (by simp) ?_
              refine AllReadyH.cons (o := _) (by simp only [List.getElem?_toArray, List.getElem?_cons_succ, List.getElem?_cons_zero]; rfl) (fun K hK => ?_) ?_
              · refine step_append_lies _ (by rfl) _ _ _ (by rfl) (w.heap.size + 1 + 1 + 1) 99 i0 _ 5 56 Tryz.underlying38 HI.out HZ0.out HZ1.out HZ2.out rfl (by decide) (.slice pv j cv) j _ (by rfl) (ownR_alloc HO.out _) ⟨w1.heap.size, 0, none⟩ 1 1 [.int .i8 yg, .string uv, .int .i8 uk, .int .i64 un, .string us] (by rfl) (by rfl) (World.news_of_block (cs := #[.int .i8 yg, .string uv, .int .i8 uk, .int .i64 un, .string us]) (t := 99) (fr := (0, 0)) (heap_alloc_new w1 _)) (by simp [Value.oneCell']) (by omega) (by unfold maxLen; omega) (by omega) (by have := HS1.out; simp; omega) (w1.heap.size + 1) (by simp) ?_
                intro g cap w2 hown2 hgrow hat hlt2
                have Hb2 := Lib.hid (show Below (w.heap.size + 1 + 1 + 1) wr w2 from ap_below Hb.out (Nat.succ_le_of_lt hb5) HO.out hgrow)
                have HF := Lib.hid (HNX.out w2 _ Hb2.out hown2)
                have y1 := (Hb2.out.cell (p := ⟨w.heap.size + 1 + 1, 1, none⟩) (Nat.lt_succ_self _)).trans y1a
                have f1 := (Hb2.out.frozen (p := ⟨w.heap.size + 1 + 1, 1, none⟩) (Nat.lt_succ_self _)).trans f1a
                clear hat hgrow hown2
                refine hK.out _ _ ?_ (fun hHeld => ?_)
                · (try dsimp only)
                  (refine HS.out _ ?_
                   repeat (with_reducible first | exact Hb2.out.mono (Nat.le_succ _) | exact Hb.out.mono (Nat.le_of_lt hb5) | exact Below.refl _ _ | refine Below.drew ?_ | refine Below.setCell ?_ ?_ _ | refine Below.alloc ?_ ?_ _)
                   all_goals (first | (with_reducible exact Nat.le_refl _) | (have := Hb.out.size; omega)))
                clear hK K
                (try simp only [Act.put, List.setIfInBounds_toArray, List.set_cons_zero, List.set_cons_succ])
                refine wpAnyH_take (i := 19) (oi := _) (v := ?_) (by simp only [List.getElem?_toArray, List.getElem?_cons_succ, List.getElem?_cons_zero]; rfl) (by kernel_rfl) (by kernel_rfl) (by kernel_rfl) (fun _ _ _ h => h) (Or.inl ⟨by rfl, ?_⟩) (by assumption) ?_
                rotate_left
                · (intro w' hSw; (try dsimp only at hSw); go_simp; (try with_reducible rfl))
                (try simp only [Act.put, List.setIfInBounds_toArray, List.set_cons_zero, List.set_cons_succ])
                refine wpAnyH_ready (rs := [20]) (by kernel_rfl) (by simp) ?_
                refine AllReadyH.cons (o := _) (by simp only [List.getElem?_toArray, List.getElem?_cons_succ, List.getElem?_cons_zero]; rfl) (fun K hK => ?_) ?_
                · go_simp
                  refine hK.out _ _ ?_ (fun hHeld => ?_)
                  · (try dsimp only)
                    (refine HS.out _ ?_
                     repeat (with_reducible first | exact Hb2.out.mono (Nat.le_succ _) | exact Hb.out.mono (Nat.le_of_lt hb5) | exact Below.refl _ _ | refine Below.drew ?_ | refine Below.setCell ?_ ?_ _ | refine Below.alloc ?_ ?_ _)
                     all_goals (first | (with_reducible exact Nat.le_refl _) | (have := Hb.out.size; omega)))
                  clear hK K
                  (try simp only [Act.put, List.setIfInBounds_toArray, List.set_cons_zero, List.set_cons_succ])
                  refine wpAnyH_done (by kernel_rfl) ?_ _
                  refine NoPanic.normal ?_
                  clear x0 x1 x2 y0 y1 y2 f1 y1a f1a k0 k1 k2 k3 k9 nn
                  go_wp2_with fail
                  go_roundw
                  case rel => exact ⟨j + 1, _, by omega, by go_num, HF.out⟩
                  case measure => simp [intOf]; omega
                exact AllReadyH.nil
              exact AllReadyH.nil
            exact AllReadyH.nil
          refine AllReadyH.cons (o := _) (by simp only [List.getElem?_toArray, List.getElem?_cons_succ, List.getElem?_cons_zero]; rfl) (fun K hK => ?_) ?_
          · go_simp
            refine hK.out _ _ ?_ (fun hHeld => ?_)
            · (try dsimp only)
              (refine HS.out _ ?_
               repeat (with_reducible first | exact Hb2.out.mono (Nat.le_succ _) | exact Hb.out.mono (Nat.le_of_lt hb5) | exact Below.refl _ _ | refine Below.drew ?_ | refine Below.setCell ?_ ?_ _ | refine Below.alloc ?_ ?_ _)
               all_goals (first | (with_reducible exact Nat.le_refl _) | (have := Hb.out.size; omega)))
            clear hK K
            (try simp only [Act.put, List.setIfInBounds_toArray, List.set_cons_zero, List.set_cons_succ])
            refine wpAnyH_ready (rs := [1]) (by kernel_rfl) (by simp) ?_
            refine AllReadyH.cons (o := _) (by simp only [List.getElem?_toArray, List.getElem?_cons_succ, List.getElem?_cons_zero]; rfl) (fun K hK => ?_) ?_
            · go_simp
              refine hK.out _ _ ?_ (fun hHeld => ?_)
              · (try dsimp only)
                (refine HS.out _ ?_
                 repeat (with_reducible first | exact Hb2.out.mono (Nat.le_succ _) | exact Hb.out.mono (Nat.le_of_lt hb5) | exact Below.refl _ _ | refine Below.drew ?_ | refine Below.setCell ?_ ?_ _ | refine Below.alloc ?_ ?_ _)
                 all_goals (first | (with_reducible exact Nat.le_refl _) | (have := Hb.out.size; omega)))
              clear hK K
              (try simp only [Act.put, List.setIfInBounds_toArray, List.set_cons_zero, List.set_cons_succ])
              refine wpAnyH_ready (rs := [18]) (by kernel_rfl) (by simp) ?_
              refine AllReadyH.cons (o := _) (by simp only [List.getElem?_toArray, List.getElem?_cons_succ, List.getElem?_cons_zero]; rfl) (fun K hK => ?_) ?_
              · refine step_append_lies _ (by rfl) _ _ _ (by rfl) (w.heap.size + 1 + 1 + 1) 99 i0 _ 5 56 Tryz.underlying38 HI.out HZ0.out HZ1.out HZ2.out rfl (by decide) (.slice pv j cv) j _ (by rfl) (ownR_alloc HO.out _) ⟨w1.heap.size, 0, none⟩ 1 1 [.int .i8 yg, .string uv, .int .i8 uk, .int .i64 un, .string us] (by rfl) (by rfl) (World.news_of_block (cs := #[.int .i8 yg, .string uv, .int .i8 uk, .int .i64 un, .string us]) (t := 99) (fr := (0, 0)) (heap_alloc_new w1 _)) (by simp [Value.oneCell']) (by omega) (by unfold maxLen; omega) (by omega) (by have := HS1.out; simp; omega) (w1.heap.size + 1) (by simp) ?_
                intro g cap w2 hown2 hgrow hat hlt2
                have Hb2 := Lib.hid (show Below (w.heap.size + 1 + 1 + 1) wr w2 from ap_below Hb.out (Nat.succ_le_of_lt hb5) HO.out hgrow)
                have HF := Lib.hid (HNX.out w2 _ Hb2.out hown2)
                have y1 := (Hb2.out.cell (p := ⟨w.heap.size + 1 + 1, 1, none⟩) (Nat.lt_succ_self _)).trans y1a
                have f1 := (Hb2.out.frozen (p := ⟨w.heap.size + 1 + 1, 1, none⟩) (Nat.lt_succ_self _)).trans f1a
                clear hat hgrow hown2
                refine hK.out _ _ ?_ (fun hHeld => ?_)
                · (try dsimp only)
                  (refine HS.out _ ?_
                   repeat (with_reducible first | exact Hb2.out.mono (Nat.le_succ _) | exact Hb.out.mono (Nat.le_of_lt hb5) | exact Below.refl _ _ | refine Below.drew ?_ | refine Below.setCell ?_ ?_ _ | refine Below.alloc ?_ ?_ _)
                   all_goals (first | (with_reducible exact Nat.le_refl _) | (have := Hb.out.size; omega)))
                clear hK K
                (try simp only [Act.put, List.setIfInBounds_toArray, List.set_cons_zero, List.set_cons_succ])
                refine wpAnyH_take (i := 19) (oi := _) (v := ?_) (by simp only [List.getElem?_toArray, List.getElem?_cons_succ, List.getElem?_cons_zero]; rfl) (by kernel_rfl) (by kernel_rfl) (by kernel_rfl) (fun _ _ _ h => h) (Or.inl ⟨by rfl, ?_⟩) (by assumption) ?_
                rotate_left
                · (intro w' hSw; (try dsimp only at hSw); go_simp; (try with_reducible rfl))
                (try simp only [Act.put, List.setIfInBounds_toArray, List.set_cons_zero, List.set_cons_succ])
                refine wpAnyH_ready (rs := [20]) (by kernel_rfl) (by simp) ?_
                refine AllReadyH.cons (o := _) (by simp only [List.getElem?_toArray, List.getElem?_cons_succ, List.getElem?_cons_zero]; rfl) (fun K hK => ?_) ?_
                · go_simp
                  refine hK.out _ _ ?_ (fun hHeld => ?_)
                  · (try dsimp only)
                    (refine HS.out _ ?_
                     repeat (with_reducible first | exact Hb2.out.mono (Nat.le_succ _) | exact Hb.out.mono (Nat.le_of_lt hb5) | exact Below.refl _ _ | refine Below.drew ?_ | refine Below.setCell ?_ ?_ _ | refine Below.alloc ?_ ?_ _)
                     all_goals (first | (with_reducible exact Nat.le_refl _) | (have := Hb.out.size; omega)))
                  clear hK K
                  (try simp only [Act.put, List.setIfInBounds_toArray, List.set_cons_zero, List.set_cons_succ])
                  refine wpAnyH_done (by kernel_rfl) ?_ _
                  refine NoPanic.normal ?_
                  clear x0 x1 x2 y0 y1 y2 f1 y1a f1a k0 k1 k2 k3 k9 nn
                  go_wp2_with fail
                  go_roundw
                  case rel => exact ⟨j + 1, _, by omega, by go_num, HF.out⟩
                  case measure => simp [intOf]; omega
                exact AllReadyH.nil
              exact AllReadyH.nil
            exact AllReadyH.nil
          exact AllReadyH.nil
        exact AllReadyH.nil
    · obtain rfl : j = hs.length := by omega
      have HST := Lib.hid (BdR.start (ρ := rhoP l) bs HR.out.b_)
      have hbw := HR.out.u_.size
      go_wp2_with fail
      clear x0 x1 x2 y0 y1 y2 f1
      go_loopw [7] (fun i wm => ∃ (k : Nat) (v : Value), k ≤ bs.length ∧ i = .int .i64 k ∧ BdR (rhoP l) pr (.slice pv hs.length cv) bs wr (w.heap.size + 1 + 1) k v wm) (fun i _ => bs.length - (intOf i).toNat)
      case atStart => exact ⟨0, _, by omega, rfl, HST.out⟩
      case round =>
        clear HST
        obtain ⟨k, v, hk, rfl, hr⟩ := hrel
        have HB := Lib.hid hr; clear hr
        rename World => wm
        have hsm := HB.out.u_.size
        have hbl := HB.out.lt
        have Hwm := Lib.hid (HBV.out.trans ((HR.out.u_.mono (by omega)).trans (HB.out.u_.mono (by omega))))
        obtain ⟨x0, x1, x2⟩ := threeC ((HB.out.u_.block w.heap.size (by omega)).trans ((HR.out.u_.block w.heap.size (by omega)).trans HB1.out))
        obtain ⟨y0, y1, y2⟩ := threeC HB.out.b_
        obtain ⟨L, _, hL, _⟩ := HB.out.ex
        obtain ⟨xs, hxs⟩ : ∃ xs, xs = L.flatMap ltC := ⟨_, rfl⟩
        rw [← hxs] at hL
        clear hxs
        obtain ⟨pw, cw, rfl⟩ := ownR_slice hL
        have HROW := Lib.hid hL; clear hL
        have f2 : wm.frozen? ⟨w.heap.size + 1 + 1, 2, none⟩ = false := Lib.frozen_of_heap HB.out.b_ 2
        by_cases hlt2 : k < bs.length
        · rcases HBS.out.1 with hx | ⟨a, o, rfl, hta, hcc⟩
          · omega
          · have hck := (hcc k hlt2).up Hwm.out hta
            clear hcc
            have hla := HBS.out.2 _ (List.getElem_mem hlt2)
            obtain ⟨q, cq, hsv, _, _⟩ := hla.at_
            obtain ⟨pl, cl, hsl⟩ := ex_sl2 hla.l_
            obtain ⟨pg, cg, hsg⟩ := ex_sl2 hla.g_
            have HLIT := Lib.hid fun V' (hV' : Below wm.heap.size wm V') => rApplyLiteral l p c hn d bs[k] V' (HL.out.up (Hwm.out.trans (hV'.mono Hwm.out.size))) (hla.up (Hwm.out.trans (hV'.mono Hwm.out.size))) (HPR.out.b_ _ (List.getElem_mem hlt2))
            clear hla
            have HNX := Lib.hid (fun (w1 w2 : World) (x' : Lt d) (o' : Obj) (g cap' : Nat) h1 he hi hn hg hat hown => HB.out.next (w1 := w1) (w2 := w2) (x' := x') (o := o') (g := g) (cap := cap') hlt2 HROW.out h1 he hi hn hg hat hown)
            obtain ⟨y, hy⟩ : ∃ y, y = bs[k] := ⟨_, rfl⟩
            rw [← hy] at hck hsv hsl hsg HLIT HNX
            clear hy
            unfold AlPost ltC at HLIT
            obtain ⟨N, hN⟩ : ∃ N, N = nfLt (rnLt (rhoP l) y) := ⟨_, rfl⟩
            rw [← hN] at HLIT HNX
            clear hN
            obtain ⟨xk, xp, ts, sv, xr, el, eg⟩ := y
            change sv = .slice q ts.length cq at hsv
            change exSl d el = _ at hsl
            change exSl d eg = _ at hsg
            subst hsv
            obtain ⟨k0, k1, k2, k3, k4, k5, k6, k7, k8, k9, k10, k11, k12, k13, k14, k15⟩ := hck
            simp only at k0 k1 k2 k3 k4 k5 k6 k7 k8 k9 k10 k11 k12 k13 k14 k15 HLIT
            rw [hsl] at k9
            rw [hsg] at k15
            simp only [hsl, hsg] at HLIT
            clear hsl hsg
            generalize exTm d el = lm at k0 k1 k2 k3 k4 k5 k6 k7 k8 k9 k10 k11 k12 k13 k14 k15 HLIT
            generalize exOp d el = lo at k0 k1 k2 k3 k4 k5 k6 k7 k8 k9 k10 k11 k12 k13 k14 k15 HLIT
            generalize exLen d el = ll at k0 k1 k2 k3 k4 k5 k6 k7 k8 k9 k10 k11 k12 k13 k14 k15 HLIT
            generalize exTm d eg = gm at k0 k1 k2 k3 k4 k5 k6 k7 k8 k9 k10 k11 k12 k13 k14 k15 HLIT
            generalize exOp d eg = go at k0 k1 k2 k3 k4 k5 k6 k7 k8 k9 k10 k11 k12 k13 k14 k15 HLIT
            generalize exLen d eg = gl at k0 k1 k2 k3 k4 k5 k6 k7 k8 k9 k10 k11 k12 k13 k14 k15 HLIT
            generalize ts.length = m at k0 k1 k2 k3 k4 k5 k6 k7 k8 k9 k10 k11 k12 k13 k14 k15 HLIT
            obtain ⟨lv, ⟨lk, ln, lt⟩⟩ := lm
            obtain ⟨gv, ⟨gk, gn, gt⟩⟩ := gm
            obtain ⟨nl, hnl⟩ : ∃ u, u = rnB (rhoP l) lv := ⟨_, rfl⟩
            obtain ⟨ng, hng⟩ : ∃ u, u = rnB (rhoP l) gv := ⟨_, rfl⟩
            simp only [← hnl, ← hng] at HLIT
            clear hnl hng
            simp only at k0 k1 k2 k3 k4 k5 k6 k7 k8 k9 k10 k11 k12 k13 k14 k15
            have hk0 : (0 : Int) ≤ (k : Int) := by omega
            have hki : (k : Int) < (bs.length : Int) := by omega
            have hb5 : w.heap.size + 1 + 1 < wm.heap.size := by omega
            have HS := Lib.hid (show ∀ w', Below (w.heap.size + 1 + 1) wm w' → w'.cell? ⟨w.heap.size, 2, none⟩ = some (.slice (some ⟨a, o, none⟩) bs.length bc) ∧ w'.cell? ⟨a, o + k * 16, none⟩ = some (.int .i8 xk) ∧ w'.cell? ⟨a, o + k * 16 + 1, none⟩ = some (.string xp) ∧ w'.cell? ⟨a, o + k * 16 + 2, none⟩ = some (.slice q m cq) ∧ w'.cell? ⟨a, o + k * 16 + 3, none⟩ = some (.int .i8 xr) ∧ w'.cell? ⟨a, o + k * 16 + 4, none⟩ = some (.int .i8 lo) ∧ w'.cell? ⟨a, o + k * 16 + 5, none⟩ = some (.string lv) ∧ w'.cell? ⟨a, o + k * 16 + 6, none⟩ = some (.int .i8 lk) ∧ w'.cell? ⟨a, o + k * 16 + 7, none⟩ = some (.int .i64 ln) ∧ w'.cell? ⟨a, o + k * 16 + 8, none⟩ = some (.string lt) ∧ w'.cell? ⟨a, o + k * 16 + 9, none⟩ = some (.slice pl ll cl) ∧ w'.cell? ⟨a, o + k * 16 + 10, none⟩ = some (.int .i8 go) ∧ w'.cell? ⟨a, o + k * 16 + 11, none⟩ = some (.string gv) ∧ w'.cell? ⟨a, o + k * 16 + 12, none⟩ = some (.int .i8 gk) ∧ w'.cell? ⟨a, o + k * 16 + 13, none⟩ = some (.int .i64 gn) ∧ w'.cell? ⟨a, o + k * 16 + 14, none⟩ = some (.string gt) ∧ w'.cell? ⟨a, o + k * 16 + 15, none⟩ = some (.slice pg gl cg) from fun w' h =>
              have hx : a < w.heap.size + 1 + 1 := by omega
              ⟨(h.cell (p := ⟨w.heap.size, 2, none⟩) (by show w.heap.size < w.heap.size + 1 + 1; omega)).trans x2, (h.cell (p := ⟨a, o + k * 16, none⟩) hx).trans k0, (h.cell (p := ⟨a, o + k * 16 + 1, none⟩) hx).trans k1, (h.cell (p := ⟨a, o + k * 16 + 2, none⟩) hx).trans k2, (h.cell (p := ⟨a, o + k * 16 + 3, none⟩) hx).trans k3, (h.cell (p := ⟨a, o + k * 16 + 4, none⟩) hx).trans k4, (h.cell (p := ⟨a, o + k * 16 + 5, none⟩) hx).trans k5, (h.cell (p := ⟨a, o + k * 16 + 6, none⟩) hx).trans k6, (h.cell (p := ⟨a, o + k * 16 + 7, none⟩) hx).trans k7, (h.cell (p := ⟨a, o + k * 16 + 8, none⟩) hx).trans k8, (h.cell (p := ⟨a, o + k * 16 + 9, none⟩) hx).trans k9, (h.cell (p := ⟨a, o + k * 16 + 10, none⟩) hx).trans k10, (h.cell (p := ⟨a, o + k * 16 + 11, none⟩) hx).trans k11, (h.cell (p := ⟨a, o + k * 16 + 12, none⟩) hx).trans k12, (h.cell (p := ⟨a, o + k * 16 + 13, none⟩) hx).trans k13, (h.cell (p := ⟨a, o + k * 16 + 14, none⟩) hx).trans k14, (h.cell (p := ⟨a, o + k * 16 + 15, none⟩) hx).trans k15⟩)
            go_wp2_with fail
            have y2a := y2
            have f2a := f2
            have Hb := Lib.hid ((Below.refl wm.heap.size wm).drew)
            refine wp_region_noPanic ?_
            refine wp_region_held_drew (S := (fun w' => w'.cell? ⟨w.heap.size, 2, none⟩ = some (.slice (some ⟨a, o, none⟩) bs.length bc) ∧ w'.cell? ⟨a, o + k * 16, none⟩ = some (.int .i8 xk) ∧ w'.cell? ⟨a, o + k * 16 + 1, none⟩ = some (.string xp) ∧ w'.cell? ⟨a, o + k * 16 + 2, none⟩ = some (.slice q m cq) ∧ w'.cell? ⟨a, o + k * 16 + 3, none⟩ = some (.int .i8 xr) ∧ w'.cell? ⟨a, o + k * 16 + 4, none⟩ = some (.int .i8 lo) ∧ w'.cell? ⟨a, o + k * 16 + 5, none⟩ = some (.string lv) ∧ w'.cell? ⟨a, o + k * 16 + 6, none⟩ = some (.int .i8 lk) ∧ w'.cell? ⟨a, o + k * 16 + 7, none⟩ = some (.int .i64 ln) ∧ w'.cell? ⟨a, o + k * 16 + 8, none⟩ = some (.string lt) ∧ w'.cell? ⟨a, o + k * 16 + 9, none⟩ = some (.slice pl ll cl) ∧ w'.cell? ⟨a, o + k * 16 + 10, none⟩ = some (.int .i8 go) ∧ w'.cell? ⟨a, o + k * 16 + 11, none⟩ = some (.string gv) ∧ w'.cell? ⟨a, o + k * 16 + 12, none⟩ = some (.int .i8 gk) ∧ w'.cell? ⟨a, o + k * 16 + 13, none⟩ = some (.int .i64 gn) ∧ w'.cell? ⟨a, o + k * 16 + 14, none⟩ = some (.string gt) ∧ w'.cell? ⟨a, o + k * 16 + 15, none⟩ = some (.slice pg gl cg))) (by kernel_rfl) ?_ (fun hHeld => ?_)
            · (try dsimp only)
              (refine HS.out _ ?_
               repeat (with_reducible first | exact Hb2.out.mono (Nat.le_succ _) | exact Hb.out.mono (Nat.le_of_lt hb5) | exact Below.refl _ _ | refine Below.drew ?_ | refine Below.setCell ?_ ?_ _ | refine Below.alloc ?_ ?_ _)
               all_goals (first | (with_reducible exact Nat.le_refl _) | (have := Hb.out.size; omega)))
            refine wpAnyH_take (i := 0) (oi := _) (v := ?_) (by simp only [List.getElem?_toArray, List.getElem?_cons_zero]; rfl) (by kernel_rfl) (by kernel_rfl) (by kernel_rfl) (fun _ _ _ h => h) (Or.inl ⟨by rfl, ?_⟩) (by assumption) ?_
            rotate_left
            · (intro w' hSw; (try dsimp only at hSw); go_simp; (try with_reducible rfl))
            (try simp only [Act.put, List.setIfInBounds_toArray, List.set_cons_zero, List.set_cons_succ])
            refine wpAnyH_take (i := 2) (oi := _) (v := ?_) (by simp only [List.getElem?_toArray, List.getElem?_cons_succ, List.getElem?_cons_zero]; rfl) (by kernel_rfl) (by kernel_rfl) (by kernel_rfl) (fun _ _ _ h => h) (Or.inl ⟨by rfl, ?_⟩) (by assumption) ?_
            rotate_left
            · (intro w' hSw; (try dsimp only at hSw); go_simp; (try with_reducible rfl))
            (try simp only [Act.put, List.setIfInBounds_toArray, List.set_cons_zero, List.set_cons_succ])
            refine wpAnyH_take (i := 3) (oi := _) (v := ?_) (by simp only [List.getElem?_toArray, List.getElem?_cons_succ, List.getElem?_cons_zero]; rfl) (by kernel_rfl) (by kernel_rfl) (by kernel_rfl) (fun _ _ _ h => h) (Or.inl ⟨by rfl, ?_⟩) (by assumption) ?_
            rotate_left
            · (intro w' hSw; (try dsimp only at hSw); go_simp; (try with_reducible rfl))
            (try simp only [Act.put, List.setIfInBounds_toArray, List.set_cons_zero, List.set_cons_succ])
            refine wpAnyH_take (i := 4) (oi := _) (v := ?_) (by simp only [List.getElem?_toArray, List.getElem?_cons_succ, List.getElem?_cons_zero]; rfl) (by kernel_rfl) (by kernel_rfl) (by kernel_rfl) (fun _ _ _ h => h) (Or.inl ⟨by rfl, ?_⟩) (by assumption) ?_
            rotate_left
            · (intro w' hSw; (try dsimp only at hSw); go_simp; (try with_reducible rfl))
            (try simp only [Act.put, List.setIfInBounds_toArray, List.set_cons_zero, List.set_cons_succ])
            refine wpAnyH_take (i := 5) (oi := _) (v := ?_) (by simp only [List.getElem?_toArray, List.getElem?_cons_succ, List.getElem?_cons_zero]; rfl) (by kernel_rfl) (by kernel_rfl) (by kernel_rfl) (fun _ _ _ h => h) (Or.inl ⟨by rfl, ?_⟩) (by assumption) ?_
            rotate_left
            · (intro w' hSw; (try dsimp only at hSw); go_simp; (try with_reducible rfl))
            (try simp only [Act.put, List.setIfInBounds_toArray, List.set_cons_zero, List.set_cons_succ])
            refine wpAnyH_take (i := 6) (oi := _) (v := ?_) (by simp only [List.getElem?_toArray, List.getElem?_cons_succ, List.getElem?_cons_zero]; rfl) (by kernel_rfl) (by kernel_rfl) (by kernel_rfl) (fun _ _ _ h => h) (Or.inl ⟨by rfl, ?_⟩) (by assumption) ?_
            rotate_left
            · (intro w' hSw; (try dsimp only at hSw); go_simp; (try with_reducible rfl))
            (try simp only [Act.put, List.setIfInBounds_toArray, List.set_cons_zero, List.set_cons_succ])
            refine wpAnyH_take (i := 7) (oi := _) (v := ?_) (by simp only [List.getElem?_toArray, List.getElem?_cons_succ, List.getElem?_cons_zero]; rfl) (by kernel_rfl) (by kernel_rfl) (by kernel_rfl) (fun _ _ _ h => h) (Or.inl ⟨by rfl, ?_⟩) (by assumption) ?_
            rotate_left
            · (intro w' hSw; (try dsimp only at hSw); go_simp; (try with_reducible rfl))
            (try simp only [Act.put, List.setIfInBounds_toArray, List.set_cons_zero, List.set_cons_succ])
            refine wpAnyH_ready (rs := [1, 8]) (by kernel_rfl) (by simp) ?_
            refine AllReadyH.cons (o := _) (by simp only [List.getElem?_toArray, List.getElem?_cons_succ, List.getElem?_cons_zero]; rfl) (fun K hK => ?_) ?_
            · go_simp
              refine hK.out _ _ ?_ (fun hHeld => ?_)
              · (try dsimp only)
                (refine HS.out _ ?_
                 repeat (with_reducible first | exact Hb2.out.mono (Nat.le_succ _) | exact Hb.out.mono (Nat.le_of_lt hb5) | exact Below.refl _ _ | refine Below.drew ?_ | refine Below.setCell ?_ ?_ _ | refine Below.alloc ?_ ?_ _)
                 all_goals (first | (with_reducible exact Nat.le_refl _) | (have := Hb.out.size; omega)))
              clear hK K
              (try simp only [Act.put, List.setIfInBounds_toArray, List.set_cons_zero, List.set_cons_succ])
              refine wpAnyH_ready (rs := [8]) (by kernel_rfl) (by simp) ?_
              refine AllReadyH.cons (o := _) (by simp only [List.getElem?_toArray, List.getElem?_cons_succ, List.getElem?_cons_zero]; rfl) (fun K hK => ?_) ?_
              · go_simp
                go_at_call 58
                refine (HLIT.out _ ?_).mono ?_
                · with_reducible exact Hb.out
                rintro r w1 ⟨x', q', c', pl', cl', pg', cg', rfl, hcs, hae, hie, hne, hb1⟩
                have Hb := Lib.hid (show Below wm.heap.size wm w1 from ⟨hb1.os, hb1.tape, hb1.output, hb1.size, hb1.block⟩)
                have HIE := Lib.hid (show LtIn (fun a => wm.heap.size ≤ a ∧ a < w1.heap.size) x' from hie)
                have HAE := Lib.hid hae
                have HNE := Lib.hid hne
                have HCS := Lib.hid (show ltC x' = _ from hcs)
                clear hb1 hie hae hne hcs
                have HO := Lib.hid (ownR_up HROW.out Hb.out)
                have HS1 := Lib.hid Hb.out.size
                have y2 := (Hb.out.cell (p := ⟨w.heap.size + 1 + 1, 2, none⟩) hb5).trans y2
                have f2 := (Hb.out.frozen (p := ⟨w.heap.size + 1 + 1, 2, none⟩) hb5).trans f2
                have nn : ∀ (cs : Array Value) (t : TypeId) (f : Nat × Nat), (w1.alloc (.cells cs t f)).cell? ⟨w.heap.size + 1 + 1, 2, none⟩ = some (.slice pw k cw) := fun cs t f => ((below_alloc w1 (.cells cs t f)).cell (p := ⟨w.heap.size + 1 + 1, 2, none⟩) (Nat.lt_of_lt_of_le hb5 HS1.out)).trans y2
                dsimp only
                (try go_wp2_with fail)
                refine hK.out _ _ ?_ (fun hHeld => ?_)
                · (try dsimp only)
                  (refine HS.out _ ?_
                   repeat (with_reducible first | exact Hb2.out.mono (Nat.le_succ _) | exact Hb.out.mono (Nat.le_of_lt hb5) | exact Below.refl _ _ | refine Below.drew ?_ | refine Below.setCell ?_ ?_ _ | refine Below.alloc ?_ ?_ _)
                   all_goals (first | (with_reducible exact Nat.le_refl _) | (have := Hb.out.size; omega)))
                clear hK K
                (try simp only [Act.put, List.setIfInBounds_toArray, List.set_cons_zero, List.set_cons_succ])
                refine wpAnyH_ready (rs := [9]) (by kernel_rfl) (by simp) ?_
                refine AllReadyH.cons (o := _) (by simp only [List.getElem?_toArray, List.getElem?_cons_succ, List.getElem?_cons_zero]; rfl) (fun K hK => ?_) ?_
                · go_simp
                  refine hK.out _ _ ?_ (fun hHeld => ?_)
                  · (try dsimp only)
                    (refine HS.out _ ?_
                     repeat (with_reducible first | exact Hb2.out.mono (Nat.le_succ _) | exact Hb.out.mono (Nat.le_of_lt hb5) | exact Below.refl _ _ | refine Below.drew ?_ | refine Below.setCell ?_ ?_ _ | refine Below.alloc ?_ ?_ _)
                     all_goals (first | (with_reducible exact Nat.le_refl _) | (have := Hb.out.size; omega)))
                  clear hK K
                  (try simp only [Act.put, List.setIfInBounds_toArray, List.set_cons_zero, List.set_cons_succ])
                  refine wpAnyH_ready (rs := [10]) (by kernel_rfl) (by simp) ?_
                  refine AllReadyH.cons (o := _) (by simp only [List.getElem?_toArray, List.getElem?_cons_succ, List.getElem?_cons_zero]; rfl) (fun K hK => ?_) ?_
                  · refine step_append_lies _ (by rfl) _ _ _ (by rfl) wr.heap.size 114 i1 _ 16 216 Tryz.underlying39 HJ.out HJ0.out HJ1.out HJ2.out rfl (by decide) (.slice pw k cw) k _ (by rfl) (ownR_alloc HO.out _) ⟨w1.heap.size, 0, none⟩ 1 1 [.int .i8 xk, .string xp, .slice q' m c', .int .i8 xr, .int .i8 lo, .string nl, .int .i8 lk, .int .i64 ln, .string lt, .slice pl' ll cl', .int .i8 go, .string ng, .int .i8 gk, .int .i64 gn, .string gt, .slice pg' gl cg'] (by rfl) (by rfl) (World.news_of_block (cs := #[.int .i8 xk, .string xp, .slice q' m c', .int .i8 xr, .int .i8 lo, .string nl, .int .i8 lk, .int .i64 ln, .string lt, .slice pl' ll cl', .int .i8 go, .string ng, .int .i8 gk, .int .i64 gn, .string gt, .slice pg' gl cg']) (t := 114) (fr := (0, 0)) (heap_alloc_new w1 _)) (by simp [Value.oneCell']) (by omega) (by unfold maxLen; omega) (by omega) (by have := HS1.out; simp; omega) (w1.heap.size + 1) (by simp) ?_
                    intro g cap' w2 hown2 hgrow hat hlt2
                    have Hb2 := Lib.hid (show Below (w.heap.size + 1 + 1 + 1) wm w2 from (ap_below Hb.out hsm HO.out hgrow).mono (Nat.succ_le_of_lt hbl))
                    have HF := Lib.hid (HNX.out w1 w2 x' _ g cap' Hb.out HAE.out HIE.out HNE.out hgrow hat (by rw [HCS.out]; exact hown2))
                    have y2 := (Hb2.out.cell (p := ⟨w.heap.size + 1 + 1, 2, none⟩) (Nat.lt_succ_self _)).trans y2a
                    have f2 := (Hb2.out.frozen (p := ⟨w.heap.size + 1 + 1, 2, none⟩) (Nat.lt_succ_self _)).trans f2a
                    clear hat hgrow hown2
                    refine hK.out _ _ ?_ (fun hHeld => ?_)
                    · (try dsimp only)
                      (refine HS.out _ ?_
                       repeat (with_reducible first | exact Hb2.out.mono (Nat.le_succ _) | exact Hb.out.mono (Nat.le_of_lt hb5) | exact Below.refl _ _ | refine Below.drew ?_ | refine Below.setCell ?_ ?_ _ | refine Below.alloc ?_ ?_ _)
                       all_goals (first | (with_reducible exact Nat.le_refl _) | (have := Hb.out.size; omega)))
                    clear hK K
                    (try simp only [Act.put, List.setIfInBounds_toArray, List.set_cons_zero, List.set_cons_succ])
                    refine wpAnyH_take (i := 11) (oi := _) (v := ?_) (by simp only [List.getElem?_toArray, List.getElem?_cons_succ, List.getElem?_cons_zero]; rfl) (by kernel_rfl) (by kernel_rfl) (by kernel_rfl) (fun _ _ _ h => h) (Or.inl ⟨by rfl, ?_⟩) (by assumption) ?_
                    rotate_left
                    · (intro w' hSw; (try dsimp only at hSw); go_simp; (try with_reducible rfl))
                    (try simp only [Act.put, List.setIfInBounds_toArray, List.set_cons_zero, List.set_cons_succ])
                    refine wpAnyH_ready (rs := [12]) (by kernel_rfl) (by simp) ?_
                    refine AllReadyH.cons (o := _) (by simp only [List.getElem?_toArray, List.getElem?_cons_succ, List.getElem?_cons_zero]; rfl) (fun K hK => ?_) ?_
                    · go_simp
                      refine hK.out _ _ ?_ (fun hHeld => ?_)
                      · (try dsimp only)
                        (refine HS.out _ ?_
                         repeat (with_reducible first | exact Hb2.out.mono (Nat.le_succ _) | exact Hb.out.mono (Nat.le_of_lt hb5) | exact Below.refl _ _ | refine Below.drew ?_ | refine Below.setCell ?_ ?_ _ | refine Below.alloc ?_ ?_ _)
                         all_goals (first | (with_reducible exact Nat.le_refl _) | (have := Hb.out.size; omega)))
                      clear hK K
                      (try simp only [Act.put, List.setIfInBounds_toArray, List.set_cons_zero, List.set_cons_succ])
                      refine wpAnyH_done (by kernel_rfl) ?_ _
                      refine NoPanic.normal ?_
                      clear x0 x1 x2 y0 y1 y2 f2 y2a f2a k0 k1 k2 k3 k4 k5 k6 k7 k8 k9 k10 k11 k12 k13 k14 k15 nn
                      go_wp2_with fail
                      go_roundw
                      case rel => exact ⟨k + 1, _, by omega, by go_num, HF.out⟩
                      case measure => simp [intOf]; omega
                    exact AllReadyH.nil
                  exact AllReadyH.nil
                exact AllReadyH.nil
              exact AllReadyH.nil
            refine AllReadyH.cons (o := _) (by simp only [List.getElem?_toArray, List.getElem?_cons_succ, List.getElem?_cons_zero]; rfl) (fun K hK => ?_) ?_
            · go_simp
              go_at_call 58
              refine (HLIT.out _ ?_).mono ?_
              · with_reducible exact Hb.out
              rintro r w1 ⟨x', q', c', pl', cl', pg', cg', rfl, hcs, hae, hie, hne, hb1⟩
              have Hb := Lib.hid (show Below wm.heap.size wm w1 from ⟨hb1.os, hb1.tape, hb1.output, hb1.size, hb1.block⟩)
              have HIE := Lib.hid (show LtIn (fun a => wm.heap.size ≤ a ∧ a < w1.heap.size) x' from hie)
              have HAE := Lib.hid hae
              have HNE := Lib.hid hne
              have HCS := Lib.hid (show ltC x' = _ from hcs)
              clear hb1 hie hae hne hcs
              have HO := Lib.hid (ownR_up HROW.out Hb.out)
              have HS1 := Lib.hid Hb.out.size
              have y2 := (Hb.out.cell (p := ⟨w.heap.size + 1 + 1, 2, none⟩) hb5).trans y2
              have f2 := (Hb.out.frozen (p := ⟨w.heap.size + 1 + 1, 2, none⟩) hb5).trans f2
              have nn : ∀ (cs : Array Value) (t : TypeId) (f : Nat × Nat), (w1.alloc (.cells cs t f)).cell? ⟨w.heap.size + 1 + 1, 2, none⟩ = some (.slice pw k cw) := fun cs t f => ((below_alloc w1 (.cells cs t f)).cell (p := ⟨w.heap.size + 1 + 1, 2, none⟩) (Nat.lt_of_lt_of_le hb5 HS1.out)).trans y2
              dsimp only
              (try go_wp2_with fail)
              refine hK.out _ _ ?_ (fun hHeld => ?_)
              · (try dsimp only)
                (refine HS.out _ ?_
                 repeat (with_reducible first | exact Hb2.out.mono (Nat.le_succ _) | exact Hb.out.mono (Nat.le_of_lt hb5) | exact Below.refl _ _ | refine Below.drew ?_ | refine Below.setCell ?_ ?_ _ | refine Below.alloc ?_ ?_ _)
                 all_goals (first | (with_reducible exact Nat.le_refl _) | (have := Hb.out.size; omega)))
              clear hK K
              (try simp only [Act.put, List.setIfInBounds_toArray, List.set_cons_zero, List.set_cons_succ])
              refine wpAnyH_ready (rs := [1, 9]) (by kernel_rfl) (by simp) ?_
              refine AllReadyH.cons (o := _) (by simp only [List.getElem?_toArray, List.getElem?_cons_succ, List.getElem?_cons_zero]; rfl) (fun K hK => ?_) ?_
              · go_simp
                refine hK.out _ _ ?_ (fun hHeld => ?_)
                · (try dsimp only)
                  (refine HS.out _ ?_
                   repeat (with_reducible first | exact Hb2.out.mono (Nat.le_succ _) | exact Hb.out.mono (Nat.le_of_lt hb5) | exact Below.refl _ _ | refine Below.drew ?_ | refine Below.setCell ?_ ?_ _ | refine Below.alloc ?_ ?_ _)
                   all_goals (first | (with_reducible exact Nat.le_refl _) | (have := Hb.out.size; omega)))
                clear hK K
                (try simp only [Act.put, List.setIfInBounds_toArray, List.set_cons_zero, List.set_cons_succ])
                refine wpAnyH_ready (rs := [9]) (by kernel_rfl) (by simp) ?_
                refine AllReadyH.cons (o := _) (by simp only [List.getElem?_toArray, List.getElem?_cons_succ, List.getElem?_cons_zero]; rfl) (fun K hK => ?_) ?_
                · go_simp
                  refine hK.out _ _ ?_ (fun hHeld => ?_)
                  · (try dsimp only)
                    (refine HS.out _ ?_
                     repeat (with_reducible first | exact Hb2.out.mono (Nat.le_succ _) | exact Hb.out.mono (Nat.le_of_lt hb5) | exact Below.refl _ _ | refine Below.drew ?_ | refine Below.setCell ?_ ?_ _ | refine Below.alloc ?_ ?_ _)
                     all_goals (first | (with_reducible exact Nat.le_refl _) | (have := Hb.out.size; omega)))
                  clear hK K
                  (try simp only [Act.put, List.setIfInBounds_toArray, List.set_cons_zero, List.set_cons_succ])
                  refine wpAnyH_ready (rs := [10]) (by kernel_rfl) (by simp) ?_
                  refine AllReadyH.cons (o := _) (by simp only [List.getElem?_toArray, List.getElem?_cons_succ, List.getElem?_cons_zero]; rfl) (fun K hK => ?_) ?_
                  · refine step_append_lies _ (by rfl) _ _ _ (by rfl) wr.heap.size 114 i1 _ 16 216 Tryz.underlying39 HJ.out HJ0.out HJ1.out HJ2.out rfl (by decide) (.slice pw k cw) k _ (by rfl) (ownR_alloc HO.out _) ⟨w1.heap.size, 0, none⟩ 1 1 [.int .i8 xk, .string xp, .slice q' m c', .int .i8 xr, .int .i8 lo, .string nl, .int .i8 lk, .int .i64 ln, .string lt, .slice pl' ll cl', .int .i8 go, .string ng, .int .i8 gk, .int .i64 gn, .string gt, .slice pg' gl cg'] (by rfl) (by rfl) (World.news_of_block (cs := #[.int .i8 xk, .string xp, .slice q' m c', .int .i8 xr, .int .i8 lo, .string nl, .int .i8 lk, .int .i64 ln, .string lt, .slice pl' ll cl', .int .i8 go, .string ng, .int .i8 gk, .int .i64 gn, .string gt, .slice pg' gl cg']) (t := 114) (fr := (0, 0)) (heap_alloc_new w1 _)) (by simp [Value.oneCell']) (by omega) (by unfold maxLen; omega) (by omega) (by have := HS1.out; simp; omega) (w1.heap.size + 1) (by simp) ?_
                    intro g cap' w2 hown2 hgrow hat hlt2
                    have Hb2 := Lib.hid (show Below (w.heap.size + 1 + 1 + 1) wm w2 from (ap_below Hb.out hsm HO.out hgrow).mono (Nat.succ_le_of_lt hbl))
                    have HF := Lib.hid (HNX.out w1 w2 x' _ g cap' Hb.out HAE.out HIE.out HNE.out hgrow hat (by rw [HCS.out]; exact hown2))
                    have y2 := (Hb2.out.cell (p := ⟨w.heap.size + 1 + 1, 2, none⟩) (Nat.lt_succ_self _)).trans y2a
                    have f2 := (Hb2.out.frozen (p := ⟨w.heap.size + 1 + 1, 2, none⟩) (Nat.lt_succ_self _)).trans f2a
                    clear hat hgrow hown2
                    refine hK.out _ _ ?_ (fun hHeld => ?_)
                    · (try dsimp only)
                      (refine HS.out _ ?_
                       repeat (with_reducible first | exact Hb2.out.mono (Nat.le_succ _) | exact Hb.out.mono (Nat.le_of_lt hb5) | exact Below.refl _ _ | refine Below.drew ?_ | refine Below.setCell ?_ ?_ _ | refine Below.alloc ?_ ?_ _)
                       all_goals (first | (with_reducible exact Nat.le_refl _) | (have := Hb.out.size; omega)))
                    clear hK K
                    (try simp only [Act.put, List.setIfInBounds_toArray, List.set_cons_zero, List.set_cons_succ])
                    refine wpAnyH_take (i := 11) (oi := _) (v := ?_) (by simp only [List.getElem?_toArray, List.getElem?_cons_succ, List.getElem?_cons_zero]; rfl) (by kernel_rfl) (by kernel_rfl) (by kernel_rfl) (fun _ _ _ h => h) (Or.inl ⟨by rfl, ?_⟩) (by assumption) ?_
                    rotate_left
                    · (intro w' hSw; (try dsimp only at hSw); go_simp; (try with_reducible rfl))
                    (try simp only [Act.put, List.setIfInBounds_toArray, List.set_cons_zero, List.set_cons_succ])
                    refine wpAnyH_ready (rs := [12]) (by kernel_rfl) (by simp) ?_
                    refine AllReadyH.cons (o := _) (by simp only [List.getElem?_toArray, List.getElem?_cons_succ, List.getElem?_cons_zero]; rfl) (fun K hK => ?_) ?_
                    · go_simp
                      refine hK.out _ _ ?_ (fun hHeld => ?_)
                      · (try dsimp only)
                        (refine HS.out _ ?_
                         repeat (with_reducible first | exact Hb2.out.mono (Nat.le_succ _) | exact Hb.out.mono (Nat.le_of_lt hb5) | exact Below.refl _ _ | refine Below.drew ?_ | refine Below.setCell ?_ ?_ _ | refine Below.alloc ?_ ?_ _)
                         all_goals (first | (with_reducible exact Nat.le_refl _) | (have := Hb.out.size; omega)))
                      clear hK K
                      (try simp only [Act.put, List.setIfInBounds_toArray, List.set_cons_zero, List.set_cons_succ])
                      refine wpAnyH_done (by kernel_rfl) ?_ _
                      refine NoPanic.normal ?_
                      clear x0 x1 x2 y0 y1 y2 f2 y2a f2a k0 k1 k2 k3 k4 k5 k6 k7 k8 k9 k10 k11 k12 k13 k14 k15 nn
                      go_wp2_with fail
                      go_roundw
                      case rel => exact ⟨k + 1, _, by omega, by go_num, HF.out⟩
                      case measure => simp [intOf]; omega
                    exact AllReadyH.nil
                  exact AllReadyH.nil
                exact AllReadyH.nil
              refine AllReadyH.cons (o := _) (by simp only [List.getElem?_toArray, List.getElem?_cons_succ, List.getElem?_cons_zero]; rfl) (fun K hK => ?_) ?_
              · go_simp
                refine hK.out _ _ ?_ (fun hHeld => ?_)
                · (try dsimp only)
                  (refine HS.out _ ?_
                   repeat (with_reducible first | exact Hb2.out.mono (Nat.le_succ _) | exact Hb.out.mono (Nat.le_of_lt hb5) | exact Below.refl _ _ | refine Below.drew ?_ | refine Below.setCell ?_ ?_ _ | refine Below.alloc ?_ ?_ _)
                   all_goals (first | (with_reducible exact Nat.le_refl _) | (have := Hb.out.size; omega)))
                clear hK K
                (try simp only [Act.put, List.setIfInBounds_toArray, List.set_cons_zero, List.set_cons_succ])
                refine wpAnyH_ready (rs := [1]) (by kernel_rfl) (by simp) ?_
                refine AllReadyH.cons (o := _) (by simp only [List.getElem?_toArray, List.getElem?_cons_succ, List.getElem?_cons_zero]; rfl) (fun K hK => ?_) ?_
                · go_simp
                  refine hK.out _ _ ?_ (fun hHeld => ?_)
                  · (try dsimp only)
                    (refine HS.out _ ?_
                     repeat (with_reducible first | exact Hb2.out.mono (Nat.le_succ _) | exact Hb.out.mono (Nat.le_of_lt hb5) | exact Below.refl _ _ | refine Below.drew ?_ | refine Below.setCell ?_ ?_ _ | refine Below.alloc ?_ ?_ _)
                     all_goals (first | (with_reducible exact Nat.le_refl _) | (have := Hb.out.size; omega)))
                  clear hK K
                  (try simp only [Act.put, List.setIfInBounds_toArray, List.set_cons_zero, List.set_cons_succ])
                  refine wpAnyH_ready (rs := [10]) (by kernel_rfl) (by simp) ?_
                  refine AllReadyH.cons (o := _) (by simp only [List.getElem?_toArray, List.getElem?_cons_succ, List.getElem?_cons_zero]; rfl) (fun K hK => ?_) ?_
                  · refine step_append_lies _ (by rfl) _ _ _ (by rfl) wr.heap.size 114 i1 _ 16 216 Tryz.underlying39 HJ.out HJ0.out HJ1.out HJ2.out rfl (by decide) (.slice pw k cw) k _ (by rfl) (ownR_alloc HO.out _) ⟨w1.heap.size, 0, none⟩ 1 1 [.int .i8 xk, .string xp, .slice q' m c', .int .i8 xr, .int .i8 lo, .string nl, .int .i8 lk, .int .i64 ln, .string lt, .slice pl' ll cl', .int .i8 go, .string ng, .int .i8 gk, .int .i64 gn, .string gt, .slice pg' gl cg'] (by rfl) (by rfl) (World.news_of_block (cs := #[.int .i8 xk, .string xp, .slice q' m c', .int .i8 xr, .int .i8 lo, .string nl, .int .i8 lk, .int .i64 ln, .string lt, .slice pl' ll cl', .int .i8 go, .string ng, .int .i8 gk, .int .i64 gn, .string gt, .slice pg' gl cg']) (t := 114) (fr := (0, 0)) (heap_alloc_new w1 _)) (by simp [Value.oneCell']) (by omega) (by unfold maxLen; omega) (by omega) (by have := HS1.out; simp; omega) (w1.heap.size + 1) (by simp) ?_
                    intro g cap' w2 hown2 hgrow hat hlt2
                    have Hb2 := Lib.hid (show Below (w.heap.size + 1 + 1 + 1) wm w2 from (ap_below Hb.out hsm HO.out hgrow).mono (Nat.succ_le_of_lt hbl))
                    have HF := Lib.hid (HNX.out w1 w2 x' _ g cap' Hb.out HAE.out HIE.out HNE.out hgrow hat (by rw [HCS.out]; exact hown2))
                    have y2 := (Hb2.out.cell (p := ⟨w.heap.size + 1 + 1, 2, none⟩) (Nat.lt_succ_self _)).trans y2a
                    have f2 := (Hb2.out.frozen (p := ⟨w.heap.size + 1 + 1, 2, none⟩) (Nat.lt_succ_self _)).trans f2a
                    clear hat hgrow hown2
                    refine hK.out _ _ ?_ (fun hHeld => ?_)
                    · (try dsimp only)
                      (refine HS.out _ ?_
                       repeat (with_reducible first | exact Hb2.out.mono (Nat.le_succ _) | exact Hb.out.mono (Nat.le_of_lt hb5) | exact Below.refl _ _ | refine Below.drew ?_ | refine Below.setCell ?_ ?_ _ | refine Below.alloc ?_ ?_ _)
                       all_goals (first | (with_reducible exact Nat.le_refl _) | (have := Hb.out.size; omega)))
                    clear hK K
                    (try simp only [Act.put, List.setIfInBounds_toArray, List.set_cons_zero, List.set_cons_succ])
                    refine wpAnyH_take (i := 11) (oi := _) (v := ?_) (by simp only [List.getElem?_toArray, List.getElem?_cons_succ, List.getElem?_cons_zero]; rfl) (by kernel_rfl) (by kernel_rfl) (by kernel_rfl) (fun _ _ _ h => h) (Or.inl ⟨by rfl, ?_⟩) (by assumption) ?_
                    rotate_left
                    · (intro w' hSw; (try dsimp only at hSw); go_simp; (try with_reducible rfl))
                    (try simp only [Act.put, List.setIfInBounds_toArray, List.set_cons_zero, List.set_cons_succ])
                    refine wpAnyH_ready (rs := [12]) (by kernel_rfl) (by simp) ?_
                    refine AllReadyH.cons (o := _) (by simp only [List.getElem?_toArray, List.getElem?_cons_succ, List.getElem?_cons_zero]; rfl) (fun K hK => ?_) ?_
                    · go_simp
                      refine hK.out _ _ ?_ (fun hHeld => ?_)
                      · (try dsimp only)
                        (refine HS.out _ ?_
                         repeat (with_reducible first | exact Hb2.out.mono (Nat.le_succ _) | exact Hb.out.mono (Nat.le_of_lt hb5) | exact Below.refl _ _ | refine Below.drew ?_ | refine Below.setCell ?_ ?_ _ | refine Below.alloc ?_ ?_ _)
                         all_goals (first | (with_reducible exact Nat.le_refl _) | (have := Hb.out.size; omega)))
                      clear hK K
                      (try simp only [Act.put, List.setIfInBounds_toArray, List.set_cons_zero, List.set_cons_succ])
                      refine wpAnyH_done (by kernel_rfl) ?_ _
                      refine NoPanic.normal ?_
                      clear x0 x1 x2 y0 y1 y2 f2 y2a f2a k0 k1 k2 k3 k4 k5 k6 k7 k8 k9 k10 k11 k12 k13 k14 k15 nn
                      go_wp2_with fail
                      go_roundw
                      case rel => exact ⟨k + 1, _, by omega, by go_num, HF.out⟩
                      case measure => simp [intOf]; omega
                    exact AllReadyH.nil
                  exact AllReadyH.nil
                exact AllReadyH.nil
              exact AllReadyH.nil
            exact AllReadyH.nil
        · obtain rfl : k = bs.length := by omega
          have HC4 := Lib.hid ((HB.out.u_.block (w.heap.size + 1) (by omega)).trans ((HR.out.u_.block (w.heap.size + 1) (by omega)).trans HB2.out))
          have g0 : wm.frozen? ⟨w.heap.size + 1, 0, none⟩ = false := Lib.frozen_of_heap HC4.out 0
          have g1 : wm.frozen? ⟨w.heap.size + 1, 1, none⟩ = false := Lib.frozen_of_heap HC4.out 1
          have g2 : wm.frozen? ⟨w.heap.size + 1, 2, none⟩ = false := Lib.frozen_of_heap HC4.out 2
          obtain ⟨z0, z1, z2⟩ := threeC HC4.out
          have HKP := Lib.hid (show KpW (fun a => w.heap.size + 1 + 1 < a) wm (putL wm (w.heap.size + 1) 0 [.string pr, .slice pv hs.length cv, .slice pw bs.length cw]) from ⟨Nat.le_of_eq (putL_size _ _ _).symm, fun a ha _ => putL_block (by omega) _ _ _⟩)
          have hb2 : (putL wm (w.heap.size + 1) 0 [.string pr, .slice pv hs.length cv, .slice pw bs.length cw]).heap[w.heap.size + 1]? = some (.cells #[.string pr, .slice pv hs.length cv, .slice pw bs.length cw] 41 (0, 0)) := putL_heap _ HC4.out rfl
          have HBp := Lib.hid (show Below w.heap.size w (putL wm (w.heap.size + 1) 0 [.string pr, .slice pv hs.length cv, .slice pw bs.length cw]) from putL_below (Nat.le_succ _) _ _ _ Hwm.out)
          go_wp2_with fail
          change bodyPost _ _ _ _ _ (putL wm (w.heap.size + 1) 0 [.string pr, .slice pv hs.length cv, .slice pw bs.length cw])
          clear x0 x1 x2 y0 y1 y2 f2 z0 z1 z2 g0 g1 g2
          obtain ⟨W2, hW2⟩ : ∃ W2, W2 = putL wm (w.heap.size + 1) 0 [.string pr, .slice pv hs.length cv, .slice pw bs.length cw] := ⟨_, rfl⟩
          rw [← hW2] at hb2 HBp HKP ⊢
          clear hW2
          have HE := Lib.hid (HEND.out _ _ (BdR.done HR.out HB.out HKP.out HBp.out (by omega)))
          obtain ⟨z0, z1, z2⟩ := threeC hb2
          refine bodyPost_ret (v := .agg #[.string pr, .slice pv hs.length cv, .slice pw bs.length cw]) (by simp [results, Tryz.results29, go_sem, z0, z1, z2]) rfl ?_
          exact HE.out
end Go.Proofs.YtafjjececdhmjaaGreat
