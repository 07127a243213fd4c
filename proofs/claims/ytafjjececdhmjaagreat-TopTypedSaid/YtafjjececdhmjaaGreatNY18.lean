/- The contracts of check.lone and found.take. Conditions: the list, the map and the equation lie in memory as they are told. -/
import Derived.Test.YtafjjececdhmjaaGreatNKe
namespace Go.Proofs.YtafjjececdhmjaaGreat
open Go.RowKit Go.Maps

/-- check.lone -/
def loneB (op : Int) (v : ByteArray) (n : Nat) : ByteArray := if op ≠ 0 ∨ 0 < n ∨ bl v = [95] then ⟨#[]⟩ else v
set_option maxHeartbeats 2000000 in
theorem tLone (op : Int) (v : ByteArray) (k m : Int) (t : ByteArray) (p : Option Addr) (n c : Nat) (w : World) :
    Calls Tryz.prog 72 #[.agg #[.int .i8 op, .string v, .int .i8 k, .int .i64 m, .string t, .slice p n c]] w (fun e w' => e = .returned (.string (loneB op v n)) ∧ Below w.heap.size w w') := by
  have hb : Below w.heap.size w (w.alloc (.cells #[.int .i8 op, .string v, .int .i8 k, .int .i64 m, .string t, .slice p n c] 112)) := below_alloc _ _
  by_cases h0 : op = 0
  · subst h0
    by_cases h1 : n = 0
    · subst h1
      have HB := Lib.hid hb; clear hb
      rcases h2 : (v.toList == [95]) with _ | _
      · have HE := Lib.hid (show loneB 0 v 0 = v by
          unfold loneB
          rw [if_neg]
          simp only [ne_eq, not_true_eq_false, false_or, not_or]
          exact ⟨by omega, by simpa [bl, ← ByteArray.toList_eq] using h2⟩)
        go_enter Tryz.func72, Tryz.ntmps72
        go_wp2_with fail
        go_ret
        exact ⟨by rw [HE.out]; rfl, HB.out⟩
      · have HE := Lib.hid (show loneB 0 v 0 = ⟨#[]⟩ by unfold loneB; rw [if_pos (.inr (.inr (by simpa [bl, ← ByteArray.toList_eq] using h2)))])
        go_enter Tryz.func72, Tryz.ntmps72
        go_wp2_with fail
        go_ret
        exact ⟨by rw [HE.out]; rfl, HB.out⟩
    · have HB := Lib.hid hb; clear hb
      have HE := Lib.hid (show loneB 0 v n = ⟨#[]⟩ by unfold loneB; rw [if_pos (.inr (.inl (by omega)))])
      have h2 : 0 < n := by omega
      go_enter Tryz.func72, Tryz.ntmps72
      go_wp2_with fail
      go_ret
      exact ⟨by rw [HE.out]; rfl, HB.out⟩
  · have HB := Lib.hid hb; clear hb
    have HE := Lib.hid (show loneB op v n = ⟨#[]⟩ by unfold loneB; rw [if_pos (.inl h0)])
    go_enter Tryz.func72, Tryz.ntmps72
    go_wp2_with fail
    go_ret
    exact ⟨by rw [HE.out]; rfl, HB.out⟩
/-- An equation: the variables that its sides are, the variables of its sides. -/
structure Eqn where
  left : ByteArray
  right : ByteArray
  ls : List (List UInt8)
  rs : List (List UInt8)
  lp : Option Addr
  lc : Nat
  rp : Option Addr
  rc : Nat
def Eqn.cells (q : Eqn) : List Value := [.string q.left, .string q.right, .slice q.lp q.ls.length q.lc, .slice q.rp q.rs.length q.rc]
structure EqnAt (own : Nat → Prop) (w : World) (q : Eqn) : Prop where
  l_ : SsOff own w q.lp q.ls
  r_ : SsOff own w q.rp q.rs
theorem EqnAt.step {own own' : Nat → Prop} {w w' : World} {q : Eqn} (h : EqnAt own w q) (k : Ofr own own' w w') : EqnAt own' w' q := ⟨h.l_.step k, h.r_.step k⟩
structure EqnR (q : Eqn) : Prop where
  left : q.left.size ≤ maxLen
  right : q.right.size ≤ maxLen
  ll : q.ls.length ≤ 10000
  rl : q.rs.length ≤ 10000
  ls : ∀ v ∈ q.ls, v.length ≤ maxLen
  rs : ∀ v ∈ q.rs, v.length ≤ maxLen
/-- found.take -/
def takeL (acc : List (List UInt8)) (q : Eqn) : Bool := !(bl q.left).isEmpty && !acc.contains (bl q.left) && q.rs.all acc.contains
def takeR (acc : List (List UInt8)) (q : Eqn) : Bool := !(bl q.right).isEmpty && !acc.contains (bl q.right) && q.ls.all acc.contains
def takeA (acc : List (List UInt8)) (q : Eqn) : List (List UInt8) := if takeL acc q then acc ++ [bl q.left] else if takeR acc q then acc ++ [bl q.right] else acc
def takeB (acc : List (List UInt8)) (q : Eqn) : Bool := takeL acc q || takeR acc q
theorem mk_bl (v : ByteArray) : (⟨(bl v).toArray⟩ : ByteArray) = v := by cases v; simp [bl]
theorem fourE {w : World} {b : Nat} {x0 x1 x2 x3 : Value} {t : TypeId} {fz : Nat × Nat} (h : w.heap[b]? = some (.cells #[x0, x1, x2, x3] t fz)) : w.cell? ⟨b, 0, none⟩ = some x0 ∧ w.cell? ⟨b, 1, none⟩ = some x1 ∧ w.cell? ⟨b, 2, none⟩ = some x2 ∧ w.cell? ⟨b, 3, none⟩ = some x3 :=
  ⟨by rw [Lib.cell_of_heap h]; rfl, by rw [Lib.cell_of_heap h]; rfl, by rw [Lib.cell_of_heap h]; rfl, by rw [Lib.cell_of_heap h]; rfl⟩
set_option maxHeartbeats 8000000 in
set_option maxRecDepth 100000 in
theorem tTake {B : Nat} {own : Nat → Prop} {b : Nat} {acc : List (List UInt8)} {w : World} (h : Fnd B own b acc w) (q : Eqn) (hq : EqnAt own w q) (hr : EqnR q) (hl : acc.length ≤ 9999) :
    Calls Tryz.prog 75 #[.pointer (some ⟨b, 0, none⟩), .agg #[.string q.left, .string q.right, .slice q.lp q.ls.length q.lc, .slice q.rp q.rs.length q.rc]] w (fun e w' => e = .returned (.bool (takeB acc q)) ∧ FPost B own b (takeA acc q) w w') := by
  obtain ⟨left, right, ls, rs, lp, lc, rp, rc⟩ := q
  simp only
  obtain ⟨V, hV⟩ : ∃ V, V = w.alloc (.cells #[.string left, .string right, .slice lp ls.length lc, .slice rp rs.length rc] 161) := ⟨_, rfl⟩
  have hbV : Below w.heap.size w V := by rw [hV]; exact below_alloc _ _
  have hsV : V.heap.size = w.heap.size + 1 := by rw [hV]; simp
  obtain ⟨x0, x1, x2, x3⟩ := fourE (show V.heap[w.heap.size]? = some (.cells #[.string left, .string right, .slice lp ls.length lc, .slice rp rs.length rc] 161 (0, 0)) by rw [hV]; exact heap_alloc_new w _)
  have hF := h.below hbV
  have hqV := hq.step (.of_below hbV)
  have HasL := Lib.hid (tHas hF left hr.left)
  have HasR := Lib.hid (tHas hF right hr.right)
  have AllL := Lib.hid (tAllF hF lp lc ls hqV.l_ hr.ll hr.ls)
  have AllR := Lib.hid (tAllF hF rp rc rs hqV.r_ hr.rl hr.rs)
  have hadd : ∀ v : ByteArray, v.size ≤ maxLen → acc.contains (bl v) = false → Hid (Calls Tryz.prog 70 #[.pointer (some ⟨b, 0, none⟩), .slice (some ⟨V.heap.size, 0, none⟩) 1 1] (V.alloc (.cells #[.string v] 9)) (fun e w' => e = .returned (.tuple #[]) ∧ FPost B own b (acc ++ [bl v]) w w')) := fun v hv hc => by
    have hb2 : Below V.heap.size V (V.alloc (.cells #[.string v] 9)) := below_alloc _ _
    have key := tAdd (hF.below hb2) (some ⟨V.heap.size, 0, none⟩) 1 [bl v] (.inr ⟨V.heap.size, 0, rfl, fun ho => by have := (h.lo _ ho).2; omega, by simp, fun i hi => by
      obtain rfl : i = 0 := by simpa using hi
      rw [Lib.cell_of_heap (heap_alloc_new V _)]
      show some (Value.string v) = some (.string ⟨(bl v).toArray⟩)
      rw [mk_bl]⟩) (by simp; omega) (by intro u hu; obtain rfl := List.mem_singleton.1 hu; rw [size_bl]; exact hv)
    refine Lib.hid (key.mono ?_)
    rintro e w' ⟨he, own', h1, h2⟩
    refine ⟨he, own', ?_, (Ofr.of_below hbV).trans ((Ofr.of_below hb2).trans h2)⟩
    have h3 : addL acc [bl v] = acc ++ [bl v] := by
      show addN acc (bl v) = _
      unfold addN
      rw [hc]
      rfl
    rw [← h3]
    exact h1
  have HSame : Hid (FPost B own b acc w V) := Lib.hid ⟨own, hF, .of_below hbV⟩
  have HLZ := Lib.hid hr.left
  have HRZ := Lib.hid hr.right
  have HADD := Lib.hid hadd
  clear h hq hr hl hbV hsV hF hqV hadd
  have hel : left.toList.isEmpty = (bl left).isEmpty := by simp [bl, ← ByteArray.toList_eq]
  have her : right.toList.isEmpty = (bl right).isEmpty := by simp [bl, ← ByteArray.toList_eq]
  obtain ⟨rA, hrA⟩ : ∃ rA, rA = takeA acc ⟨left, right, ls, rs, lp, lc, rp, rc⟩ := ⟨_, rfl⟩
  obtain ⟨rB, hrB⟩ : ∃ rB, rB = takeB acc ⟨left, right, ls, rs, lp, lc, rp, rc⟩ := ⟨_, rfl⟩
  rw [← hrA, ← hrB]
  unfold takeA at hrA
  unfold takeB at hrB
  have hcase : (takeL acc ⟨left, right, ls, rs, lp, lc, rp, rc⟩ = true ∧ (bl left).isEmpty = false ∧ acc.contains (bl left) = false ∧ rs.all acc.contains = true) ∨
      (takeL acc ⟨left, right, ls, rs, lp, lc, rp, rc⟩ = false ∧ ((bl left).isEmpty = true ∨ ((bl left).isEmpty = false ∧ acc.contains (bl left) = true) ∨ ((bl left).isEmpty = false ∧ acc.contains (bl left) = false ∧ rs.all acc.contains = false))) := by
    unfold takeL
    cases (bl left).isEmpty <;> cases acc.contains (bl left) <;> cases rs.all acc.contains <;> simp
  have hcase2 : (takeR acc ⟨left, right, ls, rs, lp, lc, rp, rc⟩ = true ∧ (bl right).isEmpty = false ∧ acc.contains (bl right) = false ∧ ls.all acc.contains = true) ∨
      (takeR acc ⟨left, right, ls, rs, lp, lc, rp, rc⟩ = false ∧ ((bl right).isEmpty = true ∨ ((bl right).isEmpty = false ∧ acc.contains (bl right) = true) ∨ ((bl right).isEmpty = false ∧ acc.contains (bl right) = false ∧ ls.all acc.contains = false))) := by
    unfold takeR
    cases (bl right).isEmpty <;> cases acc.contains (bl right) <;> cases ls.all acc.contains <;> simp
  rcases hcase with ⟨hL, he, hc, ha⟩ | ⟨hL, hd⟩
  · have HA := HADD.out left HLZ.out hc
    have HRA : Hid (rA = acc ++ [bl left]) := Lib.hid (by rw [hrA, hL]; rfl)
    have HRB : Hid (rB = true) := Lib.hid (by rw [hrB, hL]; rfl)
    rw [hc] at HasL
    rw [ha] at AllR
    rw [he] at hel
    clear hrA hrB hL hc ha he hcase2 her
    go_enter Tryz.func75, Tryz.ntmps75
    go_wp2_with fail
    rw [← hV]
    clear hV
    refine HasL.out.mono ?_
    rintro e w1 ⟨rfl, hw1⟩
    rw [hw1]
    clear hw1 w1
    go_wp2_with fail
    refine AllR.out.mono ?_
    rintro e w1 ⟨rfl, hw1⟩
    rw [hw1]
    clear hw1 w1
    go_wp2_with fail
    refine HA.out.mono ?_
    rintro e w1 ⟨rfl, hp⟩
    have HP := Lib.hid hp; clear hp
    go_wp2_with fail
    go_ret
    exact ⟨by rw [HRB.out]; rfl, by rw [HRA.out]; exact HP.out⟩
  · rcases hcase2 with ⟨hR, he2, hc2, ha2⟩ | ⟨hR, hd2⟩
    · have HA := HADD.out right HRZ.out hc2
      have HRA : Hid (rA = acc ++ [bl right]) := Lib.hid (by rw [hrA, hL, hR]; rfl)
      have HRB : Hid (rB = true) := Lib.hid (by rw [hrB, hL, hR]; rfl)
      rw [hc2] at HasR
      rw [ha2] at AllL
      rw [he2] at her
      clear hrA hrB hL hR hc2 ha2 he2
      rcases hd with he | ⟨he, hc⟩ | ⟨he, hc, ha⟩
      · rw [he] at hel
        clear he
        go_enter Tryz.func75, Tryz.ntmps75
        go_wp2_with fail
        rw [← hV]
        clear hV
        refine HasR.out.mono ?_
        rintro e w1 ⟨rfl, hw1⟩
        rw [hw1]
        clear hw1 w1
        go_wp2_with fail
        refine AllL.out.mono ?_
        rintro e w1 ⟨rfl, hw1⟩
        rw [hw1]
        clear hw1 w1
        go_wp2_with fail
        refine HA.out.mono ?_
        rintro e w1 ⟨rfl, hp⟩
        have HP := Lib.hid hp; clear hp
        go_wp2_with fail
        go_ret
        exact ⟨by rw [HRB.out]; rfl, by rw [HRA.out]; exact HP.out⟩
      · rw [he] at hel
        rw [hc] at HasL
        clear he hc
        go_enter Tryz.func75, Tryz.ntmps75
        go_wp2_with fail
        rw [← hV]
        clear hV
        refine HasL.out.mono ?_
        rintro e w1 ⟨rfl, hw1⟩
        rw [hw1]
        clear hw1 w1
        go_wp2_with fail
        refine HasR.out.mono ?_
        rintro e w1 ⟨rfl, hw1⟩
        rw [hw1]
        clear hw1 w1
        go_wp2_with fail
        refine AllL.out.mono ?_
        rintro e w1 ⟨rfl, hw1⟩
        rw [hw1]
        clear hw1 w1
        go_wp2_with fail
        refine HA.out.mono ?_
        rintro e w1 ⟨rfl, hp⟩
        have HP := Lib.hid hp; clear hp
        go_wp2_with fail
        go_ret
        exact ⟨by rw [HRB.out]; rfl, by rw [HRA.out]; exact HP.out⟩
      · rw [he] at hel
        rw [hc] at HasL
        rw [ha] at AllR
        clear he hc ha
        go_enter Tryz.func75, Tryz.ntmps75
        go_wp2_with fail
        rw [← hV]
        clear hV
        refine HasL.out.mono ?_
        rintro e w1 ⟨rfl, hw1⟩
        rw [hw1]
        clear hw1 w1
        go_wp2_with fail
        refine AllR.out.mono ?_
        rintro e w1 ⟨rfl, hw1⟩
        rw [hw1]
        clear hw1 w1
        go_wp2_with fail
        refine HasR.out.mono ?_
        rintro e w1 ⟨rfl, hw1⟩
        rw [hw1]
        clear hw1 w1
        go_wp2_with fail
        refine AllL.out.mono ?_
        rintro e w1 ⟨rfl, hw1⟩
        rw [hw1]
        clear hw1 w1
        go_wp2_with fail
        refine HA.out.mono ?_
        rintro e w1 ⟨rfl, hp⟩
        have HP := Lib.hid hp; clear hp
        go_wp2_with fail
        go_ret
        exact ⟨by rw [HRB.out]; rfl, by rw [HRA.out]; exact HP.out⟩
    · have HRA : Hid (rA = acc) := Lib.hid (by rw [hrA, hL, hR]; rfl)
      have HRB : Hid (rB = false) := Lib.hid (by rw [hrB, hL, hR]; rfl)
      clear hrA hrB hL hR HADD
      rcases hd with he | ⟨he, hc⟩ | ⟨he, hc, ha⟩ <;> rcases hd2 with he2 | ⟨he2, hc2⟩ | ⟨he2, hc2, ha2⟩
      · rw [he] at hel
        rw [he2] at her
        clear he he2
        go_enter Tryz.func75, Tryz.ntmps75
        go_wp2_with fail
        rw [← hV]
        clear hV
        go_ret
        exact ⟨by rw [HRB.out]; rfl, by rw [HRA.out]; exact HSame.out⟩
      · rw [he] at hel
        rw [he2] at her
        rw [hc2] at HasR
        clear he he2 hc2
        go_enter Tryz.func75, Tryz.ntmps75
        go_wp2_with fail
        rw [← hV]
        clear hV
        refine HasR.out.mono ?_
        rintro e w1 ⟨rfl, hw1⟩
        rw [hw1]
        clear hw1 w1
        go_wp2_with fail
        go_ret
        exact ⟨by rw [HRB.out]; rfl, by rw [HRA.out]; exact HSame.out⟩
      · rw [he] at hel
        rw [he2] at her
        rw [hc2] at HasR
        rw [ha2] at AllL
        clear he he2 hc2 ha2
        go_enter Tryz.func75, Tryz.ntmps75
        go_wp2_with fail
        rw [← hV]
        clear hV
        refine HasR.out.mono ?_
        rintro e w1 ⟨rfl, hw1⟩
        rw [hw1]
        clear hw1 w1
        go_wp2_with fail
        refine AllL.out.mono ?_
        rintro e w1 ⟨rfl, hw1⟩
        rw [hw1]
        clear hw1 w1
        go_wp2_with fail
        go_ret
        exact ⟨by rw [HRB.out]; rfl, by rw [HRA.out]; exact HSame.out⟩
      · rw [he] at hel
        rw [he2] at her
        rw [hc] at HasL
        clear he he2 hc
        go_enter Tryz.func75, Tryz.ntmps75
        go_wp2_with fail
        rw [← hV]
        clear hV
        refine HasL.out.mono ?_
        rintro e w1 ⟨rfl, hw1⟩
        rw [hw1]
        clear hw1 w1
        go_wp2_with fail
        go_ret
        exact ⟨by rw [HRB.out]; rfl, by rw [HRA.out]; exact HSame.out⟩
      · rw [he] at hel
        rw [he2] at her
        rw [hc] at HasL
        rw [hc2] at HasR
        clear he he2 hc hc2
        go_enter Tryz.func75, Tryz.ntmps75
        go_wp2_with fail
        rw [← hV]
        clear hV
        refine HasL.out.mono ?_
        rintro e w1 ⟨rfl, hw1⟩
        rw [hw1]
        clear hw1 w1
        go_wp2_with fail
        refine HasR.out.mono ?_
        rintro e w1 ⟨rfl, hw1⟩
        rw [hw1]
        clear hw1 w1
        go_wp2_with fail
        go_ret
        exact ⟨by rw [HRB.out]; rfl, by rw [HRA.out]; exact HSame.out⟩
      · rw [he] at hel
        rw [he2] at her
        rw [hc] at HasL
        rw [hc2] at HasR
        rw [ha2] at AllL
        clear he he2 hc hc2 ha2
        go_enter Tryz.func75, Tryz.ntmps75
        go_wp2_with fail
        rw [← hV]
        clear hV
        refine HasL.out.mono ?_
        rintro e w1 ⟨rfl, hw1⟩
        rw [hw1]
        clear hw1 w1
        go_wp2_with fail
        refine HasR.out.mono ?_
        rintro e w1 ⟨rfl, hw1⟩
        rw [hw1]
        clear hw1 w1
        go_wp2_with fail
        refine AllL.out.mono ?_
        rintro e w1 ⟨rfl, hw1⟩
        rw [hw1]
        clear hw1 w1
        go_wp2_with fail
        go_ret
        exact ⟨by rw [HRB.out]; rfl, by rw [HRA.out]; exact HSame.out⟩
      · rw [he] at hel
        rw [he2] at her
        rw [hc] at HasL
        rw [ha] at AllR
        clear he he2 hc ha
        go_enter Tryz.func75, Tryz.ntmps75
        go_wp2_with fail
        rw [← hV]
        clear hV
        refine HasL.out.mono ?_
        rintro e w1 ⟨rfl, hw1⟩
        rw [hw1]
        clear hw1 w1
        go_wp2_with fail
        refine AllR.out.mono ?_
        rintro e w1 ⟨rfl, hw1⟩
        rw [hw1]
        clear hw1 w1
        go_wp2_with fail
        go_ret
        exact ⟨by rw [HRB.out]; rfl, by rw [HRA.out]; exact HSame.out⟩
      · rw [he] at hel
        rw [he2] at her
        rw [hc] at HasL
        rw [ha] at AllR
        rw [hc2] at HasR
        clear he he2 hc ha hc2
        go_enter Tryz.func75, Tryz.ntmps75
        go_wp2_with fail
        rw [← hV]
        clear hV
        refine HasL.out.mono ?_
        rintro e w1 ⟨rfl, hw1⟩
        rw [hw1]
        clear hw1 w1
        go_wp2_with fail
        refine AllR.out.mono ?_
        rintro e w1 ⟨rfl, hw1⟩
        rw [hw1]
        clear hw1 w1
        go_wp2_with fail
        refine HasR.out.mono ?_
        rintro e w1 ⟨rfl, hw1⟩
        rw [hw1]
        clear hw1 w1
        go_wp2_with fail
        go_ret
        exact ⟨by rw [HRB.out]; rfl, by rw [HRA.out]; exact HSame.out⟩
      · rw [he] at hel
        rw [he2] at her
        rw [hc] at HasL
        rw [ha] at AllR
        rw [hc2] at HasR
        rw [ha2] at AllL
        clear he he2 hc ha hc2 ha2
        go_enter Tryz.func75, Tryz.ntmps75
        go_wp2_with fail
        rw [← hV]
        clear hV
        refine HasL.out.mono ?_
        rintro e w1 ⟨rfl, hw1⟩
        rw [hw1]
        clear hw1 w1
        go_wp2_with fail
        refine AllR.out.mono ?_
        rintro e w1 ⟨rfl, hw1⟩
        rw [hw1]
        clear hw1 w1
        go_wp2_with fail
        refine HasR.out.mono ?_
        rintro e w1 ⟨rfl, hw1⟩
        rw [hw1]
        clear hw1 w1
        go_wp2_with fail
        refine AllL.out.mono ?_
        rintro e w1 ⟨rfl, hw1⟩
        rw [hw1]
        clear hw1 w1
        go_wp2_with fail
        go_ret
        exact ⟨by rw [HRB.out]; rfl, by rw [HRA.out]; exact HSame.out⟩
end Go.Proofs.YtafjjececdhmjaaGreat
