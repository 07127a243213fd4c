/- The sort of signatures, the search among them: the contracts of Infer's closures, of slices.SortFunc and slices.BinarySearchFunc at them. Conditions: the row lies in memory as it is told. -/
import Derived.Test.YtafjjececdhmjaaGreatMY30
import Derived.Test.YtafjjececdhmjaaGreatMShelf2
namespace Go.Proofs.YtafjjececdhmjaaGreat
open Go.RowKit Go.Maps Go.Sort

instance : Inhabited Sg := ⟨⟨⟨#[]⟩, 0, []⟩⟩
theorem tCompare (a b : ByteArray) (w : World) : Calls Tryz.prog 21 #[.string a, .string b] w fun e w' => e = .returned (.int .i64 (Lib.compareBytes (bl a) (bl b))) ∧ w' = w := Tryz.strings_Compare a b w
def cfSg (x y : Sg) : Int := Lib.compareBytes (bl x.name) (bl y.name)
theorem cmp_self : ∀ a : List UInt8, Lib.compareBytes a a = 0
  | [] => rfl
  | x :: r => by
    unfold Lib.compareBytes
    rw [if_neg (by simp), if_neg (by simp)]
    exact cmp_self r
theorem cmp_lt_iff : ∀ a b : List UInt8, Lib.compareBytes a b < 0 ↔ a < b
  | [], [] => by simp [Lib.compareBytes]
  | [], _ :: _ => by simp [Lib.compareBytes]
  | _ :: _, [] => by simp [Lib.compareBytes]
  | x :: r, y :: s => by
    have ih := cmp_lt_iff r s
    unfold Lib.compareBytes
    rw [List.cons_lt_cons_iff]
    by_cases h1 : x < y
    · simp [h1]
    · by_cases h2 : y < x
      · have h3 : x ≠ y := fun e => by rw [e] at h2; exact absurd h2 (by simp)
        simp [h1, h2, h3]
      · have h3 : x = y := UInt8.le_antisymm (by simpa using h2) (by simpa using h1)
        simp [h3, ih]
theorem cmp_zero : ∀ a b : List UInt8, Lib.compareBytes a b = 0 ↔ a = b
  | [], [] => by simp [Lib.compareBytes]
  | [], _ :: _ => by simp [Lib.compareBytes]
  | _ :: _, [] => by simp [Lib.compareBytes]
  | x :: r, y :: s => by
    have ih := cmp_zero r s
    unfold Lib.compareBytes
    by_cases h1 : x < y
    · have h3 : x ≠ y := fun e => by rw [e] at h1; exact absurd h1 (by simp)
      simp [h1, h3]
    · by_cases h2 : y < x
      · have h3 : x ≠ y := fun e => by rw [e] at h2; exact absurd h2 (by simp)
        simp [h1, h2, h3]
      · have h3 : x = y := UInt8.le_antisymm (by simpa using h2) (by simpa using h1)
        simp [h3, ih]
theorem lt_sg (x y : Sg) : ltOf cfSg x y = decide (bl x.name < bl y.name) := by
  unfold ltOf cfSg
  exact decide_eq_decide.2 (cmp_lt_iff _ _)
theorem swo_sg : SWO (ltOf cfSg) where
  irrefl x := by rw [lt_sg]; simp
  trans x y z h1 h2 := by rw [lt_sg] at *; simp only [decide_eq_true_eq] at *; exact List.lt_trans h1 h2
  ntrans x y z h1 h2 := by rw [lt_sg] at *; simp only [decide_eq_false_iff_not] at *; exact fun h => by
                             have h3 := List.not_lt.1 h1
                             have h4 := List.not_lt.1 h2
                             exact (List.not_lt.2 (List.le_trans h4 h3)) h
set_option maxHeartbeats 1000000 in
/-- Infer's first closure: which of two signatures comes first. -/
theorem tLess (x y : Sg) (W : World) : Calls Tryz.prog 20 #[.agg x.cells.toArray, .agg y.cells.toArray] W fun e w' => e = .returned (.int .i64 (cfSg x y)) ∧ ∃ q os', w' = grow (W.drewN q) os' := by
  obtain ⟨n1, c1, l1⟩ := x
  obtain ⟨n2, c2, l2⟩ := y
  have hcon := fun W' => tCompare n1 n2 W'
  have HR := Lib.hid (show cfSg ⟨n1, c1, l1⟩ ⟨n2, c2, l2⟩ = Lib.compareBytes (bl n1) (bl n2) from rfl)
  rw [HR.out]
  clear HR
  generalize Lib.compareBytes (bl n1) (bl n2) = r at hcon ⊢
  show Calls _ _ #[.agg #[.string n1, .slice (some ⟨c1, 0, none⟩) l1.length l1.length], .agg #[.string n2, .slice (some ⟨c2, 0, none⟩) l2.length l2.length]] W _
  go_enter Tryz.func20, Tryz.ntmps20
  go_wp2_with fail
  refine (hcon _).mono ?_
  rintro e w' ⟨rfl, hw⟩
  rw [hw]
  clear hw
  go_wp2_with fail
  go_ret
  exact ⟨rfl, 0, _, by rw [alloc_eq_grow, alloc_eq_grow, grow_grow]; rfl⟩
set_option maxHeartbeats 1000000 in
/-- Infer's second closure: a signature against a name. -/
theorem tAgainst (x : Sg) (b : ByteArray) (W : World) : Calls Tryz.prog 23 #[.agg #[.string x.name, .slice (some ⟨x.cp, 0, none⟩) x.cols.length x.cols.length], .string b] W fun e w' => e = .returned (.int .i64 (Lib.compareBytes (bl x.name) (bl b))) ∧ Below W.heap.size W w' := by
  obtain ⟨n1, c1, l1⟩ := x
  have hcon := fun W' => tCompare n1 b W'
  simp only
  have HB := Lib.hid (below_alloc W (.cells #[.string n1, .slice (some ⟨c1, 0, none⟩) l1.length l1.length] 46))
  generalize Lib.compareBytes (bl n1) (bl b) = r at hcon ⊢
  go_enter Tryz.func23, Tryz.ntmps23
  go_wp2_with fail
  refine (hcon _).mono ?_
  rintro e w' ⟨rfl, hw⟩
  rw [hw]
  clear hw
  go_wp2_with fail
  go_ret
  exact ⟨rfl, HB.out⟩
theorem cmpLays20 (blk off size : Nat) (w : World) : CmpLays Tryz.prog 20 #[] Sg.cells 2 cfSg blk off size w := fun _ _ _ _ x y => tLess x y _
theorem isAggSg (w : World) : (isAgg 46).run Tryz.prog w = .ok true w := by kernel_rfl
theorem sizeOfSg (w : World) : (Go.sizeOf 46).run Tryz.prog w = .ok 2 w := by kernel_rfl
theorem enterLess (args : Array Value) (w : World) : (callFunc 20 args).run Tryz.prog w = .ok (.enter 20 args) w := by kernel_rfl
theorem enterAgainst (args : Array Value) (w : World) : (callFunc 23 args).run Tryz.prog w = .ok (.enter 23 args) w := by kernel_rfl
/-- The sort. -/
theorem tSortSg (blk cap : Nat) (d : Array Sg) (w : World) (hH : HoldsK Sg.cells 2 w blk 0 d) (hblk : blk < w.heap.size) (hsz : d.size < 1000000000000) :
    Calls Tryz.prog 19 #[.slice (some ⟨blk, 0, none⟩) d.size cap, .func (.func 20) #[] #[]] w fun e w' =>
      e = .returned (.tuple #[]) ∧ ∃ d' n os, PermIn 0 d.size d d' ∧ SortedIn (ltOf cfSg) 0 d.size d' ∧ w' = sortWorldK Sg.cells 2 w blk 0 n d' os :=
  AnyQ.slices_SortFunc Tryz.sortSg 2 isAggSg sizeOfSg Sg.cells (fun _ => rfl) (fun x v hv => by simp [Sg.cells] at hv; rcases hv with rfl | rfl <;> rfl) cfSg swo_sg 20 #[] blk 0 cap d w enterLess (cmpLays20 blk 0 d.size w) hH hblk (by omega)
theorem tSortNone (p : Option Addr) (cap : Nat) (w : World) : Calls Tryz.prog 19 #[.slice p 0 cap, .func (.func 20) #[] #[]] w fun e w' => e = .returned (.tuple #[]) ∧ w' = w :=
  AnyF.slices_SortFunc_none Tryz.sortSg p cap _ w
/-- Signatures in a row of memory. -/
def SgRow (w : World) (blk : Nat) (d : List Sg) : Prop := blk < w.heap.size ∧ ∀ i, (h : i < d.length) → w.cell? ⟨blk, i * 2, none⟩ = some (.string d[i].name) ∧ w.cell? ⟨blk, i * 2 + 1, none⟩ = some (.slice (some ⟨d[i].cp, 0, none⟩) d[i].cols.length d[i].cols.length)
theorem SgRow.off {w w' : World} {blk : Nat} {d : List Sg} (h : SgRow w blk d) (hb : w'.heap[blk]? = w.heap[blk]?) (hs : w.heap.size ≤ w'.heap.size) : SgRow w' blk d :=
  ⟨Nat.lt_of_lt_of_le h.1 hs, fun i hi => ⟨(World.cell?_of_block (w := w) (a := ⟨blk, i * 2, none⟩) hb).trans (h.2 i hi).1, (World.cell?_of_block (w := w) (a := ⟨blk, i * 2 + 1, none⟩) hb).trans (h.2 i hi).2⟩⟩
/-- What is known in the search: where it cannot be. -/
structure BsR (d : List Sg) (b : ByteArray) (lo hi : Nat) : Prop where
  le : lo ≤ hi
  n_ : hi ≤ d.length
  lo_ : ∀ t, (h : t < d.length) → t < lo → bl d[t].name < bl b
  hi_ : ∀ t, (h : t < d.length) → hi ≤ t → ¬ bl d[t].name < bl b
set_option maxHeartbeats 4000000 in
set_option maxRecDepth 100000 in
theorem tSearch (blk cap : Nat) (d : List Sg) (b : ByteArray) (w : World) (hR : SgRow w blk d) (hs : ∀ i j, (hi : i < d.length) → (hj : j < d.length) → i < j → bl d[i].name < bl d[j].name) (j0 : Nat) (hj0 : j0 < d.length) (hb0 : bl d[j0].name = bl b) (hn : d.length ≤ 1000000000000) :
    Calls Tryz.prog 22 #[.slice (some ⟨blk, 0, none⟩) d.length cap, .string b, .func (.func 23) #[] #[]] w fun e w' => (∃ ok : Bool, e = .returned (.tuple #[.int .i64 (j0 : Int), .bool ok])) ∧ Below w.heap.size w w' := by
  have HR := Lib.hid hR; clear hR
  have HS := Lib.hid hs; clear hs
  have HB0 := Lib.hid hb0; clear hb0
  have hF := enterAgainst
  go_enter Tryz.func22, Tryz.ntmps22
  go_wp2_with fail
  go_loopw [9, 10, 11] (fun i j _ wr => ∃ lo hi : Nat, i = .int .i64 lo ∧ j = .int .i64 hi ∧ BsR d b lo hi ∧ Below w.heap.size w wr) (fun i j _ _ => (intOf j).toNat - (intOf i).toNat)
  case atStart => exact ⟨0, d.length, rfl, rfl, ⟨by omega, by omega, fun t _ h => by omega, fun t h1 h2 => by omega⟩, Below.refl _ _⟩
  case round =>
    obtain ⟨lo, hi, rfl, rfl, hbs, hb⟩ := hrel
    have HBS := Lib.hid hbs
    have HB := Lib.hid hb; clear hb
    have hle := hbs.le
    have hnn := hbs.n_
    clear hbs
    by_cases hlt : lo < hi
    · have hhd : (lo + hi) / 2 < d.length := by omega
      have hh0 : (0 : Int) ≤ (((lo + hi) / 2 : Nat) : Int) := by omega
      have hh3 : (((lo + hi) / 2 : Nat) : Int) < (d.length : Int) := by omega
      obtain ⟨y0, y1⟩ := (HR.out.off (HB.out.block blk HR.out.1) HB.out.size).2 _ hhd
      have HLO := Lib.hid (fun (h : bl (d[(lo + hi) / 2]).name < bl b) => (show BsR d b ((lo + hi) / 2 + 1) hi from ⟨by omega, HBS.out.n_, fun t h1 h2 => by
        by_cases e : t = (lo + hi) / 2
        · subst e; exact h
        · exact List.lt_trans (HS.out t _ h1 hhd (by omega)) h, HBS.out.hi_⟩))
      have HHI := Lib.hid (fun (h : ¬ bl (d[(lo + hi) / 2]).name < bl b) => (show BsR d b lo ((lo + hi) / 2) from ⟨by omega, by omega, HBS.out.lo_, fun t h1 h2 => by
        by_cases e : t = (lo + hi) / 2
        · subst e; exact h
        · exact fun h3 => h (List.lt_trans (HS.out _ t hhd h1 (by omega)) h3)⟩))
      obtain ⟨x, hx⟩ : ∃ x, x = d[(lo + hi) / 2] := ⟨_, rfl⟩
      rw [← hx] at y0 y1 HLO HHI
      clear hx
      have HC := fun W => tAgainst x b W
      obtain ⟨c, hc⟩ : ∃ c, c = Lib.compareBytes (bl x.name) (bl b) := ⟨_, rfl⟩
      rw [← hc] at HC
      have HCL := Lib.hid (show c < 0 ↔ bl x.name < bl b by rw [hc]; exact cmp_lt_iff _ _)
      clear hc
      by_cases hcn : c < 0
      · have HN := Lib.hid (HLO.out (HCL.out.1 hcn))
        go_wp2_with fail
        refine (HC _).mono ?_
        rintro e w1 ⟨rfl, hb1⟩
        have HB1 := Lib.hid (HB.out.trans (hb1.mono HB.out.size))
        clear hb1 y0 y1
        go_wp2_with fail
        go_roundw
        case rel => exact ⟨(lo + hi) / 2 + 1, hi, by go_num, rfl, HN.out, HB1.out⟩
        case measure => simp [intOf]; omega
      · have HN := Lib.hid (HHI.out (fun h => hcn (HCL.out.2 h)))
        go_wp2_with fail
        refine (HC _).mono ?_
        rintro e w1 ⟨rfl, hb1⟩
        have HB1 := Lib.hid (HB.out.trans (hb1.mono HB.out.size))
        clear hb1 y0 y1
        go_wp2_with fail
        go_roundw
        case rel => exact ⟨lo, (lo + hi) / 2, rfl, rfl, HN.out, HB1.out⟩
        case measure => simp [intOf]; omega
    · obtain rfl : lo = hi := by omega
      have hj : lo = j0 := by
        have h1 : ¬ j0 < lo := fun h => by
          have := HBS.out.lo_ j0 hj0 h
          rw [HB0.out] at this
          exact List.lt_irrefl _ this
        refine Classical.byContradiction fun h2 => ?_
        have h3 := HBS.out.hi_ lo (by omega) (Nat.le_refl _)
        have h4 := HS.out lo j0 (by omega) hj0 (by omega)
        rw [HB0.out] at h4
        exact h3 h4
      subst hj
      obtain ⟨y0, y1⟩ := (HR.out.off (HB.out.block blk HR.out.1) HB.out.size).2 _ hj0
      have hh0 : (0 : Int) ≤ (lo : Int) := by omega
      have hh3 : (lo : Int) < (d.length : Int) := by omega
      obtain ⟨x, hx⟩ : ∃ x, x = d[lo] := ⟨_, rfl⟩
      rw [← hx] at y0 y1
      clear hx HB0
      have HC := fun W => tAgainst x b W
      obtain ⟨c, hc⟩ : ∃ c, c = Lib.compareBytes (bl x.name) (bl b) := ⟨_, rfl⟩
      rw [← hc] at HC
      clear hc
      go_wp2_with fail
      refine (HC _).mono ?_
      rintro e w1 ⟨rfl, hb1⟩
      have HB1 := Lib.hid (HB.out.trans (hb1.mono HB.out.size))
      clear hb1 y0 y1
      cases hcz : (c == 0) with
      | true =>
        go_wp2_with fail
        refine bodyPost_ret (results_tmp2 rfl _ _ _) rfl ?_
        exact ⟨⟨_, rfl⟩, HB1.out⟩
      | false =>
        go_wp2_with fail
        refine bodyPost_ret (results_tmp2 rfl _ _ _) rfl ?_
        exact ⟨⟨_, rfl⟩, HB1.out⟩
end Go.Proofs.YtafjjececdhmjaaGreat
