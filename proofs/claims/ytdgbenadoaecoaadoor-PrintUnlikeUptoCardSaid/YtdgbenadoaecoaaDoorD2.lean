/- The contracts of plain and BeyondJob. Conditions: what is handed in lies in memory as it is told. -/
import Derived.Test.YtdgbenadoaecoaaDoorD1
import Derived.Test.YtdgbenadoaecoaaDoorS34
import Derived.Test.YtdgbenadoaecoaaDoorV5
namespace Go.Proofs.YtdgbenadoaecoaaDoor
open Go.RowKit

set_option maxHeartbeats 1000000 in
theorem pPlain (s : ByteArray) (w : World) (hs : s.size ≤ maxLen) :
    Calls Tryd.prog 9 #[.string s] w fun e w' => e = .returned (.bool ((bl s).all plainB)) ∧ w = w' := by
  unfold maxLen at hs
  obtain ⟨R, hR⟩ : ∃ R, R = (bl s).all plainB := ⟨_, rfl⟩
  rw [← hR]
  have HR := Lib.hid hR; clear hR
  go_enter Tryd.func9, Tryd.ntmps9
  go_wp2_with fail
  go_loop [3] (fun i => ∃ k : Nat, k ≤ s.size ∧ i = .int .i64 k ∧ ∀ j, (h : j < s.size) → j < k → plainB s[j] = true) (fun i => s.size - (intOf i).toNat)
  case atStart => exact ⟨0, by omega, rfl, fun j _ h => by omega⟩
  case round =>
    obtain ⟨k, hk, rfl, hw⟩ := hrel
    have HW := Lib.hid hw; clear hw
    by_cases hlt : k < s.size
    · by_cases h1 : s[k].toNat < 32
      · have HE := Lib.hid (show R = false by rw [HR.out]; exact all_false plainB s k hlt (by simp [plainB]; omega))
        go_wp2_with fail
        go_ret
        exact ⟨by rw [HE.out]; rfl, rfl⟩
      · by_cases h2 : 126 < s[k].toNat
        · have HE := Lib.hid (show R = false by rw [HR.out]; exact all_false plainB s k hlt (by simp [plainB]; omega))
          go_wp2_with fail
          go_ret
          exact ⟨by rw [HE.out]; rfl, rfl⟩
        · have HP := Lib.hid (show plainB s[k] = true by simp [plainB]; omega)
          go_wp2_with fail
          exact ⟨⟨k + 1, by omega, by go_num, fun j hj h => by
            by_cases e : j = k
            · subst e; exact HP.out
            · exact HW.out j hj (by omega)⟩, by simp [intOf]; omega⟩
    · have HE := Lib.hid (show R = true by rw [HR.out]; exact all_true plainB s (fun j h => HW.out j h (by omega)))
      go_wp2_with fail
      go_ret
      exact ⟨by rw [HE.out]; rfl, rfl⟩
def Bf2Rel (fs : List Fc) (w : World) (v i : Value) (wr : World) : Prop := ∃ (j : Nat) (n : Int), i = .int .i64 j ∧ v = .int .i64 n ∧ j ≤ fs.length ∧ (j : Int) ≤ n ∧ n ≤ 1048576 ∧ (∀ m, (h : m < fs.length) → m < j → fs[m].xs.length ≤ 1048576) ∧ wr = w
def Bf2Post (fs : List Fc) (w : World) (r : Ending) (w' : World) : Prop := ∃ b : Bool, r = .returned (.bool b) ∧ (b = false → fs.length ≤ 1048576 ∧ ∀ f ∈ fs, f.xs.length ≤ 1048576) ∧ w' = w
set_option maxHeartbeats 2000000 in
theorem beyondFacts2 (fs : List Fc) (p : Option Addr) (cap : Nat) (w : World) (hs : FcsAt w p fs) (hr : ∀ f ∈ fs, FcR f) (hn : fs.length ≤ 4398046511104) :
    Calls Tryd.prog 17 #[.slice p fs.length cap] w (Bf2Post fs w) := by
  have HS := Lib.hid hs; clear hs
  have HR := Lib.hid hr; clear hr
  go_enter Tryd.func17, Tryd.ntmps17
  go_wp2_with fail
  go_loopw [3, 4] (fun v i wr => Bf2Rel fs w v i wr) (fun _ i _ => fs.length - (intOf i).toNat)
  case atStart => exact ⟨0, 0, rfl, rfl, by omega, by omega, by omega, fun m _ h => by omega, rfl⟩
  case round =>
    obtain ⟨j, n, rfl, rfl, hj, hn1, hn2, hall, rfl⟩ := hrel
    have HALL := Lib.hid hall; clear hall
    by_cases hlt : j < fs.length
    · rcases HS.out.1 with h0 | ⟨b, o, hp, hb, hc⟩
      · omega
      subst hp
      have hck := hc j hlt
      clear hc
      have hxl := (HR.out fs[j] (List.getElem_mem hlt)).n_
      obtain ⟨q, cp, hsv, hm, _⟩ := HS.out.2 fs[j] (List.getElem_mem hlt)
      obtain ⟨x, hx⟩ : ∃ x, x = fs[j] := ⟨_, rfl⟩
      rw [← hx] at hck hxl hsv hm
      have HXX := Lib.hid hx; clear hx
      obtain ⟨c0, c1⟩ := hck
      rw [hsv] at c1
      clear hsv
      by_cases hbig : 1048576 < n + 1 + (x.xs.length : Int)
      · go_wp2_with fail
        go_ret
        exact ⟨true, rfl, (fun h => nomatch h), rfl⟩
      · go_wp2_with fail
        exact ⟨⟨j + 1, n + 1 + (x.xs.length : Int), by go_num, rfl, by omega, by omega, by omega, fun m hm hmj => by
          by_cases e : m = j
          · subst e; rw [← HXX.out]; omega
          · exact HALL.out m hm (by omega), rfl⟩, by simp [intOf]; omega⟩
    · go_wp2_with fail
      go_ret
      exact ⟨false, rfl, (fun _ => ⟨by omega, fun f hf => by
        obtain ⟨m, hm, rfl⟩ := List.mem_iff_getElem.1 hf
        exact HALL.out m hm (by omega)⟩), rfl⟩
theorem pRuleX (d : Nat) (x : Ru d) (w : World) (hx : RuAt w x) (hr : RuB x) (hT : Tabs w) (hRl : RelsAt w) (hFo : FoldsAt w) :
    Calls Tryd.prog 8 #[.agg #[.string x.p, .slice x.hp x.hs.length x.hc, .slice x.bp x.bs.length x.bc]] w (TextPost x.ok x.l w) :=
  pRuleT d x.p x.hp x.hc x.hs x.bp x.bc x.bs w hx.h_ hx.b_ hr.r_ hT hRl hFo
def BjPost (n : Nat) (fs : List Fc) (w : World) (r : Ending) (w' : World) : Prop := ∃ b : Bool, r = .returned (.bool b) ∧ (b = false → n ≤ 1048576 ∧ fs.length ≤ 1048576 ∧ ∀ f ∈ fs, f.xs.length ≤ 1048576) ∧ Below w.heap.size w w'
theorem beyondJob (d : Nat) (xs : List (Ru d)) (p : Option Addr) (cap : Nat) (fs : List Fc) (q : Option Addr) (cap2 : Nat) (w : World) (hs : RusAt w d p xs) (hr : ∀ x ∈ xs, RuB x) (hf : FcsAt w q fs) (hfr : ∀ f ∈ fs, FcR f) (hn : fs.length ≤ 4398046511104) :
    Calls Tryd.prog 6 #[.slice p xs.length cap, .slice q fs.length cap2] w (BjPost xs.length fs w) := by
  have HF := Lib.hid hf; clear hf
  go_enter Tryd.func6, Tryd.ntmps6
  go_wp2_with fail
  refine (beyondRules d xs p cap _ hs hr).mono ?_
  rintro r w1 ⟨b, rfl, hb, hb1⟩
  have Hb := Lib.hid hb1; clear hb1
  cases b
  case true =>
    go_wp2_with fail
    go_ret
    exact ⟨true, rfl, (fun h => nomatch h), Hb.out⟩
  case false =>
    have hm := hb rfl
    clear hb
    go_wp2_with fail
    refine (beyondFacts2 fs q cap2 _ (HF.out.up Hb.out) hfr hn).mono ?_
    rintro r w2 ⟨b, rfl, hb, rfl⟩
    have HB2 := Lib.hid hb; clear hb
    go_wp2_with fail
    go_ret
    exact ⟨b, rfl, fun h => ⟨hm, HB2.out h⟩, Hb.out⟩
end Go.Proofs.YtdgbenadoaecoaaDoor
