/- The walk through the terms of things, with the function that gathers variables. Conditions: the thing lies in memory as it is told; at most 10000 terms. -/
import Derived.Test.YtafjjececdhmjaaGreatNS2
namespace Go.Proofs.YtafjjececdhmjaaGreat
open Go.RowKit Go.Maps

theorem asR_R (v : Value) (w : World) : (Instr.typeAssert (.iface 165 v) 20 165 true).run Tryz.prog w = .ok (.tuple #[v, .bool true]) w := by kernel_rfl
theorem asL_R (v : Value) (w : World) : (Instr.typeAssert (.iface 209 v) 20 165 true).run Tryz.prog w = .ok (.tuple #[.pointer none, .bool false]) w := by kernel_rfl
theorem asL_L (v : Value) (w : World) : (Instr.typeAssert (.iface 209 v) 20 209 true).run Tryz.prog w = .ok (.tuple #[v, .bool true]) w := by kernel_rfl
theorem asE_R (v : Value) (w : World) : (Instr.typeAssert (.iface 191 v) 20 165 true).run Tryz.prog w = .ok (.tuple #[.pointer none, .bool false]) w := by kernel_rfl
theorem asE_L (v : Value) (w : World) : (Instr.typeAssert (.iface 191 v) 20 209 true).run Tryz.prog w = .ok (.tuple #[.pointer none, .bool false]) w := by kernel_rfl
theorem asE_E (v : Value) (w : World) : (Instr.typeAssert (.iface 191 v) 20 191 true).run Tryz.prog w = .ok (.tuple #[v, .bool true]) w := by kernel_rfl
theorem asA_R (v : Value) (w : World) : (Instr.typeAssert (.iface 190 v) 20 165 true).run Tryz.prog w = .ok (.tuple #[.pointer none, .bool false]) w := by kernel_rfl
theorem asA_L (v : Value) (w : World) : (Instr.typeAssert (.iface 190 v) 20 209 true).run Tryz.prog w = .ok (.tuple #[.pointer none, .bool false]) w := by kernel_rfl
theorem asA_E (v : Value) (w : World) : (Instr.typeAssert (.iface 190 v) 20 191 true).run Tryz.prog w = .ok (.tuple #[.pointer none, .bool false]) w := by kernel_rfl
theorem asA_A (v : Value) (w : World) : (Instr.typeAssert (.iface 190 v) 20 190 true).run Tryz.prog w = .ok (.tuple #[v, .bool true]) w := by kernel_rfl
theorem enterVars (args : Array Value) (w : World) : (callFunc 108 args).run Tryz.prog w = .ok (.enter 108 args) w := by kernel_rfl
/-- The function that gathers, with what it holds. -/
def gath (bt bl' : Nat) : Value := .func (.func 108) #[] #[.pointer (some ⟨bt, 0, none⟩), .pointer (some ⟨bl', 0, none⟩)]
/-- What a walk leaves. -/
def WkPost (w0 : World) (bt bl' : Nat) (acc : List (List UInt8)) (e : Ending) (w' : World) : Prop := e = .returned (.tuple #[]) ∧ VS w0 bt bl' acc w'
theorem take_add (ts : List Tm) (acc : List (List UInt8)) (k : Nat) (h : k < ts.length) : (ts.take (k + 1)).foldl addV acc = addV ((ts.take k).foldl addV acc) ts[k] := by
  rw [List.take_succ_eq_append_getElem h, List.foldl_append]
  rfl
theorem fold_le {ts : List Tm} {acc : List (List UInt8)} (h : acc.length + ts.length ≤ 10000) (k : Nat) : ((ts.take k).foldl addV acc).length ≤ 10000 := by
  have h1 := (foldV_len (ts.take k) acc).2
  rw [List.length_take] at h1
  omega
set_option maxHeartbeats 4000000 in
set_option maxRecDepth 100000 in
theorem wAtom (w0 : World) (bt bl' : Nat) (acc : List (List UInt8)) (ts : List Tm) (sv : Value) (a o : Nat) (w : World) (h : VS w0 bt bl' acc w) (hsl : w0.cell? ⟨a, o + 1, none⟩ = some sv) (ha : a < w0.heap.size) (hts : TmSl w0 sv ts) (hr : TmsR ts) (hn : acc.length + ts.length ≤ 10000) :
    Calls Tryz.prog 107 #[.iface 190 (.pointer (some ⟨a, o, none⟩)), gath bt bl'] w (WkPost w0 bt bl' (ts.foldl addV acc)) := by
  obtain ⟨p, cap, rfl, hm, hat⟩ := hts
  unfold maxLen at hm
  have HV := Lib.hid h; clear h
  have HSL := Lib.hid hsl; clear hsl
  have HAT := Lib.hid hat; clear hat
  have HR := Lib.hid hr; clear hr
  have HN := Lib.hid (fun k => fold_le hn k)
  clear hn
  have h1 := fun w => asA_R (.pointer (some ⟨a, o, none⟩)) w
  have h2 := fun w => asA_L (.pointer (some ⟨a, o, none⟩)) w
  have h3 := fun w => asA_E (.pointer (some ⟨a, o, none⟩)) w
  have h4 := fun w => asA_A (.pointer (some ⟨a, o, none⟩)) w
  have hF := enterVars
  have hcell := (HV.out.below.cell (p := ⟨a, o + 1, none⟩) ha).trans HSL.out
  unfold gath
  go_enter Tryz.func107, Tryz.ntmps107
  go_wp2_with fail
  clear h1 h2 h3 h4 hcell
  go_loopw [11, 107] (fun _ i wr => ∃ k : Nat, k ≤ ts.length ∧ i = .int .i64 k ∧ VS w0 bt bl' ((ts.take k).foldl addV acc) wr) (fun _ i _ => ts.length - (intOf i).toNat)
  case atStart => exact ⟨0, by omega, rfl, HV.out⟩
  case round =>
    obtain ⟨k, hk, rfl, hv⟩ := hrel
    have HVK := Lib.hid hv; clear hv
    by_cases hlt : k < ts.length
    · rcases HAT.out with h0 | ⟨a2, o2, rfl, hta⟩
      · omega
      · have hcell := (HVK.out.below.cell (p := ⟨a, o + 1, none⟩) ha).trans HSL.out
        have hk0 : (0 : Int) ≤ (k : Int) := by omega
        have hki : (k : Int) < (ts.length : Int) := by omega
        have ht := (HVK.out.below.cell (p := ⟨a2, o2 + k * 4, none⟩) hta.lt).trans (hta.at_ k hlt).c0
        have hlt2 := hta.lt
        have HT := Lib.hid ht
        clear hta ht
        go_wp2_with fail
        refine (tVars1 w0 bt bl' _ ts[k] a2 (o2 + k * 4) _ HVK.out HT.out hlt2 (HR.out ts[k] (List.getElem_mem hlt)).v0 (HN.out k)).mono ?_
        rintro e w1 ⟨rfl, hv⟩
        have HV1 := Lib.hid hv; clear hv
        clear hcell
        go_wp2_with fail
        go_roundw
        case rel => exact ⟨k + 1, by omega, by go_num, by rw [take_add _ _ _ hlt]; exact HV1.out⟩
        case measure => simp [intOf]; omega
    · obtain rfl : k = ts.length := by omega
      have HE := Lib.hid (show (ts.take ts.length) = ts from List.take_of_length_le (Nat.le_refl _))
      go_wp2_with fail
      go_end0
      exact ⟨rfl, by have h9 := HVK.out; rw [HE.out] at h9; exact h9⟩
end Go.Proofs.YtafjjececdhmjaaGreat
