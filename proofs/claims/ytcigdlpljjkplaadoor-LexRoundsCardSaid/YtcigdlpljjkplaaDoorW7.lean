/- The contract of value.quoted. Conditions: the text has at most 200 bytes. -/
import Derived.Test.YtcigdlpljjkplaaDoorW6
import Derived.Test.YtcigdlpljjkplaaDoorEsc
namespace Go.Proofs.YtcigdlpljjkplaaDoor
open Go.RowKit

theorem wr_fresh (T : Nat) (w : World) : Wr T w.heap.size [] (w.alloc (.cells #[.pointer none, .slice none 0 0] T)) :=
  ⟨_, _, .inl rfl, heap_alloc_new w _, ⟨rfl, .inl ⟨rfl, rfl⟩⟩, by simp [Value.ownBlock], fun _ => rfl⟩
theorem bByteI {T : Nat} (hT : Wt T) (b : Nat) (l : List UInt8) (n : Int) (c : UInt8) (hn : n = (c.toNat : Int)) (w : World) (h : Wr T b l w) (hlen : l.length + 1 ≤ 140737488355328) :
    Calls Tryd.prog 40 #[.pointer (some ⟨b, 0, none⟩), .int .u8 n] w fun e w' => e = .returned .nilIface ∧ Wr T b (l ++ [c]) w' ∧ Kp b w w' := by
  rw [hn]; exact bByte hT b l c w h hlen
theorem nb_fresh {T b : Nat} {l : List UInt8} {w : World} (h : Wr T b l w) : NB b w.heap.size w := by
  intro p v T2 fz hq hg
  obtain ⟨p1, v1, _, hb, hown, _⟩ := h
  rw [hb] at hq
  simp at hq
  obtain ⟨⟨_, rfl⟩, _⟩ := hq
  have := (hown.lt _ hg).2
  omega
theorem wr_eq {T b : Nat} {l m : List UInt8} {w : World} (e : l = m) (h : Wr T b l w) : Wr T b m w := e ▸ h
theorem Wr.up {T b : Nat} {l : List UInt8} {w w' : World} (h : Wr T b l w) (hb : Below w.heap.size w w') : Wr T b l w' := by
  have hlt := h.lt
  obtain ⟨p, v, hp, hbk, hown, hne, hnil⟩ := h
  refine ⟨p, v, hp, (hb.block b hlt).trans hbk, ⟨hown.1, ?_⟩, hne, hnil⟩
  rcases hown.2 with h | ⟨g, cap, cur, fz, hv, hg, hh, r⟩
  · exact .inl h
  · exact .inr ⟨g, cap, cur, fz, hv, hg, (hb.block g (Array.getElem?_eq_some_iff.1 hh).1).trans hh, r⟩
theorem NB.up {b c : Nat} {w w' : World} (h : NB b c w) (hlt : b < w.heap.size) (hb : Below w.heap.size w w') : NB b c w' := by
  intro p v T fz hq
  rw [hb.block b hlt] at hq
  exact h p v T fz hq
/-- New memory alone. -/
theorem Kp.of_below {b : Nat} {w w' : World} (hlt : b < w.heap.size) (hb : Below w.heap.size w w') : Kp b w w' :=
  ⟨hb.mono (by omega), fun k o hk _ _ => (hb.block k (Array.getElem?_eq_some_iff.1 hk).1).trans hk, fun c hc _ hn => ⟨hb.block c hc, hn.up hlt hb⟩⟩
end Go.Proofs.YtcigdlpljjkplaaDoor
