/- A map whose keys are places: what a lookup and an update give. The contracts of the graph's find and term. The contracts of kindOf and of the graph's term. Conditions: the map's entries are places' nodes. the graph lies in memory as it is told. -/
import Derived.Test.YtafjjececdhmjaaGreatNKa
import Derived.Laws.StructEq
import Derived.ChangeMaps5
import Derived.DeepKeys4
import Derived.BigQuiet
import Derived.StillTailTactics
namespace Go.Proofs.YtafjjececdhmjaaGreat
open Go.RowKit
open Go.ChangeMaps (setBlock)

def plSame (p q : Pl) : Bool := decide (p.rule = q.rule) && (decide (p.name.toList = q.name.toList) && decide (p.col = q.col))
theorem plSame_iff (p q : Pl) : plSame p q = true ↔ p = q := by
  obtain ⟨r, n, c⟩ := p
  obtain ⟨r', n', c'⟩ := q
  unfold plSame
  simp only [Bool.and_eq_true, decide_eq_true_eq, Pl.mk.injEq]
  constructor
  · rintro ⟨h1, h2, h3⟩
    refine ⟨h1, ?_, h3⟩
    rw [ByteArray.toList_eq, ByteArray.toList_eq] at h2
    obtain ⟨⟨n⟩⟩ := n
    obtain ⟨⟨n'⟩⟩ := n'
    simp only at h2
    rw [h2]
  · rintro ⟨h1, rfl, h3⟩
    exact ⟨h1, rfl, h3⟩
theorem eqp_run (d : Nat) (p q : Pl) (W : World) : (Op.equalIn (d + 2) 72 (plV p) (plV q)).run Tryz.prog W = .ok (plSame p q) W := by
  obtain ⟨r, n, c⟩ := p
  obtain ⟨r', n', c'⟩ := q
  have hS : Tryz.prog.underlying 72 = some (.struct (Tryz.prog.fieldsOf 72)) := by kernel_rfl
  have hp : Tryz.prog.stoodInHeld 72 = false := by kernel_rfl
  unfold plV
  rw [run_equalIn_agg W (d + 1) 72 _ _ hS hp]
  simp only [Program.fieldsOf, Tryz.underlying72]
  go_simp
  unfold plSame
  by_cases h1 : r = r' <;> by_cases h2 : n.toList = n'.toList <;> by_cases h3 : c = c' <;> simp [h1, h2, h3]
theorem eqp (p q : Pl) (W : World) : (Op.equal 72 (plV p) (plV q)).run Tryz.prog W = .ok (plSame p q) W := eqp_run 9998 p q W
theorem chk_pl (e : Bool) (p : Pl) (W : World) : (Instr.checkKey e 10000 72 (plV p)).run Tryz.prog W = .ok () W := by kernel_rfl
theorem wide_pl : (match Tryz.prog.underlying 72 with | some (.array _ _) | some (.struct _) => true | _ => false) = true := by kernel_rfl
theorem plV_inj {p q : Pl} (h : plV p = plV q) : p = q := by
  obtain ⟨r, n, c⟩ := p
  obtain ⟨r', n', c'⟩ := q
  unfold plV at h
  simp only [Value.agg.injEq] at h
  simp at h
  simp [h]
theorem ask_pl (p : Pl) (W : World) : ∀ (es : List MapEntry) (ps : List (Pl × Nat)) (i : Nat), es.map (fun e => (e.key, e.val)) = ps.map (fun x => (plV x.1, ptrOf x.2)) →
    (∃ j a, (p, a) ∈ ps ∧ (Instr.findAsking 72 (plV p) es i).run Tryz.prog W = .ok (some (j, ptrOf a)) W) ∨ ((∀ a, (p, a) ∉ ps) ∧ (Instr.findAsking 72 (plV p) es i).run Tryz.prog W = .ok none W)
  | [], [], i, _ => .inr ⟨by simp, by simp [Instr.findAsking]⟩
  | [], _ :: _, _, h => by simp at h
  | _ :: _, [], _, h => by simp at h
  | e :: es, x :: ps, i, h => by
    simp only [List.map_cons, List.cons.injEq, Prod.mk.injEq] at h
    obtain ⟨⟨h1, h2⟩, h3⟩ := h
    have hq := eqp p x.1 W
    rw [← h1] at hq
    cases hs : plSame p x.1 with
    | true =>
      have := (plSame_iff _ _).1 hs
      refine .inl ⟨i, x.2, by rw [this]; exact List.mem_cons_self, ?_⟩
      simp [Instr.findAsking, hq, hs, h2]
    | false =>
      have hne : p ≠ x.1 := fun e => by rw [(plSame_iff _ _).2 e] at hs; cases hs
      rcases ask_pl p W es ps (i + 1) h3 with ⟨j, a, ha, hr⟩ | ⟨hn, hr⟩
      · exact .inl ⟨j, a, List.mem_cons_of_mem _ ha, by simp [Instr.findAsking, hq, hs, hr]⟩
      · refine .inr ⟨fun a ha => ?_, by simp [Instr.findAsking, hq, hs, hr]⟩
        rcases List.mem_cons.1 ha with e | ha
        · exact hne (by rw [← e])
        · exact hn a ha
theorem find_eq (k : Value) (es : List MapEntry) (W : World) (hes : ∀ e ∈ es, ∃ p, e.key = plV p) (hk : ∃ p, k = plV p) : (Instr.findKey 72 k es).run Tryz.prog W = (Instr.findAsking 72 k es 0).run Tryz.prog W := by
  have hS : Tryz.prog.underlying 72 = some (.struct (Tryz.prog.fieldsOf 72)) := by kernel_rfl
  unfold Instr.findKey
  rw [Sem.run_bind, run_underlying hS]
  simp only [Result.andThen_ok]
  cases es with
  | nil => simp [Instr.findNow, Instr.findAsking]
  | cons e es =>
    obtain ⟨p, rfl⟩ := hk
    obtain ⟨q, hq⟩ := hes e (by simp)
    have : Instr.findNow (.struct (Tryz.prog.fieldsOf 72)) (plV p) (e :: es) 0 = none := by
      simp [Instr.findNow, Instr.sameNow]
    rw [this]
theorem keys_pl {es : List MapEntry} {ps : List (Pl × Nat)} (h : es.map (fun e => (e.key, e.val)) = ps.map (fun x => (plV x.1, ptrOf x.2))) : ∀ e ∈ es, ∃ x ∈ ps, e.key = plV x.1 ∧ e.val = ptrOf x.2 := by
  intro e he
  have : (e.key, e.val) ∈ ps.map (fun x => (plV x.1, ptrOf x.2)) := by rw [← h]; exact List.mem_map.2 ⟨e, he, rfl⟩
  obtain ⟨x, hx, e1⟩ := List.mem_map.1 this
  simp only [Prod.mk.injEq] at e1
  exact ⟨x, hx, e1.1.symm, e1.2.symm⟩
theorem find_pl (p : Pl) (W : World) (es : List MapEntry) (ps : List (Pl × Nat)) (h : es.map (fun e => (e.key, e.val)) = ps.map (fun x => (plV x.1, ptrOf x.2))) :
    (∃ j a, (p, a) ∈ ps ∧ (Instr.findKey 72 (plV p) es).run Tryz.prog W = .ok (some (j, ptrOf a)) W) ∨ ((∀ a, (p, a) ∉ ps) ∧ (Instr.findKey 72 (plV p) es).run Tryz.prog W = .ok none W) := by
  rw [find_eq _ _ W (fun e he => by obtain ⟨x, _, h1, _⟩ := keys_pl h e he; exact ⟨_, h1⟩) ⟨p, rfl⟩]
  exact ask_pl p W es ps 0 h
theorem zero_sp (w : World) : (zeroValue 73).run Tryz.prog w = .ok (.pointer none) w := by kernel_rfl
theorem look_pl (p : Pl) {W : World} {m clock : Nat} {es : Array MapEntry} {ps : List (Pl × Nat)} (hb : W.heap[m]? = some (.map es clock)) (h : es.toList.map (fun e => (e.key, e.val)) = ps.map (fun x => (plV x.1, ptrOf x.2))) :
    (∃ a, (p, a) ∈ ps ∧ (Instr.lookup 64 (.map (some m)) (plV p) true).run Tryz.prog W = .ok (.tuple #[ptrOf a, .bool true]) W) ∨
      ((∀ a, (p, a) ∉ ps) ∧ (Instr.lookup 64 (.map (some m)) (plV p) true).run Tryz.prog W = .ok (.tuple #[.pointer none, .bool false]) W ∧
        ∀ v, (Instr.mapUpdate 64 (.map (some m)) (plV p) v).run Tryz.prog W = .ok () (setBlock W m (.map (es.push ⟨plV p, v, clock⟩) (clock + 1)))) := by
  have hm := Tryz.underlying64
  rcases find_pl p W es.toList ps h with ⟨j, a, ha, hf⟩ | ⟨hn, hf⟩
  · refine .inl ⟨a, ha, ?_⟩
    simp [Instr.lookup, run_underlying hm, MapKept.run_getObj_map hb, chk_pl, hf, Result.andThen]
  · refine .inr ⟨hn, ?_, fun v => ?_⟩
    · simp [Instr.lookup, run_underlying hm, MapKept.run_getObj_map hb, chk_pl, hf, Result.andThen]
    · simp [Instr.mapUpdate, run_underlying hm, MapKept.run_getObj_map hb, chk_pl, hf, MapKept.run_setObj_map _ hb, Result.andThen, setBlock]
theorem Gst.off {b0 g m : Nat} {Kn : Pl → Prop} {cs : List Cn} {s : Gs} {w w' : World} (h : Gst b0 g m Kn cs s w) (hb : ∀ k, k < w.heap.size → w'.heap[k]? = w.heap[k]?) : Gst b0 g m Kn cs s w' := by
  have lt : ∀ {k : Nat} {o : Obj}, w.heap[k]? = some o → k < w.heap.size := fun h => (Array.getElem?_eq_some_iff.1 h).1
  obtain ⟨t, hg⟩ := h.gb
  obtain ⟨es, clock, hm, he⟩ := h.mb
  refine { h with gb := ⟨t, (hb _ (lt hg)).trans hg⟩, mb := ⟨es, clock, (hb _ (lt hm)).trans hm, he⟩, fo := h.fo.off fun a ha => ?_, nt := fun x hx => ?_ }
  · obtain ⟨_, _, h1, _⟩ := h.fo.bk a ha
    exact hb _ (lt h1)
  · obtain ⟨h1, h2, h3⟩ := h.nt x hx
    have h3' := h3
    obtain ⟨_, _, h4, _⟩ := h3
    exact ⟨h1, h2, h3'.off (hb _ (lt h4))⟩
theorem Gst.size {b0 g m : Nat} {Kn : Pl → Prop} {cs : List Cn} {s : Gs} {w : World} (h : Gst b0 g m Kn cs s w) : b0 ≤ w.heap.size ∧ g < w.heap.size ∧ m < w.heap.size := by
  obtain ⟨t, hg⟩ := h.gb
  obtain ⟨es, clock, hm, he⟩ := h.mb
  have h1 := (Array.getElem?_eq_some_iff.1 hg).1
  have h2 := (Array.getElem?_eq_some_iff.1 hm).1
  exact ⟨by have := h.lo.1; omega, h1, h2⟩
theorem Gst.nlt {b0 g m : Nat} {Kn : Pl → Prop} {cs : List Cn} {s : Gs} {w : World} (h : Gst b0 g m Kn cs s w) {a : Nat} (ha : s.N a) : a < w.heap.size := by
  obtain ⟨_, _, h1, _⟩ := h.fo.bk a ha
  exact (Array.getElem?_eq_some_iff.1 h1).1
/-- From a node that is there no way leads to one that is not. -/
theorem rt_in {w : World} {N : Nat → Prop} {up : Nat → Option Nat} {ty : Nat → Int} (h : Fo w N up ty) {a r : Nat} (ha : N a) (k : Rt up a r) : N r := by
  induction k with
  | top _ => exact ha
  | step h1 _ ih => exact ih (h.cl _ _ ha h1)
theorem rt_lone {w : World} {N : Nat → Prop} {up : Nat → Option Nat} {ty : Nat → Int} (h : Fo w N up ty) (ho : ∀ a, ¬ N a → up a = none) {a b : Nat} (ha : ¬ N a) (k : Rt up b a) : b = a := by
  cases k with
  | top _ => rfl
  | @step _ c _ h1 k =>
    have hb : N b := by
      by_cases hb : N b
      · exact hb
      · rw [ho b hb] at h1; cases h1
    exact absurd (rt_in h (h.cl _ _ hb h1) k) ha
/-- One node more, that stands alone. -/
def Gs.more (s : Gs) (a : Nat) (t : Int) (l : List (Pl × Nat)) : Gs := { s with N := fun k => s.N k ∨ k = a, ty := setTy s.ty a t, ps := s.ps ++ l }
theorem Gst.more {b0 g m : Nat} {Kn : Pl → Prop} {cs : List Cn} {s : Gs} {w w' : World} (h : Gst b0 g m Kn cs s w) {a : Nat} (ha : w.heap.size ≤ a) {t : Int} (ht : t = 0 ∨ t = 1 ∨ t = 2) (l : List (Pl × Nat))
    (hl : l = [] ∨ ∃ p, l = [(p, a)] ∧ (∀ b, (p, b) ∉ s.ps) ∧ Kn p ∧ SpotAt w' (p, a) ∧ t = 0) (hoff : ∀ k, k < w.heap.size → k ≠ m → w'.heap[k]? = w.heap[k]?)
    (hm : ∃ es clock, w'.heap[m]? = some (.map es clock) ∧ es.toList.map (fun e => (e.key, e.val)) = (s.ps ++ l).map (fun x => (plV x.1, ptrOf x.2)) ∧ MapKept.Stamped es clock)
    (hnew : ∃ cs tt, w'.heap[a]? = some (.cells cs tt (0, 0)) ∧ cs[0]? = some (.pointer none) ∧ cs[1]? = some (.int .i8 t)) :
    Gst b0 g m Kn cs (s.more a t l) w' ∧ Iso (s.more a t l).N (s.more a t l).up s.ps a ∧ (s.more a t l).ty a = t ∧ Keeps (fun _ => False) s (s.more a t l) ∧ Gfr g m s.N (s.more a t l).N w w' := by
  have hna : ¬ s.N a := fun hn => by have := h.nlt hn; omega
  have hne : ∀ k, s.N k → k ≠ a := fun k hk e => hna (e ▸ hk)
  have hnm : ∀ k, s.N k → k ≠ m := fun k hk e => h.nm (e ▸ hk)
  have hua := h.out a hna
  have hrN : ∀ p b r, (p, b) ∈ s.ps → Rt s.up b r → r ≠ a := fun p b r hb hr e => hna (e ▸ rt_in h.fo (h.nt _ hb).1 hr)
  obtain ⟨tg, hg⟩ := h.gb
  have hbk : ∀ k, s.N k → w'.heap[k]? = w.heap[k]? := fun k hk => hoff k (h.nlt hk) (hnm k hk)
  have hmem : ∀ x ∈ s.ps ++ l, x ∈ s.ps ∨ (x.2 = a ∧ (∀ b, (x.1, b) ∉ s.ps) ∧ Kn x.1 ∧ SpotAt w' x ∧ t = 0) := by
    intro x hx
    rcases List.mem_append.1 hx with hx | hx
    · exact .inl hx
    · rcases hl with rfl | ⟨p, rfl, h1, h2, h3, h4⟩
      · simp at hx
      · rw [List.mem_singleton] at hx
        subst hx
        exact .inr ⟨rfl, h1, h2, h3, h4⟩
  have hl2 : ∀ x y, x ∈ s.ps ++ l → y ∈ s.ps ++ l → x.2 = a → y.2 = a → x.1 = y.1 := by
    intro x y hx hy h1 h2
    have hx' : x ∈ l := (List.mem_append.1 hx).resolve_left fun h3 => hne _ (h.nt _ h3).1 h1
    have hy' : y ∈ l := (List.mem_append.1 hy).resolve_left fun h3 => hne _ (h.nt _ h3).1 h2
    rcases hl with rfl | ⟨p, rfl, _⟩
    · simp at hx'
    · simp only [List.mem_singleton] at hx' hy'
      rw [hx', hy']
  refine ⟨⟨⟨tg, (hoff g h.size.2.1 h.gm).trans hg⟩, hm, ⟨h.lo.1, h.lo.2.1, fun k hk => ?_⟩, ⟨fun k hk => ?_, fun k b hk hb => ?_⟩, h.fa, fun k hk => ?_, fun k hk => ?_, fun x hx => ?_, fun p b c hb hc => ?_, fun h0 => ?_, h.sm1⟩, ⟨.inr rfl, hua, fun b hb => rt_lone h.fo h.out hna hb, fun p b hb e => hna (e ▸ (h.nt _ hb).1)⟩, setTy_at _ _ _, ⟨fun x hx => List.mem_append_left _ hx, fun c _ hi => ⟨⟨.inl hi.nd, hi.top, hi.lone, fun p b hb e => ?_⟩, setTy_off _ _ (hne _ hi.nd)⟩⟩, ⟨Nat.le_of_lt (Nat.lt_of_le_of_lt ha (by obtain ⟨_, _, h1, _⟩ := hnew; exact (Array.getElem?_eq_some_iff.1 h1).1)), fun k h1 _ _ h2 => hoff k h1 h2, fun k hk => hk.imp id fun e => by rw [e]; exact ha⟩⟩
  · rcases hk with hk | rfl
    · exact h.lo.2.2 k hk
    · have := h.size.1; omega
  · rcases hk with hk | rfl
    · obtain ⟨c, tt, h1, h2, h3⟩ := h.fo.bk k hk
      exact ⟨c, tt, (hbk k hk).trans h1, h2, by rw [show (s.more a t l).ty k = s.ty k from setTy_off _ _ (hne k hk)]; exact h3⟩
    · obtain ⟨c, tt, h1, h2, h3⟩ := hnew
      exact ⟨c, tt, h1, by rw [show (s.more k t l).up k = none from hua]; exact h2, by rw [show (s.more k t l).ty k = t from setTy_at _ _ _]; exact h3⟩
  · rcases hk with hk | rfl
    · exact .inl (h.fo.cl k b hk hb)
    · rw [show (s.more k t l).up k = none from hua] at hb; cases hb
  · exact h.out k fun h1 => hk (.inl h1)
  · by_cases e : k = a
    · subst e
      rw [show (s.more k t l).ty k = t from setTy_at _ _ _]; exact ht
    · rw [show (s.more a t l).ty k = s.ty k from setTy_off _ _ e]
      exact h.t3 k (hk.resolve_right e)
  · rcases hmem x hx with h1 | ⟨h1, h2, h3, h4, _⟩
    · obtain ⟨k1, k2, k3⟩ := h.nt x h1
      exact ⟨.inl k1, k2, k3.off (hbk _ k1)⟩
    · exact ⟨.inr h1, h3, h4⟩
  · rcases hmem _ hb with h1 | ⟨h1, h2, _⟩
    · rcases hmem _ hc with k1 | ⟨k1, k2, _⟩
      · exact h.key p b c h1 k1
      · exact absurd h1 (k2 b)
    · rcases hmem _ hc with k1 | ⟨k1, k2, _⟩
      · exact absurd k1 (h2 c)
      · exact h1.trans k1.symm
  · have S := h.sm0 h0
    refine ⟨fun p u hp => ?_, fun p q hp => ?_, S.bad, fun p b q c r hb hc h1 h2 => ?_, fun p b r hb hr h1 => ?_⟩
    · obtain ⟨k0, b, r, hb, hr, k1⟩ := S.say p u hp
      exact ⟨k0, b, r, List.mem_append_left _ hb, hr, by rw [show (s.more a t l).ty r = s.ty r from setTy_off _ _ (hrN _ _ _ hb hr)]; exact k1⟩
    · obtain ⟨b, c, r, hb, hc, h1, h2⟩ := S.eq p q hp
      exact ⟨b, c, r, List.mem_append_left _ hb, List.mem_append_left _ hc, h1, h2⟩
    · rcases hmem _ hb with k1 | ⟨k1, _⟩
      · rcases hmem _ hc with j1 | ⟨j1, _⟩
        · exact S.conn p b q c r k1 j1 h1 h2
        · obtain rfl : c = a := j1
          have : c = r := Rt.one (.top hua) h2
          exact absurd this.symm (hrN p b r k1 h1)
      · obtain rfl : b = a := k1
        have e1 : b = r := Rt.one (.top hua) h1
        rcases hmem _ hc with j1 | ⟨j1, _⟩
        · exact absurd e1.symm (hrN q c r j1 h2)
        · have := hl2 _ _ hb hc rfl j1
          rw [show p = q from this]
          exact .refl _
    · rcases hmem _ hb with k1 | ⟨k1, _, _, _, k2⟩
      · rw [show (s.more a t l).ty r = s.ty r from setTy_off _ _ (hrN p b r k1 hr)] at h1 ⊢
        exact S.has p b r k1 hr h1
      · obtain rfl : b = a := k1
        obtain rfl : b = r := Rt.one (.top hua) hr
        rw [show (s.more b t l).ty b = t from setTy_at _ _ _, k2] at h1
        exact absurd rfl h1
  · rcases hmem _ hb with k1 | ⟨k1, _⟩
    · exact hi.off p b k1 e
    · exact hne _ hi.nd (by rw [← e]; exact k1)
end Go.Proofs.YtafjjececdhmjaaGreat

namespace Go.Proofs.YtafjjececdhmjaaGreat
open Go.RowKit
open Go.ChangeMaps (setBlock)

def isSpot (s0 : Gs) (p : Pl) (v : Value) (s : Gs) : Prop := ∃ a, v = ptrOf a ∧ (p, a) ∈ s.ps ∧ s.up = s0.up ∧ ∀ k, s0.N k → s.N k
set_option maxHeartbeats 4000000 in
set_option maxRecDepth 100000 in
theorem gFind {b0 g m : Nat} {Kn : Pl → Prop} {cs : List Cn} {s : Gs} {w : World} (h : Gst b0 g m Kn cs s w) (r : Int) (n : ByteArray) (c : Int) (hk : Kn ⟨r, n, c⟩) :
    Calls Tryz.prog 42 #[.pointer (some ⟨g, 0, none⟩), .agg #[.int .i64 r, .string n, .int .i64 c]] w (GPost b0 g m Kn cs (fun _ => False) s w (isSpot s ⟨r, n, c⟩)) := by
  obtain ⟨t, hg⟩ := h.gb
  obtain ⟨es, clock, hm, hes, hst⟩ := h.mb
  have hsz := h.size
  have c0 : w.cell? ⟨g, 0, none⟩ = some (.map (some m)) := by rw [Lib.cell_of_heap hg]; rfl
  have hblk : ∀ nq, (((w.alloc (.cells #[.int .i64 r, .string n, .int .i64 c] 72)).drewN nq)).heap[m]? = some (.map es clock) := fun nq => (Below.heap_alloc w _ m hsz.2.2).trans hm
  have hL := fun nq => look_pl ⟨r, n, c⟩ (hblk nq) hes
  rcases (look_pl ⟨r, n, c⟩ (hblk 0) hes).imp (fun ⟨a, ha, _⟩ => (⟨a, ha⟩ : ∃ a, (_, a) ∈ s.ps)) (fun h => h.1) with ⟨a, ha⟩ | hn
  · have hlk : ∀ nq, (Instr.lookup 64 (.map (some m)) (.agg #[.int .i64 r, .string n, .int .i64 c]) true).run Tryz.prog ((w.alloc (.cells #[.int .i64 r, .string n, .int .i64 c] 72)).drewN nq) = .ok (.tuple #[.pointer (some ⟨a, 0, none⟩), .bool true]) ((w.alloc (.cells #[.int .i64 r, .string n, .int .i64 c] 72)).drewN nq) := fun nq => by
      rcases hL nq with ⟨a', ha', h1⟩ | ⟨hn, _⟩
      · rw [h.key _ _ _ ha ha']; exact h1
      · exact absurd ha (hn a)
    have HP := Lib.hid (show ∀ nq, GPost b0 g m Kn cs (fun _ => False) s w (isSpot s ⟨r, n, c⟩) (.returned (.pointer (some ⟨a, 0, none⟩))) (((w.alloc (.cells #[.int .i64 r, .string n, .int .i64 c] 72)).drewN nq)) from fun nq =>
      ⟨_, s, rfl, ⟨a, rfl, ha, rfl, fun _ h => h⟩, h.off fun k hk => Below.heap_alloc w _ k hk, Keeps.refl _ _, below_drewN ((Below.refl _ _).alloc hsz.1 _) nq, .of_below (below_drewN ((Below.refl _ _).alloc (Nat.le_refl _) _) nq)⟩)
    clear h hg hm hes hst hblk hL ha hk
    go_enter Tryz.func42, Tryz.ntmps42
    go_wp2_with fail
    go_quiet (fail)
    go_wp2_with fail
    go_ret
    exact HP.out _
  · have hlk : ∀ nq, (Instr.lookup 64 (.map (some m)) (.agg #[.int .i64 r, .string n, .int .i64 c]) true).run Tryz.prog ((w.alloc (.cells #[.int .i64 r, .string n, .int .i64 c] 72)).drewN nq) = .ok (.tuple #[.pointer none, .bool false]) ((w.alloc (.cells #[.int .i64 r, .string n, .int .i64 c] 72)).drewN nq) := fun nq => by
      rcases hL nq with ⟨a', ha', _⟩ | ⟨_, h1, _⟩
      · exact absurd ha' (hn a')
      · exact h1
    have HS := Lib.hid h
    have HM := Lib.hid hm
    have HE := Lib.hid hes
    have HN := Lib.hid hn
    have HSt := Lib.hid hst
    have HK := Lib.hid hk
    clear hk h hg hm hes hst hblk hL hn
    go_enter Tryz.func42, Tryz.ntmps42
    go_wp2_with fail
    go_quiet (fail)
    rename Nat => nq
    obtain ⟨w1, hw1⟩ : ∃ w1, w1 = (w.alloc (.cells #[.int .i64 r, .string n, .int .i64 c] 72)).drewN nq := ⟨_, rfl⟩
    rw [← hw1]
    have hb1 : w1.heap[w.heap.size]? = some (.cells #[.int .i64 r, .string n, .int .i64 c] 72 (0, 0)) := by rw [hw1]; exact heap_alloc_new w _
    have HO := Lib.hid (show ∀ k, k < w.heap.size → w1.heap[k]? = w.heap[k]? from fun k hk => by rw [hw1]; exact Below.heap_alloc w _ k hk)
    have hs1 : w.heap.size < w1.heap.size := (Array.getElem?_eq_some_iff.1 hb1).1
    have y0 : w1.cell? ⟨w.heap.size, 0, none⟩ = some (.int .i64 r) := by rw [Lib.cell_of_heap hb1]; rfl
    have y1 : w1.cell? ⟨w.heap.size, 1, none⟩ = some (.string n) := by rw [Lib.cell_of_heap hb1]; rfl
    have y2 : w1.cell? ⟨w.heap.size, 2, none⟩ = some (.int .i64 c) := by rw [Lib.cell_of_heap hb1]; rfl
    have g0 : w1.cell? ⟨g, 0, none⟩ = some (.map (some m)) := by rw [World.cell?_of_block (w := w) (HO.out g hsz.2.1)]; exact c0
    have HD1 := Lib.hid (show Below w.heap.size w w1 by rw [hw1]; exact below_drewN ((Below.refl _ _).alloc (Nat.le_refl _) _) nq)
    clear hlk hb1 hw1 c0
    go_wp2_with fail
    obtain ⟨w2, hw2⟩ : ∃ w2, w2 = w1.alloc (.cells #[.pointer none, .int .i8 0, .int .i64 r, .string n, .int .i64 c] 78) := ⟨_, rfl⟩
    rw [← hw2]
    have HB2 := Lib.hid (show w2.heap[w1.heap.size]? = some (.cells #[.pointer none, .int .i8 0, .int .i64 r, .string n, .int .i64 c] 78 (0, 0)) by rw [hw2]; exact heap_alloc_new w1 _)
    have HO2 := Lib.hid (show ∀ k, k < w1.heap.size → w2.heap[k]? = w1.heap[k]? from fun k hk => by rw [hw2]; exact Below.heap_alloc w1 _ k hk)
    have b0' : w2.cell? ⟨w.heap.size, 0, none⟩ = some (.int .i64 r) := by rw [World.cell?_of_block (w := w1) (HO2.out _ hs1)]; exact y0
    have b1' : w2.cell? ⟨w.heap.size, 1, none⟩ = some (.string n) := by rw [World.cell?_of_block (w := w1) (HO2.out _ hs1)]; exact y1
    have b2' : w2.cell? ⟨w.heap.size, 2, none⟩ = some (.int .i64 c) := by rw [World.cell?_of_block (w := w1) (HO2.out _ hs1)]; exact y2
    have g0' : w2.cell? ⟨g, 0, none⟩ = some (.map (some m)) := by rw [World.cell?_of_block (w := w1) (HO2.out _ (show g < w1.heap.size by omega))]; exact g0
    have HD := Lib.hid (show Below w.heap.size w w2 by rw [hw2]; exact HD1.out.alloc (by omega) _)
    clear hw2 y0 y1 y2 g0
    go_still_tail 6, (by kernel_rfl)
    change wpList _ _ _ _ _ w2.drew
    have hm2 : w2.drew.heap[m]? = some (.map es clock) := (HO2.out m (show m < w1.heap.size by omega)).trans ((HO.out m hsz.2.2).trans HM.out)
    obtain ⟨w3, hw3⟩ : ∃ w3, w3 = setBlock w2.drew m (.map (es.push ⟨plV ⟨r, n, c⟩, .pointer (some ⟨w1.heap.size, 0, none⟩), clock⟩) (clock + 1)) := ⟨_, rfl⟩
    have hrun : (Instr.mapUpdate 64 (.map (some m)) (.agg #[.int .i64 r, .string n, .int .i64 c]) (.pointer (some ⟨w1.heap.size, 0, none⟩))).run Tryz.prog w2.drew = .ok () w3 := by
      rw [hw3]
      rcases look_pl ⟨r, n, c⟩ hm2 HE.out with ⟨a', ha', _⟩ | ⟨_, _, h1⟩
      · exact absurd ha' (HN.out a')
      · exact h1 _
    have HP := Lib.hid (show GPost b0 g m Kn cs (fun _ => False) s w (isSpot s ⟨r, n, c⟩) (.returned (.pointer (some ⟨w1.heap.size, 0, none⟩))) w3 from by
      have hm3 : w3.heap[m]? = some (.map (es.push ⟨plV ⟨r, n, c⟩, .pointer (some ⟨w1.heap.size, 0, none⟩), clock⟩) (clock + 1)) := by rw [hw3]; exact ChangeMaps.heap_setBlock_same hm2 _
      have ho3 : ∀ k, k ≠ m → w3.heap[k]? = w2.heap[k]? := fun k hk => by rw [hw3]; exact ChangeMaps.heap_setBlock_other hm2 _ hk
      have hnew : w3.heap[w1.heap.size]? = some (.cells #[.pointer none, .int .i8 0, .int .i64 r, .string n, .int .i64 c] 78 (0, 0)) := (ho3 _ (by omega)).trans HB2.out
      have hoff : ∀ k, k < w.heap.size → k ≠ m → w3.heap[k]? = w.heap[k]? := fun k h1 h2 => (ho3 k h2).trans ((HO2.out k (by omega)).trans (HO.out k h1))
      have hmap : (es.push ⟨plV ⟨r, n, c⟩, .pointer (some ⟨w1.heap.size, 0, none⟩), clock⟩).toList.map (fun (e : MapEntry) => (e.key, e.val)) = (s.ps ++ [((⟨r, n, c⟩ : Pl), w1.heap.size)]).map (fun (x : Pl × Nat) => (plV x.1, ptrOf x.2)) := by
        rw [Array.toList_push, List.map_append, List.map_append, HE.out]
        rfl
      have hst := HSt.out
      obtain ⟨h1, h2, h3, h4, h5⟩ := HS.out.more (a := w1.heap.size) (w' := w3) (by omega) (.inl rfl : (0 : Int) = 0 ∨ (0 : Int) = 1 ∨ (0 : Int) = 2) [(⟨r, n, c⟩, w1.heap.size)] (.inr ⟨⟨r, n, c⟩, rfl, HN.out, HK.out, ⟨_, _, hnew, rfl, rfl, rfl, rfl⟩, rfl⟩) hoff
        ⟨_, _, hm3, hmap, MapKept.stamped_push hst fun x hx e => by
          obtain ⟨y, hy, e1, _⟩ := keys_pl HE.out x hx
          rw [e1] at e
          exact HN.out y.2 (by rw [← plV_inj e]; exact hy)⟩ ⟨_, _, hnew, rfl, rfl⟩
      refine ⟨_, s.more w1.heap.size 0 [(⟨r, n, c⟩, w1.heap.size)], rfl, ⟨w1.heap.size, rfl, List.mem_append_right _ (by simp), rfl, fun _ h => .inl h⟩, h1, h4, ?_, h5⟩
      have hd := HD.out
      refine ⟨by rw [hw3]; exact hd.os, by rw [hw3]; exact hd.tape, by rw [hw3]; exact hd.output, ?_, fun k hk => hoff k (by have := HS.out.size; omega) (by have := HS.out.lo; omega)⟩
      have := (Array.getElem?_eq_some_iff.1 hnew).1
      omega)
    clear hw3 hm2
    go_wp2_with fail
    go_ret
    exact HP.out
end Go.Proofs.YtafjjececdhmjaaGreat

namespace Go.Proofs.YtafjjececdhmjaaGreat
open Go.RowKit

def kdT (k : Int) : Int := if k = 1 then 1 else 2
theorem tKind (k n : Int) (t : ByteArray) (w : World) : Calls Tryz.prog 59 #[.agg #[.int .i8 k, .int .i64 n, .string t]] w (fun e w' => e = .returned (.int .i8 (kdT k)) ∧ Below w.heap.size w w') := by
  have HB := Lib.hid (show Below w.heap.size w (w.alloc (.cells #[.int .i8 k, .int .i64 n, .string t] 91)) from (Below.refl _ _).alloc (Nat.le_refl _) _)
  by_cases h : k = 1
  · have HK := Lib.hid (show kdT k = 1 by unfold kdT; rw [if_pos h])
    have q : (k == 1) = true := by simp [h]
    clear h
    go_enter Tryz.func59, Tryz.ntmps59
    go_wp2_with fail
    go_ret
    exact ⟨by rw [HK.out]; rfl, HB.out⟩
  · have HK := Lib.hid (show kdT k = 2 by unfold kdT; rw [if_neg h])
    have q : (k == 1) = false := by simp [h]
    clear h
    go_enter Tryz.func59, Tryz.ntmps59
    go_wp2_with fail
    go_ret
    exact ⟨by rw [HK.out]; rfl, HB.out⟩
/-- Variables of rules are known places all. -/
def KnV (Kn : Pl → Prop) : Prop := ∀ p : Pl, 0 ≤ p.rule → Kn p
def isSrc (s0 : Gs) (x : Sr) (v : Value) (s : Gs) : Prop := ∃ a, v = ptrOf a ∧ SrcG s a x ∧ ∀ c, Iso s0.N s0.up s0.ps c → c ≠ a
/-- The same, and no node was pointed elsewhere. -/
def isTm (s0 : Gs) (x : Sr) (v : Value) (s : Gs) : Prop := isSrc s0 x v s ∧ s.up = s0.up ∧ ∀ k, s0.N k → s.N k
/-- A node made anew. -/
theorem Gst.fresh {b0 g m : Nat} {Kn : Pl → Prop} {cs : List Cn} {s : Gs} {w w' : World} (h : Gst b0 g m Kn cs s w) {a : Nat} (ha : w.heap.size ≤ a) {t : Int} (ht : t = 0 ∨ t = 1 ∨ t = 2) (hb : Below w.heap.size w w')
    (hnew : ∃ tt, w'.heap[a]? = some (.cells #[.pointer none, .int .i8 t] tt (0, 0))) :
    GPost b0 g m Kn cs (fun _ => False) s w (isTm s (if t = 0 then .any else .ty t)) (.returned (.pointer (some ⟨a, 0, none⟩))) w' := by
  obtain ⟨tt, hnew⟩ := hnew
  obtain ⟨es, clock, hm, he⟩ := h.mb
  obtain ⟨h1, h2, h3, h4, h5⟩ := h.more (w' := w') ha ht [] (.inl rfl) (fun k hk _ => hb.block k hk) ⟨es, clock, (hb.block m h.size.2.2).trans hm, by rw [List.append_nil]; exact he⟩ ⟨_, _, hnew, rfl, rfl⟩
  have hp : (s.more a t []).ps = s.ps := List.append_nil _
  rw [← hp] at h2
  refine ⟨_, s.more a t [], rfl, ⟨⟨a, rfl, ?_, fun c hc e => by have := h.nlt hc.nd; omega⟩, rfl, fun _ h => .inl h⟩, h1, h4, hb.mono h.size.1, h5⟩
  by_cases e : t = 0
  · rw [if_pos e]
    exact ⟨h2, by rw [h3]; exact e⟩
  · rw [if_neg e]
    exact ⟨h2, h3, e⟩
set_option maxHeartbeats 4000000 in
set_option maxRecDepth 100000 in
theorem gTerm {b0 g m : Nat} {Kn : Pl → Prop} {cs : List Cn} {s : Gs} {w : World} (h : Gst b0 g m Kn cs s w) (hk : KnV Kn) (r : Int) (hr : 0 ≤ r) (v : ByteArray) (k n : Int) (t : ByteArray) :
    Calls Tryz.prog 45 #[.pointer (some ⟨g, 0, none⟩), .int .i64 r, .agg #[.string v, .int .i8 k, .int .i64 n, .string t]] w (GPost b0 g m Kn cs (fun _ => False) s w (isTm s (tmSr r ⟨v, ⟨k, n, t⟩⟩))) := by
  obtain ⟨W, hW⟩ : ∃ W, W = w.alloc (.cells #[.string v, .int .i8 k, .int .i64 n, .string t] 93) := ⟨_, rfl⟩
  have hb : Below w.heap.size w W := by rw [hW]; exact (Below.refl _ _).alloc (Nat.le_refl _) _
  have hs : W.heap.size = w.heap.size + 1 := by rw [hW]; exact World.size_alloc _ _
  by_cases h1 : v.toList = [95]
  · have q : (v.toList == [95]) = true := by simp [h1]
    have HP := Lib.hid (show GPost b0 g m Kn cs (fun _ => False) s w (isTm s .any) (.returned (.pointer (some ⟨w.heap.size + 1, 0, none⟩))) (W.alloc (.cells #[.pointer none, .int .i8 0] 76)) from by
      have key := h.fresh (a := W.heap.size) (w' := W.alloc (.cells #[.pointer none, .int .i8 0] 76)) (by omega) (.inl rfl : (0 : Int) = 0 ∨ (0 : Int) = 1 ∨ (0 : Int) = 2) (hb.alloc (by omega) _) ⟨_, heap_alloc_new W _⟩
      rw [if_pos rfl, hs] at key
      exact key)
    have HE := Lib.hid (show tmSr r ⟨v, ⟨k, n, t⟩⟩ = .any by unfold tmSr; rw [if_pos (by simpa [bl, ← ByteArray.toList_eq] using h1)])
    rw [hW] at HP
    clear h h1 hb hs hk hr hW
    go_enter Tryz.func45, Tryz.ntmps45
    go_wp2_with fail
    go_ret
    rw [HE.out]
    exact HP.out
  · have q : (v.toList == [95]) = false := by simp [h1]
    by_cases h2 : v.toList.isEmpty = true
    · have HG := Lib.hid (h.off (w' := W) hb.block)
      have HK := Lib.hid (fun W => tKind k n t W)
      have HE := Lib.hid (show tmSr r ⟨v, ⟨k, n, t⟩⟩ = .ty (kdT k) by
        unfold tmSr kdT
        rw [if_neg (by simpa [bl, ← ByteArray.toList_eq] using h1), if_pos (by simpa [bl, ← ByteArray.toList_eq] using h2)])
      have HB := Lib.hid hb
      have HS := Lib.hid hs
      have HH := Lib.hid h
      clear h h1 hb hs hk hr
      go_enter Tryz.func45, Tryz.ntmps45
      go_wp2_with fail
      rw [← hW]
      clear hW
      refine (HK.out W).mono ?_
      rintro e w1 ⟨rfl, hb1⟩
      have HB1 := Lib.hid hb1; clear hb1
      go_wp2_with fail
      go_ret
      rw [HE.out]
      have hs1 := HB1.out.size
      have hs0 := HS.out
      have hlt : w.heap.size ≤ w1.heap.size := by omega
      have key := HH.out.fresh (a := w1.heap.size) (w' := w1.alloc (.cells #[.pointer none, .int .i8 (kdT k)] 76)) hlt (show kdT k = 0 ∨ kdT k = 1 ∨ kdT k = 2 by unfold kdT; split <;> omega) ((HB.out.trans (HB1.out.mono (by omega))).alloc hlt _) ⟨_, heap_alloc_new w1 _⟩
      rw [if_neg (show kdT k ≠ 0 by unfold kdT; split <;> omega)] at key
      exact key
    · have q2 : v.toList.isEmpty = false := by simpa using h2
      have HE := Lib.hid (show tmSr r ⟨v, ⟨k, n, t⟩⟩ = .pl ⟨r, v, 0⟩ by
        unfold tmSr
        rw [if_neg (by simpa [bl, ← ByteArray.toList_eq] using h1), if_neg (by simpa [bl, ← ByteArray.toList_eq] using h2)])
      have HF := Lib.hid (gFind (h.off (w' := W) hb.block) r v 0 (hk ⟨r, v, 0⟩ hr))
      have HB := Lib.hid hb
      have HS := Lib.hid hs
      have HZ := Lib.hid h.size
      clear h h1 hb hs hk hr h2
      go_enter Tryz.func45, Tryz.ntmps45
      go_wp2_with fail
      rw [← hW]
      clear hW
      refine HF.out.mono ?_
      rintro e w1 ⟨_, s', rfl, ⟨a, rfl, ha, hup⟩, hg, hkp, hb1, hgf⟩
      have HP := Lib.hid (show GPost b0 g m Kn cs (fun _ => False) s w (isTm s (tmSr r ⟨v, ⟨k, n, t⟩⟩)) (.returned (.pointer (some ⟨a, 0, none⟩))) w1 from by
        rw [HE.out]
        have hz := HZ.out
        exact ⟨_, s', rfl, ⟨⟨a, rfl, ha, fun c hc e => (hkp.iso c id hc).1.off _ _ ha e.symm⟩, hup⟩, hg, hkp, (HB.out.mono hz.1).trans hb1, (Gfr.of_below HB.out).trans hgf⟩)
      clear ha hup hg hkp hb1 hgf
      unfold ptrOf
      go_wp2_with fail
      go_ret
      exact HP.out
end Go.Proofs.YtafjjececdhmjaaGreat
