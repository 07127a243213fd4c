/- The contracts of the graph's parts as a rule's terms use them: the top of a class, a join with it. The contract of the graph's rule. Conditions: the graph lies in memory as it is told. the graph and the rule lie in memory as they are told. -/
import Derived.Test.YtafjjececdhmjaaGreatNY9
import Derived.Deep.RegionHeld3
namespace Go.Proofs.YtafjjececdhmjaaGreat
open Go.RowKit

/-- No node is pointed away from the one that speaks for it. -/
def Still (s s' : Gs) : Prop := (∀ b q, Rt s.up b q → Rt s'.up b q) ∧ ∀ k, s.N k → s'.N k
theorem Still.of_up {s s' : Gs} (h : s'.up = s.up) (k : ∀ k, s.N k → s'.N k) : Still s s' := ⟨fun b q hr => by rw [h]; exact hr, k⟩
/-- The graph after its ways have been cut short. -/
theorem Gst.turned {b0 g m : Nat} {Kn : Pl → Prop} {cs : List Cn} {s : Gs} {w w' : World} (h : Gst b0 g m Kn cs s w) {up' : Nat → Option Nat} {rk' : Nat → Nat}
    (hf : Falls up' rk') (hrt : ∀ b c, Rt up' b c ↔ Rt s.up b c) (hfo : Fo w' s.N up' s.ty) (hn : Nf s.N w w') : Gst b0 g m Kn cs { s with up := up' } w' ∧ Keeps (fun _ => False) s { s with up := up' } ∧ Still s { s with up := up' } := by
  obtain ⟨t, hg⟩ := h.gb
  obtain ⟨es, clock, hm, he, hst⟩ := h.mb
  refine ⟨⟨⟨t, (hn.block g h.ng).trans hg⟩, ⟨es, clock, (hn.block m h.nm).trans hm, he, hst⟩, h.lo, hfo, ⟨rk', hf⟩, fun k hk => up_none (h.out k hk) (hrt k k), h.t3, fun x hx => ?_, h.key, fun h0 => (h.sm0 h0).same hrt, h.sm1⟩, ⟨fun _ h => h, fun c _ hi => ⟨hi.of hi.nd (fun b => hrt b c) fun p b hb _ => hb, rfl⟩⟩, fun b q hr => (hrt b q).2 hr, fun _ h => h⟩
  obtain ⟨h1, h2, h4⟩ := h.nt x hx
  exact ⟨h1, h2, h4.nf h1 hn⟩
def isTop (s0 : Gs) (a : Nat) (v : Value) (s : Gs) : Prop := ∃ r, v = ptrOf r ∧ s.N r ∧ Rt s.up a r ∧ Still s0 s
theorem gTop {b0 g m : Nat} {Kn : Pl → Prop} {cs : List Cn} {s : Gs} {w : World} (h : Gst b0 g m Kn cs s w) {a : Nat} (ha : s.N a) :
    Calls Tryz.prog 24 #[.pointer (some ⟨a, 0, none⟩)] w (GPost b0 g m Kn cs (fun _ => False) s w (isTop s a)) := by
  obtain ⟨rk, hf⟩ := h.fa
  refine (tTop s.N s.up s.ty rk a w h.fo hf ha).mono ?_
  rintro e w' ⟨r, up', rfl, hr, har, hf', hrt, hfo, hn⟩
  obtain ⟨h1, h2, h3⟩ := h.turned hf' hrt hfo hn
  exact ⟨_, { s with up := up' }, rfl, ⟨r, rfl, hr, (hrt _ _).2 har, h3⟩, h1, h2, hn.below h.lo.2.2, ⟨Nat.le_of_eq hn.size.symm, fun k _ hk _ _ => hn.block k hk, fun _ h => .inl h⟩⟩
theorem JnPost.to {N : Nat → Prop} {up : Nat → Option Nat} {ty : Nat → Int} {a b c : Nat} {w : World} {e : Ending} {w' : World} (h : JnPost N up ty a b w e w') (hb : ∀ q, Rt up b q → Rt up c q) : JnPost N up ty a c w e w' := by
  obtain ⟨x, y, up', rk', h1, h2, h3, h4, h5⟩ := h
  exact ⟨x, y, up', rk', h1, h2, h3, hb _ h4, h5⟩
set_option maxHeartbeats 4000000 in
theorem gJoinT {b0 g m : Nat} {Kn : Pl → Prop} {cs : List Cn} {s : Gs} {w : World} (h : Gst b0 g m Kn cs s w) {a b c : Nat} {x y : Sr} (hx : SrcG s a x) (hy : SrcG s c y) (hb : s.N b) (hcb : Rt s.up c b) :
    Calls Tryz.prog 46 #[.pointer (some ⟨g, 0, none⟩), .pointer (some ⟨a, 0, none⟩), .pointer (some ⟨b, 0, none⟩)] w (GPost b0 g m Kn (cs ++ joinSr x y) (fun i => i = a ∨ i = c) s w isUnit) := by
  obtain ⟨rk, hfk⟩ := h.fa
  have HC := Lib.hid ((tJoin s.N s.up s.ty rk a b w h.fo hfk (hx.nd h) hb).mono fun e w' k => k.to (c := c) fun q hq => by
    obtain rfl := hq.one (.top hcb.root)
    exact hcb)
  have HJ := Lib.hid (fun e w' => h.joined (e := e) (w' := w') hx hy)
  have HF := Lib.hid (show ∀ w', Nf s.N w w' → w'.frozen? ⟨g, 1, none⟩ = false from fun w' hn => by
    obtain ⟨tt, hg⟩ := h.gb
    exact Lib.frozen_of_heap ((hn.block g h.ng).trans hg) 1)
  clear h hx hy hfk hb hcb
  go_enter Tryz.func46, Tryz.ntmps46
  go_wp2_with fail
  refine HC.out.mono ?_
  intro e w1 hjn
  have f1 : w1.frozen? ⟨g, 1, none⟩ = false := by
    obtain ⟨_, _, _, _, _, _, _, _, _, hn, _⟩ := hjn
    exact HF.out w1 hn
  obtain ⟨ok, s', rfl, c1, h0, h1, h2, h3⟩ := HJ.out e w1 hjn
  have HB := Lib.hid (show ∀ b', b' = (!ok || s.tn) → GPost b0 g m Kn (cs ++ joinSr x y) (fun i => i = a ∨ i = c) s w isUnit (.returned (.tuple #[])) (w1.setCell ⟨g, 1, none⟩ (.bool b')) from fun b e => by
    subst e
    exact ⟨_, s', rfl, rfl, h1, h2, h3⟩)
  clear hjn h0 h1 h2 h3
  cases ok with
  | true =>
    go_wp2_with fail
    go_end0
    exact HB.out _ (by simp)
  | false =>
    go_wp2_with fail
    go_end0
    exact HB.out _ (by simp)
/-- What holds between the calls that find a term's node, a place's node, its top: which of them have been. -/
def G21 (b0 g m : Nat) (Kn : Pl → Prop) (cs : List Cn) (x : Sr) (p : Pl) (s : Gs) (V : World) (tv cv rv : Option Nat) (w : World) : Prop :=
  ∃ s', Gst b0 g m Kn cs s' w ∧ Keeps (fun _ => False) s s' ∧ Below b0 V w ∧ Gfr g m s.N s'.N V w ∧ (∀ a, tv = some a → SrcG s' a x ∧ ∀ c, Iso s.N s.up s.ps c → c ≠ a) ∧ (∀ c, cv = some c → (p, c) ∈ s'.ps) ∧ (∀ r, rv = some r → s'.N r ∧ ∃ c, cv = some c ∧ Rt s'.up c r)
section
variable {b0 g m : Nat} {Kn : Pl → Prop} {cs : List Cn} {x : Sr} {p : Pl} {s : Gs} {V w : World} {tv cv rv : Option Nat}
theorem G21.drew (h : G21 b0 g m Kn cs x p s V tv cv rv w) : G21 b0 g m Kn cs x p s V tv cv rv w.drew := by
  obtain ⟨s', h1, h2, h3, h4, h5⟩ := h
  exact ⟨s', h1.off fun _ _ => rfl, h2, h3.drew, h4.trans (.of_below (Below.refl _ w).drew), h5⟩
theorem G21.blk (h : G21 b0 g m Kn cs x p s V tv cv rv w) {k : Nat} (hk : Apart g m s.N V k) : w.heap[k]? = V.heap[k]? := by
  obtain ⟨s', _, _, _, h4, _⟩ := h
  exact (h4.apart hk).2
theorem G21.cell (h : G21 b0 g m Kn cs x p s V tv cv rv w) {k : Nat} (hk : Apart g m s.N V k) (o : Nat) : w.cell? ⟨k, o, none⟩ = V.cell? ⟨k, o, none⟩ := World.cell?_of_block (w := V) (a := ⟨k, o, none⟩) (h.blk hk)
theorem G21.step (_h : G21 b0 g m Kn cs x p s V tv cv rv w) {s' s'' : Gs} {w' : World} (hs : Gst b0 g m Kn cs s' w ∧ Keeps (fun _ => False) s s' ∧ Below b0 V w ∧ Gfr g m s.N s'.N V w ∧ (∀ a, tv = some a → SrcG s' a x ∧ ∀ c, Iso s.N s.up s.ps c → c ≠ a) ∧ (∀ c, cv = some c → (p, c) ∈ s'.ps) ∧ (∀ r, rv = some r → s'.N r ∧ ∃ c, cv = some c ∧ Rt s'.up c r))
    (h1 : Gst b0 g m Kn cs s'' w') (h2 : Keeps (fun _ => False) s' s'') (h3 : Below b0 w w') (h4 : Gfr g m s'.N s''.N w w') (h5 : Still s' s'') :
    Gst b0 g m Kn cs s'' w' ∧ Keeps (fun _ => False) s s'' ∧ Below b0 V w' ∧ Gfr g m s.N s''.N V w' ∧ (∀ a, tv = some a → SrcG s'' a x ∧ ∀ c, Iso s.N s.up s.ps c → c ≠ a) ∧ (∀ c, cv = some c → (p, c) ∈ s''.ps) ∧ (∀ r, rv = some r → s''.N r ∧ ∃ c, cv = some c ∧ Rt s''.up c r) := by
  obtain ⟨_, k2, k3, k4, k5, k6, k7⟩ := hs
  exact ⟨h1, k2.trans h2 (fun _ h => h), k3.trans h3, k4.trans h4, fun a ha => ⟨h2.src id (k5 a ha).1, (k5 a ha).2⟩, fun c hc => h2.ps _ (k6 c hc), fun r hr => ⟨h5.2 _ (k7 r hr).1, by
    obtain ⟨c, hc, hr⟩ := (k7 r hr).2
    exact ⟨c, hc, h5.1 _ _ hr⟩⟩⟩
theorem g21_T {r : Int} {t : Tm} (hk : KnV Kn) (hr : 0 ≤ r) (h : G21 b0 g m Kn cs (tmSr r t) p s V none cv rv w) :
    Calls Tryz.prog 45 #[.pointer (some ⟨g, 0, none⟩), .int .i64 r, .agg #[.string t.v, .int .i8 t.x.k, .int .i64 t.x.n, .string t.x.t]] w (fun e w' => ∃ a, e = .returned (ptrOf a) ∧ G21 b0 g m Kn cs (tmSr r t) p s V (some a) cv rv w') := by
  obtain ⟨s', hs⟩ := h
  refine (gTerm hs.1 hk r hr t.v t.x.k t.x.n t.x.t).mono ?_
  rintro e w' ⟨_, s'', rfl, ⟨⟨a, rfl, ha, hn⟩, hup⟩, h1, h2, h3, h4⟩
  obtain ⟨k1, k2, k3, k4, _, k6, k7⟩ := G21.step (tv := none) (cv := cv) (rv := rv) ⟨s', hs⟩ hs h1 h2 h3 h4 (.of_up hup.1 hup.2)
  exact ⟨a, rfl, s'', k1, k2, k3, k4, fun b hb => by
    obtain rfl : a = b := by simpa using hb
    exact ⟨ha, fun c hc => hn c (hs.2.1.iso c id hc).1⟩, k6, k7⟩
theorem g21_F {r : Int} {n : ByteArray} {c : Int} (hp : Kn ⟨r, n, c⟩) (h : G21 b0 g m Kn cs x ⟨r, n, c⟩ s V tv none none w) :
    Calls Tryz.prog 42 #[.pointer (some ⟨g, 0, none⟩), .agg #[.int .i64 r, .string n, .int .i64 c]] w (fun e w' => ∃ a, e = .returned (ptrOf a) ∧ G21 b0 g m Kn cs x ⟨r, n, c⟩ s V tv (some a) none w') := by
  obtain ⟨s', hs⟩ := h
  refine (gFind hs.1 r n c hp).mono ?_
  rintro e w' ⟨_, s'', rfl, ⟨a, rfl, ha, hup⟩, h1, h2, h3, h4⟩
  obtain ⟨k1, k2, k3, k4, k5, _, _⟩ := G21.step (tv := tv) (cv := none) (rv := none) ⟨s', hs⟩ hs h1 h2 h3 h4 (.of_up hup.1 hup.2)
  exact ⟨a, rfl, s'', k1, k2, k3, k4, k5, fun b hb => by
    obtain rfl : a = b := by simpa using hb
    exact ha, fun b hb => by cases hb⟩
theorem g21_P {c : Nat} (h : G21 b0 g m Kn cs x p s V tv (some c) none w) :
    Calls Tryz.prog 24 #[.pointer (some ⟨c, 0, none⟩)] w (fun e w' => ∃ a, e = .returned (ptrOf a) ∧ G21 b0 g m Kn cs x p s V tv (some c) (some a) w') := by
  obtain ⟨s', hs⟩ := h
  have hc := hs.2.2.2.2.2.1 c rfl
  refine (gTop hs.1 (hs.1.nt _ hc).1).mono ?_
  rintro e w' ⟨_, s'', rfl, ⟨a, rfl, ha, hr, hst⟩, h1, h2, h3, h4⟩
  obtain ⟨k1, k2, k3, k4, k5, k6, _⟩ := G21.step (tv := tv) (cv := some c) (rv := none) ⟨s', hs⟩ hs h1 h2 h3 h4 hst
  exact ⟨a, rfl, s'', k1, k2, k3, k4, k5, k6, fun b hb => by
    obtain rfl : a = b := by simpa using hb
    exact ⟨ha, c, rfl, hr⟩⟩
theorem g21_J {a c r : Nat} (h : G21 b0 g m Kn cs x p s V (some a) (some c) (some r) w) :
    Calls Tryz.prog 46 #[.pointer (some ⟨g, 0, none⟩), .pointer (some ⟨a, 0, none⟩), .pointer (some ⟨r, 0, none⟩)] w (fun e w' => e = .returned (.tuple #[]) ∧ GRel b0 g m Kn (cs ++ joinSr x (.pl p)) s V w') := by
  obtain ⟨s', hs⟩ := h
  obtain ⟨h1, h2, h3, h4, h5, h6, h7⟩ := hs
  have hc := h6 c rfl
  obtain ⟨hn, c', hcc, hr⟩ := h7 r rfl
  obtain rfl : c = c' := by simpa using hcc
  refine (gJoinT h1 (h5 a rfl).1 (y := .pl p) (c := c) hc hn hr).mono ?_
  rintro e w' ⟨_, s'', rfl, rfl, k1, k2, k3, k4⟩
  exact ⟨rfl, s'', k1, h2.used2 (h5 a rfl).2 (fun i hi e => (h2.iso i id hi).1.off _ _ hc e.symm) k2, h3.trans k3, h4.trans k4⟩
end
end Go.Proofs.YtafjjececdhmjaaGreat

namespace Go.Proofs.YtafjjececdhmjaaGreat
open Go.RowKit

theorem idxd_snoc {α β : Type} (f : Nat → α → List β) : ∀ (l : List α) (i k : Nat) (h : k < l.length), idxd f i (l.take (k + 1)) = idxd f i (l.take k) ++ f (i + k) l[k]
  | [], _, _, h => by simp at h
  | x :: r, i, 0, _ => by simp [idxd]
  | x :: r, i, k + 1, h => by
    have ih := idxd_snoc f r (i + 1) k (by simpa using h)
    simp only [List.take_succ_cons, idxd, List.append_assoc, List.getElem_cons_succ]
    rw [ih, show i + 1 + k = i + (k + 1) by omega]
theorem idxd_snoc0 {α : Type} (f : Nat → α → List Cn) (l : List α) (k : Nat) (h : k < l.length) (cs : List Cn) : (cs ++ idxd f 0 (l.take k)) ++ f k l[k] = cs ++ idxd f 0 (l.take (k + 1)) := by
  rw [idxd_snoc f l 0 k h, List.append_assoc, Nat.zero_add]
/-- Work done behind other work. -/
theorem GPost.rel {b0 g m : Nat} {Kn : Pl → Prop} {cs' : List Cn} {D : Nat → Prop} {s0 s : Gs} {V w : World} {R : Value → Gs → Prop} {e : Ending} {w' : World} (hp : GPost b0 g m Kn cs' D s w R e w') (hk : Keeps (fun _ => False) s0 s) (hb : Below b0 V w) (hf : Gfr g m s0.N s.N V w)
    (hD : ∀ c, Iso s0.N s0.up s0.ps c → ¬ D c) : GRel b0 g m Kn cs' s0 V w' := by
  obtain ⟨_, s', _, _, h1, h2, h3, h4⟩ := hp
  exact ⟨s', h1, ⟨fun x hx => h2.ps x (hk.ps x hx), fun c _ hi => by
    obtain ⟨k1, k2⟩ := hk.iso c id hi
    obtain ⟨k3, k4⟩ := h2.iso c (hD c hi) k1
    exact ⟨k3, k4.trans k2⟩⟩, hb.trans h3, hf.trans h4⟩
theorem GRel.then {b0 g m : Nat} {Kn : Pl → Prop} {cs' : List Cn} {s0 s : Gs} {V w w' : World} (hp : GRel b0 g m Kn cs' s w w') (hk : Keeps (fun _ => False) s0 s) (hb : Below b0 V w) (hf : Gfr g m s0.N s.N V w) : GRel b0 g m Kn cs' s0 V w' := by
  obtain ⟨s', h1, h2, h3, h4⟩ := hp
  exact ⟨s', h1, hk.trans h2 (fun _ h => h), hb.trans h3, hf.trans h4⟩
theorem GRel.same {b0 g m : Nat} {Kn : Pl → Prop} {cs cs' : List Cn} {s : Gs} {V w : World} (hp : GRel b0 g m Kn cs s V w) (e : ∀ c, c ∈ cs ↔ c ∈ cs') : GRel b0 g m Kn cs' s V w := by
  obtain ⟨s', h1, h2⟩ := hp
  exact ⟨s', h1.same e, h2⟩
theorem GRel.cell {b0 g m : Nat} {Kn : Pl → Prop} {cs : List Cn} {s : Gs} {V w : World} (hp : GRel b0 g m Kn cs s V w) {k : Nat} (hk : Apart g m s.N V k) (o : Nat) : w.cell? ⟨k, o, none⟩ = V.cell? ⟨k, o, none⟩ := by
  obtain ⟨s', _, _, _, h4⟩ := hp
  exact World.cell?_of_block (w := V) (a := ⟨k, o, none⟩) (h4.apart hk).2
/-- What a place's node answers when it is told that it is a number's, and what the graph is once that has been noted. -/
def TlPost (b0 g m : Nat) (Kn : Pl → Prop) (cs : List Cn) (p : Pl) (c : Nat) (s : Gs) (w : World) (e : Ending) (w' : World) : Prop :=
  ∃ ok : Bool, e = .returned (.bool ok) ∧ w'.cell? ⟨g, 1, none⟩ = some (.bool s.tn) ∧ w'.frozen? ⟨g, 1, none⟩ = false ∧ ∀ b, b = (!ok || s.tn) → GPost b0 g m Kn (cs ++ [.say p 1]) (fun i => i = c) s w isUnit (.returned (.tuple #[])) (w'.setCell ⟨g, 1, none⟩ (.bool b))
theorem gTell {b0 g m : Nat} {Kn : Pl → Prop} {cs : List Cn} {s : Gs} {w : World} (h : Gst b0 g m Kn cs s w) {p : Pl} {c : Nat} (hc : (p, c) ∈ s.ps) :
    Calls Tryz.prog 43 #[.pointer (some ⟨c, 0, none⟩), .int .i8 1] w (TlPost b0 g m Kn cs p c s w) := by
  obtain ⟨rk, hfk⟩ := h.fa
  refine (tSay s.N s.up s.ty rk c 1 w h.fo hfk (h.nt _ hc).1).mono ?_
  rintro e w1 ⟨r, up', rfl, hr, hrt, hfa, heq, hfo, hnf⟩
  obtain ⟨tt, hg⟩ := h.gb
  refine ⟨_, rfl, ?_, ?_, ?_⟩
  · rw [Lib.cell_of_heap ((hnf.block g h.ng).trans hg)]; rfl
  · exact Lib.frozen_of_heap ((hnf.block g h.ng).trans hg) 1
  · rintro b rfl
    obtain ⟨s', _, h1, h2, h3⟩ := h.said (x := .pl p) hc (.inl rfl) hr hrt hfa heq hfo hnf
    exact ⟨_, s', rfl, rfl, h1, h2, h3⟩
def opt (o : Option Nat) (l : List Cn) : List Cn := match o with
  | none => []
  | some _ => l
/-- What holds between the calls that find the nodes of a comparison's sides: which of them have been. -/
def G17 (b0 g m : Nat) (Kn : Pl → Prop) (cs cl cg : List Cn) (x y : Sr) (s : Gs) (V : World) (lv gv : Option Nat) (w : World) : Prop :=
  ∃ s', Gst b0 g m Kn (cs ++ (opt lv cl ++ opt gv cg)) s' w ∧ Keeps (fun _ => False) s s' ∧ Below b0 V w ∧ Gfr g m s.N s'.N V w ∧ (∀ a, lv = some a → SrcG s' a x ∧ ∀ c, Iso s.N s.up s.ps c → c ≠ a) ∧ (∀ a, gv = some a → SrcG s' a y ∧ ∀ c, Iso s.N s.up s.ps c → c ≠ a)
section
variable {b0 g m : Nat} {Kn : Pl → Prop} {cs cl cg : List Cn} {x y : Sr} {s : Gs} {V w : World} {lv gv : Option Nat}
theorem G17.drew (h : G17 b0 g m Kn cs cl cg x y s V lv gv w) : G17 b0 g m Kn cs cl cg x y s V lv gv w.drew := by
  obtain ⟨s', h1, h2, h3, h4, h5⟩ := h
  exact ⟨s', h1.off fun _ _ => rfl, h2, h3.drew, h4.trans (.of_below (Below.refl _ w).drew), h5⟩
theorem G17.blk (h : G17 b0 g m Kn cs cl cg x y s V lv gv w) {k : Nat} (hk : Apart g m s.N V k) : w.heap[k]? = V.heap[k]? := by
  obtain ⟨s', _, _, _, h4, _⟩ := h
  exact (h4.apart hk).2
theorem G17.cell (h : G17 b0 g m Kn cs cl cg x y s V lv gv w) {k : Nat} (hk : Apart g m s.N V k) (o : Nat) : w.cell? ⟨k, o, none⟩ = V.cell? ⟨k, o, none⟩ := World.cell?_of_block (w := V) (a := ⟨k, o, none⟩) (h.blk hk)
theorem g17_L {w0 : World} {r : Int} {d : Nat} {e : Ex d} (hk : KnV Kn) (hr : 0 ≤ r) (hwb : w0.heap.size ≤ b0) (hV : Below w0.heap.size w0 V) (he : ExAt w0 d e) (h : G17 b0 g m Kn cs (exCn r d e) cg (exSr r d e) y s V none gv w) :
    Calls Tryz.prog 47 #[.pointer (some ⟨g, 0, none⟩), .int .i64 r, exV d e] w (fun E w' => ∃ a, E = .returned (ptrOf a) ∧ G17 b0 g m Kn cs (exCn r d e) cg (exSr r d e) y s V (some a) gv w') := by
  obtain ⟨s', h1, h2, h3, h4, h5, h6⟩ := h
  refine (gExpr w0 b0 g m Kn hk r hr hwb d e _ s' w h1 (hV.trans (h3.mono hwb)) he).mono ?_
  rintro E w' ⟨_, s'', rfl, ⟨a, rfl, ha, hn⟩, k1, k2, k3, k4⟩
  refine ⟨a, rfl, s'', k1.same fun c => ?_, h2.trans k2 (fun _ h => h), h3.trans k3, h4.trans k4, fun b hb => ?_, fun b hb => ⟨k2.src id (h6 b hb).1, (h6 b hb).2⟩⟩
  · simp only [opt, List.mem_append, List.nil_append]
    constructor
    · rintro ((h | h) | h)
      · exact .inl h
      · exact .inr (.inr h)
      · exact .inr (.inl h)
    · rintro (h | h | h)
      · exact .inl (.inl h)
      · exact .inr h
      · exact .inl (.inr h)
  · obtain rfl : a = b := by simpa using hb
    exact ⟨ha, fun c hc => hn c (h2.iso c id hc).1⟩
theorem g17_G {w0 : World} {r : Int} {d : Nat} {e : Ex d} (hk : KnV Kn) (hr : 0 ≤ r) (hwb : w0.heap.size ≤ b0) (hV : Below w0.heap.size w0 V) (he : ExAt w0 d e) (h : G17 b0 g m Kn cs cl (exCn r d e) x (exSr r d e) s V lv none w) :
    Calls Tryz.prog 47 #[.pointer (some ⟨g, 0, none⟩), .int .i64 r, exV d e] w (fun E w' => ∃ a, E = .returned (ptrOf a) ∧ G17 b0 g m Kn cs cl (exCn r d e) x (exSr r d e) s V lv (some a) w') := by
  obtain ⟨s', h1, h2, h3, h4, h5, h6⟩ := h
  refine (gExpr w0 b0 g m Kn hk r hr hwb d e _ s' w h1 (hV.trans (h3.mono hwb)) he).mono ?_
  rintro E w' ⟨_, s'', rfl, ⟨a, rfl, ha, hn⟩, k1, k2, k3, k4⟩
  refine ⟨a, rfl, s'', k1.same fun c => ?_, h2.trans k2 (fun _ h => h), h3.trans k3, h4.trans k4, fun b hb => ⟨k2.src id (h5 b hb).1, (h5 b hb).2⟩, fun b hb => ?_⟩
  · simp only [opt, List.append_nil, List.append_assoc]
  · obtain rfl : a = b := by simpa using hb
    exact ⟨ha, fun c hc => hn c (h2.iso c id hc).1⟩
theorem g17_J {a c : Nat} (h : G17 b0 g m Kn cs cl cg x y s V (some a) (some c) w) :
    Calls Tryz.prog 46 #[.pointer (some ⟨g, 0, none⟩), .pointer (some ⟨a, 0, none⟩), .pointer (some ⟨c, 0, none⟩)] w (fun e w' => e = .returned (.tuple #[]) ∧ GRel b0 g m Kn (cs ++ (cl ++ (cg ++ joinSr x y))) s V w') := by
  obtain ⟨s', h1, h2, h3, h4, h5, h6⟩ := h
  refine (gJoin h1 (h5 a rfl).1 (h6 c rfl).1).mono ?_
  rintro e w' ⟨_, s'', rfl, rfl, k1, k2, k3, k4⟩
  refine ⟨rfl, s'', ?_, h2.used2 (h5 a rfl).2 (h6 c rfl).2 k2, h3.trans k3, h4.trans k4⟩
  simpa [opt, List.append_assoc] using k1
end
end Go.Proofs.YtafjjececdhmjaaGreat
