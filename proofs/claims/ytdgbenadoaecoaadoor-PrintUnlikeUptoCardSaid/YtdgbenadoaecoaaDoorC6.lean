/- The contract of print.Literal. Conditions: the literal lies in memory as it is told. -/
import Derived.Test.YtdgbenadoaecoaaDoorC5
namespace Go.Proofs.YtdgbenadoaecoaaDoor
open Go.RowKit

theorem pLitOk (w0 : World) (d : Nat) (x : Lt d) (b : Nat) (pre : List UInt8) (w : World) (hE : Env w0 b w) (hT : Tabs w0) (hRl : RelsAt w0) (hx : LtAt w0 x) (hr : LtR x) (ho : ltOk x = true) (hw : Wr 68 b pre w)
    (hlen : pre.length + (litL x).length ≤ 140737488355328) :
    Calls Tryd.prog 41 #[.pointer (some ⟨b, 0, none⟩), .agg #[.int .i8 x.k, .string x.p, x.sv, .int .i8 x.r, .int .i8 (exOp d x.l), .string (exTm d x.l).v, .int .i8 (exTm d x.l).x.k, .int .i64 (exTm d x.l).x.n, .string (exTm d x.l).x.t, exSl d x.l, .int .i8 (exOp d x.g), .string (exTm d x.g).v, .int .i8 (exTm d x.g).x.k, .int .i64 (exTm d x.g).x.n, .string (exTm d x.g).x.t, exSl d x.g]] w (Wrote b pre (litL x) w) := by
  have hk : x.k = 1 ∨ x.k = 2 ∨ x.k = 3 := by
    rcases lt_open ho with ⟨h, _⟩ | ⟨h, _⟩ | ⟨h, _⟩
    · exact .inl h
    · exact .inr (.inl h)
    · exact .inr (.inr h)
  refine pLit w0 d x b pre w hE hx hk hw ?_ ?_ ?_
  · intro h w' hE' hw'
    rcases lt_open ho with ⟨_, ha⟩ | ⟨h2, _⟩ | ⟨h2, _⟩
    · have e : litL x = atomL x.p x.ts := by unfold litL; rw [if_pos h]
      rw [e] at hlen ⊢
      exact pPos w0 d x b pre w' hE' hT hx hr (atOk_24 ha) hw' hlen
    · omega
    · omega
  · intro h w' hE' hw'
    rcases lt_open ho with ⟨h2, _⟩ | ⟨_, ha⟩ | ⟨h2, _⟩
    · omega
    · have e : litL x = [110, 111, 116, 32] ++ atomL x.p x.ts := by unfold litL; rw [if_neg (by omega), if_pos h]
      rw [e] at hlen ⊢
      exact pNot w0 d x b pre w' hE' hT hx hr (atOk_24 ha) hw' hlen
    · omega
  · intro h w' hE' hw'
    rcases lt_open ho with ⟨h2, _⟩ | ⟨h2, _⟩ | ⟨_, h1, h6, hl, hg⟩
    · omega
    · omega
    · have e : litL x = exprL d x.l ++ (32 :: (bl (relL.getD x.r.toNat ⟨#[]⟩) ++ [32])) ++ exprL d x.g := by unfold litL; rw [if_neg (by omega), if_neg (by omega)]
      rw [e] at hlen ⊢
      exact pCmp w0 d x b pre w' hE' hT hRl hx hr h1 h6 hl hg hw' hlen
end Go.Proofs.YtdgbenadoaecoaaDoor
