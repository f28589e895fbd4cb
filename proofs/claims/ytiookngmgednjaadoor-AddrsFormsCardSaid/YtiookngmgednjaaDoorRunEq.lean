/- Runs: a run against the empty run; how far a run may reach. -/
import Derived.Test.YtiookngmgednjaaDoorProg
import Derived.Test.YtiookngmgednjaaDoorRunAt
import Derived.Test.YtiookngmgednjaaDoorSpec04
namespace Go.Proofs.YtiookngmgednjaaDoor
open Go.RowKit Go.Lib

theorem run_eq0 (a b : Nat) : ∀ V, (binOp .eql 49 (.agg #[.int .i64 a, .int .i64 b]) (.agg #[.int .i64 0, .int .i64 0])).run Tryd.prog V = .ok (.bool (a == 0 && b == 0)) V := fun V => by
  cases a <;> cases b <;> kernel_rfl
theorem runs_le (z : List Bool) (k : Nat) : (runs z k).1.1 ≤ k ∧ (runs z k).1.2 ≤ k ∧ (runs z k).2.1 ≤ k ∧ (runs z k).2.2 ≤ k := by
  induction k with
  | zero => simp [runs]
  | succ k ih =>
    rw [runs]
    repeat' split
    all_goals (simp only []; omega)
theorem runs_yes {z : List Bool} {k nf nn bf bn : Nat} (hz : z.getD k false = true) (hn : (runs z k).1 = (nf, nn)) (hb : (runs z k).2 = (bf, bn)) :
    runs z (k + 1) = ((if nf = 0 ∧ nn = 0 then k else nf, nn + 1), if bn < nn + 1 then (if nf = 0 ∧ nn = 0 then k else nf, nn + 1) else (bf, bn)) := by
  rw [runs, if_pos hz, hn, hb]
  simp only [Prod.mk.injEq]
  by_cases h : bn < nn + 1
  · rw [if_pos h, if_pos h]
  · rw [if_neg h, if_neg h]
end Go.Proofs.YtiookngmgednjaaDoor
