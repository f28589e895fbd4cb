/- Walks: the deferred closure of sts.Parse. -/
import Derived.Test.YtnmdcbneoipllaaDoorSt7
import Derived.Defers
import Derived.Recover
namespace Go.Proofs.YtnmdcbneoipllaaDoor
open Go.RowKit Go.Lib Go.Proofs.Foot

def panR : PanicEntry := { v := .iface 24 (.int .i64 4), recovered := true }
theorem as_yes (v : Value) (x : TypeId) (w : World) : (Instr.typeAssert (.iface 24 v) x 24 true).run Tryd.prog w = .ok (.tuple #[v, .bool true]) w := by kernel_rfl
theorem as_nil (x : TypeId) (w : World) : (Instr.typeAssert .nilIface x 24 true).run Tryd.prog w = .ok (.tuple #[.int .i64 0, .bool false]) w := by kernel_rfl
set_option maxRecDepth 100000 in
theorem catch_panicking (p q : Nat) (x : Int) (b : Bool) (y : Int) (w : World) (h0 : w.heap[p]? = some (.cells #[.int .i64 x, .bool b] 23 (0, 0))) (h1 : w.heap[q]? = some (.cells #[.int .i64 y] 24 (0, 0))) (hpq : p ≠ q) :
    CallsD Tryd.prog 23 #[.pointer (some ⟨p, 0, none⟩), .pointer (some ⟨q, 0, none⟩)] (.panicking [pan]) w fun e u' w' =>
      e = .returned (.tuple #[]) ∧ u' = .panicking [panR] ∧ w' = ((w.setCell ⟨p, 0, none⟩ (.int .i64 0)).setCell ⟨p, 1, none⟩ (.bool false)).setCell ⟨q, 0, none⟩ (.int .i64 4) := by
  have c0 : w.cell? ⟨p, 0, none⟩ = some (.int .i64 x) := by rw [cell_of_row _ _ _ _ _ _ h0]; rfl
  have c1 : w.cell? ⟨p, 1, none⟩ = some (.bool b) := by rw [cell_of_row _ _ _ _ _ _ h0]; rfl
  have c2 : w.cell? ⟨q, 0, none⟩ = some (.int .i64 y) := by rw [cell_of_row _ _ _ _ _ _ h1]; rfl
  have f0 := frozen_of_heap h0 0
  have f1 := frozen_of_heap h0 1
  have f2 := frozen_of_heap h1 0
  refine callsD_of_wpS Tryd.func23 rfl fun c₀ cs hu => ?_
  apply wpS_seq
  apply wpS_region
  simp [wpOpsS, go_sem, recoverD, hu, pan, Tryd.ntmps23, Exit.thenS, as_yes]
  apply wpS_seq
  apply wpS_region
  simp [wpOpsS, go_sem, Exit.thenS]
  refine wpS_cond (t := true) (by simp [Act.eval, Array.replicate]) ?_
  simp only [if_true]
  apply wpS_region
  simp [wpOpsS, go_sem, c0, c1, c2, f0, f1, f2, bodyPostS, results, Tryd.results23, panR]
set_option maxRecDepth 100000 in
theorem catch_idle (p q : Nat) (w : World) :
    CallsD Tryd.prog 23 #[.pointer (some ⟨p, 0, none⟩), .pointer (some ⟨q, 0, none⟩)] .returning w fun e u' w' => e = .returned (.tuple #[]) ∧ u' = .returning ∧ w' = w := by
  refine callsD_of_wpS Tryd.func23 rfl fun c₀ cs hu => ?_
  apply wpS_seq
  apply wpS_region
  simp [wpOpsS, go_sem, recoverD, hu, Tryd.ntmps23, Exit.thenS, as_nil]
  apply wpS_seq
  apply wpS_region
  simp [wpOpsS, go_sem, Exit.thenS]
  refine wpS_cond (t := false) (by simp [Act.eval, Array.replicate]) ?_
  simp only [Bool.false_eq_true, if_false]
  refine wpS_of_wp (wp_skip ?_)
  cases c₀
  simp_all [bodyPostS, results, Tryd.results23]
end Go.Proofs.YtnmdcbneoipllaaDoor
