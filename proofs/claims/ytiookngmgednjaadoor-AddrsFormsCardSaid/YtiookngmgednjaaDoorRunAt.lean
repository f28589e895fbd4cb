/- A run (two numbers) in a block of its own: what lies there, and what a store leaves. -/
import Derived.Test.YtiookngmgednjaaDoorBase
import Derived.RowKit
import Derived.Below
namespace Go.Proofs.YtiookngmgednjaaDoor
open Go.RowKit Go.Lib

/-- A run lies there. -/
def RunAt (w : World) (g : Nat) (r : Nat × Nat) : Prop := ∃ C : Array Value, w.heap[g]? = some (.cells C 49 (0, 0)) ∧ C = #[.int .i64 r.1, .int .i64 r.2]
theorem RunAt.kept {w w' : World} {g : Nat} {r : Nat × Nat} (h : RunAt w g r) (he : w'.heap[g]? = w.heap[g]?) : RunAt w' g r := by
  obtain ⟨C, hC, hc⟩ := h
  exact ⟨C, he.trans hC, hc⟩
theorem RunAt.cell0 {w : World} {g : Nat} {r : Nat × Nat} (h : RunAt w g r) : w.cell? ⟨g, 0, none⟩ = some (.int .i64 r.1) := by
  obtain ⟨C, hC, hc⟩ := h
  rw [cell_of_row _ _ _ _ _ _ hC, hc]; rfl
theorem RunAt.cell1 {w : World} {g : Nat} {r : Nat × Nat} (h : RunAt w g r) : w.cell? ⟨g, 1, none⟩ = some (.int .i64 r.2) := by
  obtain ⟨C, hC, hc⟩ := h
  rw [cell_of_row _ _ _ _ _ _ hC, hc]; rfl
theorem RunAt.free {w : World} {g : Nat} {r : Nat × Nat} (h : RunAt w g r) (k : Nat) : w.frozen? ⟨g, k, none⟩ = false := by
  obtain ⟨C, hC, _⟩ := h
  exact frozen_of_heap hC k
theorem RunAt.put0 {w : World} {g : Nat} {r : Nat × Nat} (h : RunAt w g r) (a : Nat) : RunAt (w.setCell ⟨g, 0, none⟩ (.int .i64 a)) g (a, r.2) := by
  obtain ⟨C, hC, hc⟩ := h
  exact ⟨_, Go.heap_setCell_same w g 0 C _ _ hC, by rw [hc]; rfl⟩
theorem RunAt.put1 {w : World} {g : Nat} {r : Nat × Nat} (h : RunAt w g r) (a : Nat) : RunAt (w.setCell ⟨g, 1, none⟩ (.int .i64 a)) g (r.1, a) := by
  obtain ⟨C, hC, hc⟩ := h
  exact ⟨_, Go.heap_setCell_same w g 1 C _ _ hC, by rw [hc]; rfl⟩
theorem RunAt.at0 {w : World} {g : Nat} {r : Nat × Nat} (h : RunAt w g r) {x : Int} {a : Nat} (hx : x = a) : RunAt (w.setCell ⟨g, 0, none⟩ (.int .i64 x)) g (a, r.2) := by
  subst hx; exact h.put0 a
theorem RunAt.at1 {w : World} {g : Nat} {r : Nat × Nat} (h : RunAt w g r) {x : Int} {a : Nat} (hx : x = a) : RunAt (w.setCell ⟨g, 1, none⟩ (.int .i64 x)) g (r.1, a) := by
  subst hx; exact h.put1 a
theorem RunAt.other {w : World} {g : Nat} {r : Nat × Nat} (h : RunAt w g r) {p : Addr} (v : Value) (hp : g ≠ p.block) : RunAt (w.setCell p v) g r := h.kept (Below.heap_setCell w p v g hp)
end Go.Proofs.YtiookngmgednjaaDoor
