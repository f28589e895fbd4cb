/- Walks: ascii's signs (the set of a token's bytes). -/
import Derived.Test.YtalinfpakmcobaaDoorProg
import Derived.Test.YtalinfpakmcobaaDoorBase
import Derived.Test.YtalinfpakmcobaaDoorSpec01
namespace Go.Proofs.YtalinfpakmcobaaDoor
open Go.RowKit Go.Lib Go.Proofs.Foot

def litCells : Array Value := (signList.map fun c => Value.int .u8 c.toNat).toArray
theorem lit_at (k : Nat) (h : k < signList.length) : litCells[k]? = some (.int .u8 (signList[k]).toNat) := by
  simp [litCells, h]

set_option maxHeartbeats 1000000 in
set_option maxRecDepth 100000 in
theorem signs_any (w : World) :
    Calls Tryd.prog 58 #[] w fun e w' => e = .returned (.agg (setCells signList)) ∧ Below w.heap.size w w' := by
  have hi27 : (Tryd.prog.info? 62).map (·.size) = some (setCells signList).size := by rw [setCells_size]; kernel_rfl
  have kc : ∀ (w : World) (o : Obj) (C : Array Value) (n c : Nat), (convert 45 45 (.slice (some ⟨w.heap.size + 1, 0, none⟩) n c)).run Tryd.prog ((w.alloc o).alloc (.cells C 5)) = .ok (.slice (some ⟨w.heap.size + 1, 0, none⟩) n c) ((w.alloc o).alloc (.cells C 5 (C.size, C.size + 1))) := fun w o C n c => by
    have := Lib.run_convert_bytes_const (P := Tryd.prog) (w.alloc o) 45 5 C n c Tryd.underlying45 Tryd.underlying5
    simpa using this
  have hz : ∀ w, (zeroValue 62).run Tryd.prog w = .ok (.agg (Array.replicate 256 (.bool false))) w := fun _ => by kernel_rfl
  go_enter Tryd.func58, Tryd.ntmps58
  go_wp2
  go_loopw [6, 2] (fun i c wr => ∃ k : Nat, k ≤ 77 ∧ i = .int .i64 k ∧ wr.heap[w.heap.size]? = some (.cells (setCells (signList.take k)) 62 (0, 0)) ∧ wr.heap[w.heap.size + 1]? = some (.cells litCells 5 (77, 78)) ∧ Below w.heap.size w wr) (fun i _ _ => 77 - (intOf i).toNat)
  case atStart =>
    refine ⟨0, by omega, rfl, ?_, ?_, ((Below.refl _ _).alloc (Nat.le_refl _) _).alloc (by simp) _⟩
    · rw [heap_alloc2_old, List.take_zero, setCells_nil]
    · rw [heap_alloc2_new]; rfl
  case round =>
    obtain ⟨k, hk, rfl, hb0, hb1, hbel⟩ := hrel
    by_cases hlt : k < 77
    · obtain ⟨x, hx⟩ : ∃ x : UInt8, x = signList[k]'(by simpa [signList] using hlt) := ⟨_, rfl⟩
      have hc1 : wr.cell? ⟨w.heap.size + 1, k, none⟩ = some (.int .u8 x.toNat) := by
        rw [cell_of_row _ _ _ _ _ _ hb1, hx]; exact lit_at k _
      have hx256 : (x.toNat : Int) < 256 := by have := UInt8.toNat_lt x; omega
      have hc0 : wr.cell? ⟨w.heap.size, x.toNat, none⟩ = some (.bool ((signList.take k).contains x)) := by
        rw [cell_of_row _ _ _ _ _ _ hb0]; exact setCells_at _ _
      have hf0 := frozen_of_row wr w.heap.size x.toNat _ _ hb0
      have R0 := hid (heap_setCell_same wr w.heap.size x.toNat _ _ (.bool true) hb0)
      have R1 := hid ((heap_setCell_other wr ⟨w.heap.size, x.toNat, none⟩ (w.heap.size + 1) (.bool true) (by simp)).trans hb1)
      have R2 := hid (hbel.setCell (p := ⟨w.heap.size, x.toNat, none⟩) (Nat.le_refl _) (.bool true))
      have R3 : Hid (setCells (signList.take (k + 1)) = (setCells (signList.take k)).setIfInBounds x.toNat (.bool true)) := by
        rw [take_snoc' (by simpa [signList] using hlt), setCells_snoc, hx]; rfl
      clear hb0 hb1 hx
      go_wp2
      go_roundw
      case rel => exact ⟨k + 1, by omega, by go_num, by rw [R3.out]; exact R0.out, R1.out, R2.out⟩
      case measure => simp [intOf]; omega
    · obtain rfl : k = 77 := by omega
      have e77 : signList.take 77 = signList := rfl
      rw [e77] at hb0
      go_wp2_with (first
        | (refine wpList_load_row rfl 62 _ rfl w.heap.size rfl _ _ _ _ hb0 Tryd.underlying62 rfl hi27 ?_)
        | (refine wpList_store_row rfl 62 _ _ rfl w.heap.size (setCells signList) rfl rfl _ _ hb0 hi27 rfl (setCells_one _) ?_))
      have hs0 := setRow_heap wr w.heap.size _ (setCells signList) _ _ hb0
      refine bodyPost_ret (v := .agg (setCells signList)) (results_cell_row rfl _ _ w.heap.size _ _ _ _ rfl hs0 Tryd.underlying62 rfl hi27) rfl ⟨rfl, below_setRow hbel (Nat.le_refl _) _⟩

end Go.Proofs.YtalinfpakmcobaaDoor
