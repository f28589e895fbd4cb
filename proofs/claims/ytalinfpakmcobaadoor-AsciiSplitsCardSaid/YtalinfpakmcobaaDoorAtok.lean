/- Walk: ascii's Token. -/
import Derived.Test.YtalinfpakmcobaaDoorSigns
namespace Go.Proofs.YtalinfpakmcobaaDoor
open Go.RowKit Go.Lib Go.Proofs.Foot

set_option maxRecDepth 100000 in
theorem token_any (s : ByteArray) (w : World) (hs : s.size ≤ maxLen) :
    Calls Tryd.prog 25 #[.string s] w fun e w' => e = .returned (.bool (token s.data.toList)) ∧ Below w.heap.size w w' := by
  unfold maxLen at hs
  have hi27 : (Tryd.prog.info? 62).map (·.size) = some (setCells signList).size := by rw [setCells_size]; kernel_rfl
  have hz : ∀ w, (zeroValue 62).run Tryd.prog w = .ok (.agg (Array.replicate 256 (.bool false))) w := fun _ => by kernel_rfl
  have hcon := signs_any w
  have hone := setCells_one signList
  have hsz := setCells_size signList
  have hat : ∀ x : UInt8, (setCells signList)[x.toNat]? = some (.bool (signB x)) := fun x => setCells_at signList x
  generalize setCells signList = C at hcon hone hat hsz hi27
  have Hat := hid hat
  clear hat
  have hsc : ∀ w1 : World, (storeCells ⟨w1.heap.size, 0, none⟩ C.toList 0).run Tryd.prog (w1.alloc (.cells (Array.replicate 256 (.bool false)) 62)) = .ok () (w1.alloc (.cells C 62)) := fun w1 =>
    run_storeCells_new w1 _ _ C hi27 (by rw [Array.size_replicate, hsz]) hone
  go_enter Tryd.func25, Tryd.ntmps25
  go_wp2_with (first
    | (go_at_call 58; refine hcon.mono ?_; rintro e w1 ⟨rfl, hb1⟩)
    | (refine wpList_string_bytes rfl 9 45 5 _ rfl s rfl Tryd.underlying9 Tryd.underlying45 Tryd.underlying5 (w1.heap.size + 1) (by simp) ?_; intro w2 cap hrow hb2 hz2 hcap))
  have hC : w2.heap[w1.heap.size]? = some (.cells C 62 (0, 0)) := by rw [hb2.block _ (by omega)]; exact heap_alloc_last _ _
  have hfin : Below w.heap.size w w2 := below_chain (hb1.alloc hb1.size _) (hb2.mono (by simp))
  have Hrow := hid hrow
  have HC := hid hC
  have Hfin := hid hfin
  clear hrow hC hfin hcon hsc hi27 hone hz hb1 hb2 hz2 hcap
  go_loop [10, 5] (fun i c => ∃ k : Nat, k ≤ s.size ∧ i = .int .i64 k ∧ Hid ((s.data.toList.take k).all signB = true)) (fun i _ => s.size - (intOf i).toNat)
  case atStart => exact ⟨0, Nat.zero_le _, rfl, rfl⟩
  case round =>
    obtain ⟨k, hk, rfl, ht⟩ := hrel
    by_cases hlt : k < s.size
    · have hl : k < s.data.toList.length := by simpa using hlt
      obtain ⟨x, hx⟩ : ∃ x : UInt8, x = s.data.toList[k] := ⟨_, rfl⟩
      have hc1 := Hrow.out.cell hl
      rw [← hx] at hc1
      have hx256 : (x.toNat : Int) < 256 := by have := UInt8.toNat_lt x; omega
      have hc0 : w2.cell? ⟨w1.heap.size, x.toNat, none⟩ = some (.bool (signB x)) := by
        rw [cell_of_row _ _ _ _ _ _ HC.out]; exact Hat.out _
      cases hc : signB x with
      | true =>
        have Hn := hid (all_take_snoc hl ht (by rw [← hx]; exact hc))
        rw [hc] at hc0
        clear hx hc
        go_wp2
        go_round
        case rel => exact ⟨k + 1, by omega, by go_num, Hn⟩
        case measure => simp [intOf]; omega
      | false =>
        have Hf := hid (token_false_at hl (by rw [← hx]; exact hc))
        rw [hc] at hc0
        clear hx hc
        go_wp2
        go_ret
        exact ⟨ret_bool Hf.out.symm, Hfin.out⟩
    · have Hf := hid (token_end (by simp; omega) ht.out)
      go_wp2
      go_ret
      exact ⟨ret_bool (by rw [Hf.out]; simp [Lib.toList_data]), Hfin.out⟩
end Go.Proofs.YtalinfpakmcobaaDoor
