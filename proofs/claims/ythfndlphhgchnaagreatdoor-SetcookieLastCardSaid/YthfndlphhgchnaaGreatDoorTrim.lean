/- Walks: ascii's Trim and the reference's. -/
import Derived.Test.YthfndlphhgchnaaGreatDoorShelf
import Derived.Test.YthfndlphhgchnaaGreatDoorBase
import Derived.Test.YthfndlphhgchnaaGreatDoorSpec01b
import Derived.Shelf.Strings.SlTrimAscii
namespace Go.Proofs.YthfndlphhgchnaaGreatDoor
open Go.RowKit Go.Lib Go.Proofs.Foot

theorem trimA_any (s : ByteArray) (w : World) (hs : s.size ≤ 16777216) :
    Calls Tryz.prog 21 #[.string s] w fun e w' => e = .returned (.string ⟨(trim s.data.toList).toArray⟩) ∧ Below w.heap.size w w' := by
  have h := Any.strings_Trim_laid Tryz.lays160 (by kernel_rfl) s ⟨#[32, 9]⟩ w (by omega) (by decide) (by
    intro j b hb
    match j, hb with
    | 0, hb => simp at hb; subst hb; decide
    | 1, hb => simp at hb; subst hb; decide
    | j + 2, hb => simp at hb)
  have h' : Calls Tryz.prog 37 #[.string s, .string ⟨#[32, 9]⟩] w fun e w' => e = .returned (.string ⟨(trim s.data.toList).toArray⟩) ∧ Below w.heap.size w w' := by
    rw [← trimS_eq]; exact h
  have H := hid h'
  clear h h'
  go_enter Tryz.func21, Tryz.ntmps21
  go_wp2_with (go_at_call 37; refine H.out.mono ?_; rintro e w1 ⟨rfl, hb1⟩)
  go_ret
  exact ⟨rfl, hb1⟩

theorem blankB_yes {c : UInt8} (h : c.toNat = 32 ∨ c.toNat = 9) : blankB c = true := by
  rcases h with h | h
  · obtain rfl : c = 32 := UInt8.toNat.inj h
    decide
  · obtain rfl : c = 9 := UInt8.toNat.inj h
    decide
theorem blankB_no {c : UInt8} (h : ¬ (c.toNat = 32 ∨ c.toNat = 9)) : blankB c = false := by
  unfold blankB
  rw [List.contains_eq_mem, decide_eq_false_iff_not]
  simp only [List.mem_cons, List.mem_nil_iff, or_false]
  rintro (rfl | rfl)
  · exact h (.inl rfl)
  · exact h (.inr rfl)
theorem blankR_any (c : UInt8) (w : World) : Calls Tryz.prog 72 #[.int .u8 c.toNat] w fun e w' => e = .returned (.bool (blankB c)) ∧ w = w' := by
  by_cases h1 : c.toNat = 32
  · have H := hid (blankB_yes (.inl h1))
    have e1 : ((c.toNat : Int) == 32) = true := by rw [h1]; rfl
    clear h1
    go_enter Tryz.func72, Tryz.ntmps72
    go_wp2
    go_ret
    exact ⟨ret_bool H.out.symm, rfl⟩
  · have e1 : ((c.toNat : Int) == 32) = false := by rw [beq_eq_false_iff_ne]; omega
    by_cases h2 : c.toNat = 9
    · have H := hid (blankB_yes (.inr h2))
      have e2 : ((c.toNat : Int) == 9) = true := by rw [h2]; rfl
      clear h1 h2
      go_enter Tryz.func72, Tryz.ntmps72
      go_wp2
      go_ret
      exact ⟨ret_bool H.out.symm, rfl⟩
    · have H := hid (blankB_no (c := c) (by omega))
      have e2 : ((c.toNat : Int) == 9) = false := by rw [beq_eq_false_iff_ne]; omega
      clear h1 h2
      go_enter Tryz.func72, Tryz.ntmps72
      go_wp2
      go_ret
      exact ⟨ret_bool H.out.symm, rfl⟩
end Go.Proofs.YthfndlphhgchnaaGreatDoor
