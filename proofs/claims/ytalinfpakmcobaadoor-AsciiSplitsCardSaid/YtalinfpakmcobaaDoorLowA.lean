/- Walk: ascii's Same. -/
import Derived.Test.YtalinfpakmcobaaDoorLowE
namespace Go.Proofs.YtalinfpakmcobaaDoor
open Go.RowKit Go.Lib Go.Proofs.Foot

theorem sameA_any (s t : ByteArray) (w : World) (hs : s.size ≤ maxLen) (ht : t.size ≤ maxLen) :
    Calls Tryd.prog 23 #[.string s, .string t] w fun e w' => e = .returned (.bool (sameB s.data.toList t.data.toList)) ∧ Below w.heap.size w w' := by
  by_cases h : s.size = t.size
  · have hb : ((s.size : Int) == (t.size : Int)) = true := by rw [h]; simp
    have h' := hid h
    clear h
    go_enter Tryd.func23, Tryd.ntmps23
    go_wp2_with fail
    refine (lowerA_any _ _ hs).mono ?_
    rintro e w1 ⟨rfl, hb1⟩
    go_wp2_with fail
    refine (lowerA_any _ _ ht).mono ?_
    rintro e w2 ⟨rfl, hb2⟩
    go_wp2
    go_ret
    exact ⟨ret_bool (by simp [sameB]), below_chain hb1 hb2⟩
  · have hb : ((s.size : Int) == (t.size : Int)) = false := by rw [beq_eq_false_iff_ne]; omega
    have hf := hid (sameB_len h)
    go_enter Tryd.func23, Tryd.ntmps23
    go_wp2
    go_ret
    exact ⟨ret_bool hf.out.symm, Below.refl _ _⟩

end Go.Proofs.YtalinfpakmcobaaDoor
