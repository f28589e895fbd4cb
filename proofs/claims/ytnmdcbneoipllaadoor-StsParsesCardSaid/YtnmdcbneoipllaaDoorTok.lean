/- Walks: the reference's Digit, sign and Token; Beyond of one and of two lengths. -/
import Derived.Test.YtnmdcbneoipllaaDoorProg
import Derived.Test.YtnmdcbneoipllaaDoorBase
import Derived.Test.YtnmdcbneoipllaaDoorSpec01
namespace Go.Proofs.YtnmdcbneoipllaaDoor
open Go.RowKit Go.Lib Go.Proofs.Foot

theorem digit_any (c : UInt8) (w : World) :
    Calls Tryd.prog 47 #[.int .u8 c.toNat] w fun e w' => e = .returned (.bool (digB c)) ∧ w = w' := by
  go_enter Tryd.func47, Tryd.ntmps47
  go_wp2
  all_goals go_ret
  · refine ⟨ret_bool ?_, rfl⟩
    by_cases h : c.toNat ≤ 57
    · rw [digB_true (by omega)]; simp; omega
    · rw [digB_false (by omega)]; simp; omega
  · exact ⟨ret_bool (digB_false (by omega)).symm, rfl⟩

theorem sign_any (c : UInt8) (w : World) :
    Calls Tryd.prog 62 #[.int .u8 c.toNat] w fun e w' => e = .returned (.bool (signB c)) ∧ w = w' := by
  go_enter Tryd.func62, Tryd.ntmps62
  go_wp2_with (go_at_call 47; refine (digit_any _ _).mono ?_; rintro e w' ⟨rfl, rfl⟩)
  all_goals go_ret
  all_goals refine ⟨ret_bool ?_, rfl⟩
  all_goals symm
  all_goals simp only [beq_iff_eq, beq_eq_false_iff_ne, ne_eq, digB_iff] at *
  all_goals first | exact signB_true (by omega) | exact signB_false (by omega)

theorem refToken_any (s : ByteArray) (w : World) (hs : s.size ≤ maxLen) :
    Calls Tryd.prog 45 #[.string s] w fun e w' => e = .returned (.bool (token s.data.toList)) ∧ w = w' := by
  unfold maxLen at hs
  go_enter Tryd.func45, Tryd.ntmps45
  go_wp2
  go_loop [3] (fun i => ∃ k : Nat, k ≤ s.size ∧ i = .int .i64 k ∧ Hid ((s.data.toList.take k).all signB = true)) (fun i => s.size - (intOf i).toNat)
  case atStart => exact ⟨0, Nat.zero_le _, rfl, rfl⟩
  case round =>
    obtain ⟨k, hk, rfl, ht⟩ := hrel
    by_cases hlt : k < s.size
    · have hl : k < s.data.toList.length := by simpa using hlt
      cases hc : signB s[k] with
      | true =>
        have hn := all_take_snoc hl ht hc
        have Hn := hid hn
        clear hn
        go_wp2_with (go_at_call 62; refine (sign_any _ _).mono ?_; rintro e w' ⟨rfl, rfl⟩)
        go_round
        case rel => exact ⟨k + 1, by omega, by go_num, Hn⟩
        case measure => simp [intOf]; omega
      | false =>
        have hf := token_false_at hl hc
        have Hf := hid hf
        clear hf
        go_wp2_with (go_at_call 62; refine (sign_any _ _).mono ?_; rintro e w' ⟨rfl, rfl⟩)
        go_ret
        exact ⟨ret_bool Hf.out.symm, rfl⟩
    · have hf := token_end (by simp; omega) ht.out
      have Hf := hid hf
      clear hf
      go_wp2
      go_ret
      exact ⟨ret_bool (by rw [Hf.out, size_isEmpty]), rfl⟩

end Go.Proofs.YtnmdcbneoipllaaDoor
