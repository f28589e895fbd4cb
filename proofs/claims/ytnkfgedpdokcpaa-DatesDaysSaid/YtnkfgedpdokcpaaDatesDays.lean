/- Walk of the law DatesDays: Day of dates and of the reference agree. -/
import Derived.Test.YtnkfgedpdokcpaaDy2
namespace Go.Proofs.Ytnkfgedpdokcpaa
open Go.RowKit Go.Lib Go.Proofs.Foot

set_option maxRecDepth 100000 in
theorem datesDays_walk (n : Int) (_wn : (Lit.int .i64 n).wf = true) (w : World) (_hsh : w.ShapedOpen Try.prog) :
    Calls Try.prog 3 #[.int .i64 n] w fun e w' => e = .returned (.bool true) ∧ Below w.heap.size w w' := by
  clear _wn
  obtain ⟨y, m, k, wk, h⟩ : ∃ y m k wk, dayVal n = .tuple #[.int .i64 y, .int .i64 m, .int .i64 k, .int .i64 wk] := by
    unfold dayVal; split
    · exact ⟨_, _, _, _, rfl⟩
    · exact ⟨_, _, _, _, rfl⟩
  have HA := hid (dayA_any n)
  have HR := hid (dayR_any n)
  rw [h] at HA HR
  clear h
  go_enter Try.func3, Try.ntmps3
  go_wp2_with (first
    | (go_at_call 5; refine (HA.out _).mono ?_; rintro e w1 ⟨rfl, rfl⟩)
    | (go_at_call 6; refine (HR.out _).mono ?_; rintro e w1 ⟨rfl, rfl⟩))
  go_ret
  exact ⟨rfl, Below.refl _ _⟩
end Go.Proofs.Ytnkfgedpdokcpaa
