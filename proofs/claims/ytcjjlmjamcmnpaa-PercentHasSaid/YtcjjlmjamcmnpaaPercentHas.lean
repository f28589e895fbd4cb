/- Walk of the law PercentHas: percent's Has and the reference's agree. -/
import Derived.Test.YtcjjlmjamcmnpaaOf
namespace Go.Proofs.Ytcjjlmjamcmnpaa
open Go.RowKit Go.Lib Go.Proofs.Foot

theorem percentHas_walk (x : Int) (wx : (Lit.int .u8 x).wf = true) (y : Int) (wy : (Lit.int .u8 y).wf = true) (w : World) (_hsh : w.ShapedOpen Try.prog) :
    Calls Try.prog 3 #[.int .u8 x, .int .u8 y] w fun e w' => e = .returned (.bool true) ∧ Below w.heap.size w w' := by
  obtain ⟨n, rfl⟩ := u8_of wx
  obtain ⟨c, rfl⟩ := u8_of wy
  go_enter Try.func3, Try.ntmps3
  go_wp2_with (first
    | (go_at_call 5; refine (has_any _ n.toNat_lt _ _).mono ?_; rintro e w1 ⟨rfl, hb1⟩)
    | (go_at_call 6; refine (hasR_any _ n.toNat_lt _ _).mono ?_; rintro e w2 ⟨rfl, rfl⟩))
  go_ret
  exact ⟨rfl, hb1⟩
end Go.Proofs.Ytcjjlmjamcmnpaa
