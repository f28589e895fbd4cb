/- Walk of the law PercentEncodes: percent's Encode and the reference's agree. -/
import Derived.Test.YtcjjlmjamcmnpaaEncR
import Derived.Test.YtcjjlmjamcmnpaaBeyond
namespace Go.Proofs.Ytcjjlmjamcmnpaa
open Go.RowKit Go.Lib Go.Proofs.Foot

theorem percentEncodes_walk (s : ByteArray) (_hs : s.size ≤ maxLen) (z : s.size ≤ 140737488351232) (y : Int) (wy : (Lit.int .u8 y).wf = true) (w : World) (_hsh : w.ShapedOpen Try.prog) :
    Calls Try.prog 4 #[.string s, .int .u8 y] w fun e w' => e = .returned (.bool true) ∧ Below w.heap.size w w' := by
  obtain ⟨n, rfl⟩ := u8_of wy
  by_cases hb : beyond [s.size] = true
  · go_enter Try.func4, Try.ntmps4
    go_wp2_with (go_at_call 7; refine (beyond1 _ _ z).mono ?_; rintro e w1 ⟨rfl, rfl⟩)
    go_ret
    exact ⟨rfl, (Below.refl _ _).alloc (Nat.le_refl _) _⟩
  · have hle : s.size ≤ 1048576 := by have := beyond_le hb; simpa using this
    go_enter Try.func4, Try.ntmps4
    go_wp2_with (first
      | (go_at_call 7; refine (beyond1 _ _ z).mono ?_; rintro e w1 ⟨rfl, rfl⟩)
      | (go_at_call 8; refine (encodeA_any _ _ n.toNat_lt _ hle).mono ?_; rintro e w2 ⟨rfl, hb2⟩)
      | (go_at_call 9; refine (encodeR_any _ _ n.toNat_lt _ hle).mono ?_; rintro e w3 ⟨rfl, hb3⟩))
    go_ret
    exact ⟨rfl, below_chain (below_chain ((Below.refl _ _).alloc (Nat.le_refl _) _) hb2) hb3⟩
end Go.Proofs.Ytcjjlmjamcmnpaa
