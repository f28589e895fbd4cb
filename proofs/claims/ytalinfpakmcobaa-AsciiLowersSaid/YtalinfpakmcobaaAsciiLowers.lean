/- Walk of the law AsciiLowers: ascii's Lower and Same and the reference's agree. -/
import Derived.Test.YtalinfpakmcobaaLow
import Derived.Test.YtalinfpakmcobaaBeyond
namespace Go.Proofs.Ytalinfpakmcobaa
open Go.RowKit Go.Lib Go.Proofs.Foot

theorem asciiLowers_walk (s : ByteArray) (hs : s.size ≤ maxLen) (z : s.size ≤ 140737488351232) (t : ByteArray) (ht : t.size ≤ maxLen) (zt : t.size ≤ 140737488351232) (w : World) (_hsh : w.ShapedOpen Try.prog) :
    Calls Try.prog 4 #[.string s, .string t] w fun e w' => e = .returned (.bool true) ∧ Below w.heap.size w w' := by
  go_enter Try.func4, Try.ntmps4
  go_wp2_with (first
    | (go_at_call 5; refine (beyond2 _ _ _ z zt).mono ?_; rintro e w1 ⟨rfl, rfl⟩)
    | (go_at_call 8; refine (lowerA_any _ _ hs).mono ?_; rintro e w2 ⟨rfl, hb2⟩)
    | (go_at_call 9; refine (lowerR_any _ _ hs).mono ?_; rintro e w3 ⟨rfl, hb3⟩)
    | (go_at_call 10; refine (sameA_any _ _ _ hs ht).mono ?_; rintro e w4 ⟨rfl, hb4⟩)
    | (go_at_call 11; refine (sameR_any _ _ _ hs ht).mono ?_; rintro e w5 ⟨rfl, hb5⟩))
  all_goals go_ret
  · exact ⟨rfl, (Below.refl _ _).alloc (Nat.le_refl _) _⟩
  · exact ⟨rfl, below_chain (below_chain (below_chain (below_chain ((Below.refl _ _).alloc (Nat.le_refl _) _) hb2) hb3) hb4) hb5⟩
end Go.Proofs.Ytalinfpakmcobaa
