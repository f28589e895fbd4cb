/- Walk of the law AsciiTokens: ascii's Token and the reference's agree. -/
import Derived.Test.YtalinfpakmcobaaTok
import Derived.Test.YtalinfpakmcobaaAtok
import Derived.Test.YtalinfpakmcobaaBeyond
namespace Go.Proofs.Ytalinfpakmcobaa
open Go.RowKit Go.Lib Go.Proofs.Foot

theorem asciiTokens_walk (s : ByteArray) (hs : s.size ≤ maxLen) (z : s.size ≤ 140737488351232) (w : World) (_hsh : w.ShapedOpen Try.prog) :
    Calls Try.prog 3 #[.string s] w fun e w' => e = .returned (.bool true) ∧ Below w.heap.size w w' := by
  go_enter Try.func3, Try.ntmps3
  go_wp2_with (first
    | (go_at_call 5; refine (beyond1 _ _ z).mono ?_; rintro e w1 ⟨rfl, rfl⟩)
    | (go_at_call 6; refine (token_any _ _ hs).mono ?_; rintro e w2 ⟨rfl, hb2⟩)
    | (go_at_call 7; refine (refToken_any _ _ hs).mono ?_; rintro e w3 ⟨rfl, rfl⟩))
  all_goals go_ret
  · exact ⟨rfl, (Below.refl _ _).alloc (Nat.le_refl _) _⟩
  · exact ⟨rfl, below_chain ((Below.refl _ _).alloc (Nat.le_refl _) _) hb2⟩
end Go.Proofs.Ytalinfpakmcobaa
