/- Walk of the law AsciiTrims: ascii's Trim and the reference's agree. -/
import Derived.Test.YtalinfpakmcobaaDoorTrimR
import Derived.Test.YtalinfpakmcobaaDoorBeyond
import Derived.Test.YtalinfpakmcobaaDoorRows
namespace Go.Proofs.YtalinfpakmcobaaDoor
open Go.RowKit Go.Lib Go.Proofs.Foot

theorem asciiTrims_walk (s : ByteArray) (_hs : s.size ≤ maxLen) (z : s.size ≤ 140737488351232) (w : World) (_hL : laidMetH Tryd.prog Rows.asciiTrimsRow.laid w) (_hsh : w.ShapedOpen Tryd.prog) :
    Calls Tryd.prog 3 #[.string s] w fun e w' => e = .returned (.bool true) ∧ Below w.heap.size w w' := by
  clear _hL _hsh _hs
  cases hb : beyond [s.size] with
  | true =>
    go_enter Tryd.func3, Tryd.ntmps3
    go_wp2_with (go_at_call 11; refine (beyond1 _ _ z).mono ?_; rintro e w1 ⟨rfl, rfl⟩)
    go_ret
    exact ⟨rfl, (Below.refl _ _).alloc (Nat.le_refl _) _⟩
  | false =>
    have hle := beyond_le (zs := [s.size]) (by rw [hb]; decide)
    have hs : s.size ≤ 1048576 := by simpa using hle
    clear hle
    go_enter Tryd.func3, Tryd.ntmps3
    go_wp2_with (first
      | (go_at_call 11; refine (beyond1 _ _ z).mono ?_; rintro e w1 ⟨rfl, rfl⟩)
      | (go_at_call 12; refine (trimA_any s _ (by omega)).mono ?_; rintro e w2 ⟨rfl, hb2⟩)
      | (go_at_call 13; refine (trimR_any s _ (by omega)).mono ?_; rintro e w3 ⟨rfl, rfl⟩))
    go_ret
    exact ⟨rfl, below_chain ((Below.refl _ _).alloc (Nat.le_refl _) _) hb2⟩
end Go.Proofs.YtalinfpakmcobaaDoor
