/- Walk of the law PercentDecodes: percent's Decode and the reference's agree. -/
import Derived.Test.YtcjjlmjamcmnpaaDoorDec
import Derived.Test.YtcjjlmjamcmnpaaDoorDecR
import Derived.Test.YtcjjlmjamcmnpaaDoorBeyond
import Derived.Test.YtcjjlmjamcmnpaaDoorLaid
import Derived.Test.YtcjjlmjamcmnpaaDoorRows
namespace Go.Proofs.YtcjjlmjamcmnpaaDoor
open Go.RowKit Go.Lib Go.Proofs.Foot

theorem percentDecodes_walk (s : ByteArray) (_hs : s.size ≤ maxLen) (z : s.size ≤ 140737488351232) (w : World) (hL : laidMetH Tryd.prog Rows.percentDecodesRow.laid w) (hsh : w.ShapedOpen Tryd.prog) :
    Calls Tryd.prog 3 #[.string s] w fun e w' => e = .returned (.bool true) ∧ Below w.heap.size w w' := by
  obtain ⟨te, pe, hev⟩ := laid_iface (n := "strconv.ErrSyntax") Rows.laid_strconv_ErrSyntax ⟨_, _, rfl⟩ hL (show Tryd.prog.globalNamed "strconv.ErrSyntax" = some 1 by kernel_rfl) (show (Tryd.prog.globals[1]?).map (·.type) = some 41 by kernel_rfl) ⟨_, Tryd.underlying41⟩ (by kernel_rfl) (by kernel_rfl)
  have Hev := hid hev
  have Hsh := hid hsh
  clear hL hev hsh
  by_cases hb : beyond [s.size] = true
  · go_enter Tryd.func3, Tryd.ntmps3
    go_wp2_with (go_at_call 9; refine (beyond1 _ _ z).mono ?_; rintro e w1 ⟨rfl, rfl⟩)
    go_ret
    exact ⟨rfl, (Below.refl _ _).alloc (Nat.le_refl _) _⟩
  · have hle := beyond_le hb
    have hs : s.size ≤ 1048576 := by simpa using hle
    have hbf : beyond [s.size] = false := by simpa using hb
    have b1 : Below w.heap.size w (w.alloc (.cells #[.int .i64 s.size] 3)) := (Below.refl _ _).alloc (Nat.le_refl _) _
    have HA := hid (decodeA_any s (w.alloc (.cells #[.int .i64 s.size] 3)) (by omega) (Hsh.out.keptBut (b1.frame (fun _ => False)) (fun _ h => h.elim)) _ ((b1.cell (Lib.lt_of_cell Hev.out)).trans Hev.out) (.inr ⟨te, pe, rfl⟩))
    have B1 := hid b1
    clear hle hb b1
    go_enter Tryd.func3, Tryd.ntmps3
    go_wp2_with (first
      | (go_at_call 9; refine (beyond1 _ _ z).mono ?_; rintro e w1 ⟨rfl, rfl⟩)
      | (go_at_call 10; refine HA.out.mono ?_; rintro e w2 ⟨rfl, hb2⟩)
      | (go_at_call 11; refine (decodeR_any s _ (by omega)).mono ?_; rintro e w3 ⟨rfl, hb3⟩))
    go_ret
    exact ⟨rfl, below_chain (below_chain B1.out hb2) hb3⟩
end Go.Proofs.YtcjjlmjamcmnpaaDoor
