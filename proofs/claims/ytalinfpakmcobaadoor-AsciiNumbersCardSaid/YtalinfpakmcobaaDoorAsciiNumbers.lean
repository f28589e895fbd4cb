/- Walk of the law AsciiNumbers: ascii's Number and the reference's agree. -/
import Derived.Test.YtalinfpakmcobaaDoorNumR
import Derived.Test.YtalinfpakmcobaaDoorBeyond
import Derived.Test.YtalinfpakmcobaaDoorRows
namespace Go.Proofs.YtalinfpakmcobaaDoor
open Go.RowKit Go.Lib Go.Proofs.Foot

theorem asciiNumbers_walk (s : ByteArray) (_hs : s.size ≤ maxLen) (z : s.size ≤ 140737488351232) (most : Int) (_wm : (Lit.int .i64 most).wf = true) (w : World) (_hL : laidMetH Tryd.prog Rows.asciiNumbersRow.laid w) (_hsh : w.ShapedOpen Tryd.prog) :
    Calls Tryd.prog 5 #[.string s, .int .i64 most] w fun e w' => e = .returned (.bool true) ∧ Below w.heap.size w w' := by
  clear _hL _hsh _hs _wm
  cases hb : beyond [s.size] with
  | true =>
    go_enter Tryd.func5, Tryd.ntmps5
    go_wp2_with (go_at_call 11; refine (beyond1 _ _ z).mono ?_; rintro e w1 ⟨rfl, rfl⟩)
    go_ret
    exact ⟨rfl, (Below.refl _ _).alloc (Nat.le_refl _) _⟩
  | false =>
    have hle := beyond_le (zs := [s.size]) (by rw [hb]; decide)
    have hs : s.size ≤ 1048576 := by simpa using hle
    clear hle
    have HA := hid (fun w => numberA_any s most w (by omega))
    have HR := hid (fun w => numberR_any s most w (by omega))
    obtain ⟨n, o, hv⟩ : ∃ n o, numV s.data.toList most = .tuple #[.int .i64 n, .bool o] := by
      unfold numV; split
      · exact ⟨_, _, rfl⟩
      · exact ⟨_, _, rfl⟩
    rw [hv] at HA HR
    clear hv
    go_enter Tryd.func5, Tryd.ntmps5
    go_wp2_with (first
      | (go_at_call 11; refine (beyond1 _ _ z).mono ?_; rintro e w1 ⟨rfl, rfl⟩)
      | (go_at_call 19; refine (HA.out _).mono ?_; rintro e w2 ⟨rfl, hb2⟩)
      | (go_at_call 20; refine (HR.out _).mono ?_; rintro e w3 ⟨rfl, rfl⟩))
    go_ret
    exact ⟨rfl, below_chain ((Below.refl _ _).alloc (Nat.le_refl _) _) hb2⟩
end Go.Proofs.YtalinfpakmcobaaDoor
