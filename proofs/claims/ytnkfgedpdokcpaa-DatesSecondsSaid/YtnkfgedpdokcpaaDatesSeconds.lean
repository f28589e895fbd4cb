/- Walk of the law DatesSeconds: Seconds of dates and of the reference agree. -/
import Derived.Test.YtnkfgedpdokcpaaDt3
namespace Go.Proofs.Ytnkfgedpdokcpaa
open Go.RowKit Go.Lib Go.Proofs.Foot

set_option maxRecDepth 100000 in
theorem datesSeconds_walk (y : Int) (_wy : (Lit.int .i64 y).wf = true) (m : Int) (_wm : (Lit.int .i64 m).wf = true) (k : Int) (_wk : (Lit.int .i64 k).wf = true) (h : Int) (_wh : (Lit.int .i64 h).wf = true) (mi : Int) (_wi : (Lit.int .i64 mi).wf = true) (s : Int) (_ws : (Lit.int .i64 s).wf = true) (w : World) (_hsh : w.ShapedOpen Try.prog) :
    Calls Try.prog 4 #[.agg #[.int .i64 y, .int .i64 m, .int .i64 k, .int .i64 h, .int .i64 mi, .int .i64 s]] w fun e w' => e = .returned (.bool true) ∧ Below w.heap.size w w' := by
  have HA := hid (secondsA_any y m k h mi s)
  have HR := hid (secondsR_any y m k h mi s)
  clear _wy _wm _wk _wh _wi _ws
  cases ok : okS y m k h mi s with
  | true =>
    have e : secVal y m k h mi s = .tuple #[.int .i64 (secS y m k h mi s), .bool true] := if_pos ok
    rw [e] at HA HR
    clear e ok
    go_enter Try.func4, Try.ntmps4
    go_wp2_with (first
      | (go_at_call 7; refine (HA.out _).mono ?_; rintro e w1 ⟨rfl, rfl⟩)
      | (go_at_call 8; refine (HR.out _).mono ?_; rintro e w1 ⟨rfl, rfl⟩))
    go_ret
    exact ⟨rfl, (Below.refl _ _).alloc (Nat.le_refl _) _⟩
  | false =>
    have e : secVal y m k h mi s = .tuple #[.int .i64 0, .bool false] := if_neg (by rw [ok]; decide)
    rw [e] at HA HR
    clear e ok
    go_enter Try.func4, Try.ntmps4
    go_wp2_with (first
      | (go_at_call 7; refine (HA.out _).mono ?_; rintro e w1 ⟨rfl, rfl⟩)
      | (go_at_call 8; refine (HR.out _).mono ?_; rintro e w1 ⟨rfl, rfl⟩))
    go_ret
    exact ⟨rfl, (Below.refl _ _).alloc (Nat.le_refl _) _⟩
end Go.Proofs.Ytnkfgedpdokcpaa
