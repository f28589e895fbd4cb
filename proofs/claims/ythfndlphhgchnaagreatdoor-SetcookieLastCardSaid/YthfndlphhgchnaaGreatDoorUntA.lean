/- Walk: setcookie's Until. -/
import Derived.Test.YthfndlphhgchnaaGreatDoorProg
import Derived.Test.YthfndlphhgchnaaGreatDoorBase
namespace Go.Proofs.YthfndlphhgchnaaGreatDoor
open Go.RowKit Go.Lib

/-- A time, put between its limits. -/
def nowV (now : Int) : Int := max 0 (min now 1099511627775)
/-- When a cookie ends. -/
def untilV (ex : Int) (he : Bool) (ag : Int) (ha : Bool) (now : Int) : Int :=
  match ha, he with
  | true, _ => if ag ≤ 0 then 0 else nowV now + min ag 34560000
  | false, true => if ex ≤ nowV now then 0 else min ex (nowV now + 34560000)
  | false, false => -1

set_option maxHeartbeats 1000000 in
set_option maxRecDepth 100000 in
theorem untilA_any (a b c d : ByteArray) (ex : Int) (he : Bool) (ag : Int) (ha se hi : Bool) (si now : Int) (w : World) :
    Calls Tryz.prog 11 #[.agg #[.string a, .string b, .string c, .string d, .int .i64 ex, .bool he, .int .i64 ag, .bool ha, .bool se, .bool hi, .int .u8 si], .int .i64 now] w fun e w' => e = .returned (.int .i64 (untilV ex he ag ha now)) ∧ Below w.heap.size w w' := by
  cases ha <;> cases he
  all_goals
    go_enter Tryz.func11, Tryz.ntmps11
    go_wp2
  all_goals
    go_ret
    refine ⟨ret_int ?_, (Below.refl _ _).alloc (Nat.le_refl _) _⟩
    simp only [untilV, nowV]
    try omega

end Go.Proofs.YthfndlphhgchnaaGreatDoor
