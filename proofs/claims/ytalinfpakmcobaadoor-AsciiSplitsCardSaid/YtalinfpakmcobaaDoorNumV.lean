/- What Number answers, as a value. -/
import Derived.Test.YtalinfpakmcobaaDoorProg
import Derived.Test.YtalinfpakmcobaaDoorBase
import Derived.Test.YtalinfpakmcobaaDoorSpec01c
namespace Go.Proofs.YtalinfpakmcobaaDoor
open Go.RowKit Go.Lib Go.Proofs.Foot

theorem ret_val' {a b : Value} (h : a = b) : Ending.returned a = .returned b := by rw [h]
def numV (l : List UInt8) (most : Int) : Value := if numB l most = true then .tuple #[.int .i64 (digV 0 l), .bool true] else .tuple #[.int .i64 0, .bool false]
theorem numV_yes {l : List UInt8} {most : Int} (h1 : l ≠ []) (h2 : l.length ≤ 18) (h3 : ∀ c ∈ l, digB c = true) (h4 : (digV 0 l : Int) ≤ most) : numV l most = .tuple #[.int .i64 (digV 0 l), .bool true] := by
  unfold numV numB
  rw [if_pos (by simp only [Bool.and_eq_true, decide_eq_true_eq, List.all_eq_true]; exact ⟨⟨⟨h1, h2⟩, h3⟩, h4⟩)]
theorem numV_no {l : List UInt8} {most : Int} (h : ¬ (((l ≠ [] ∧ l.length ≤ 18) ∧ ∀ c ∈ l, digB c = true) ∧ (digV 0 l : Int) ≤ most)) : numV l most = .tuple #[.int .i64 0, .bool false] := by
  unfold numV numB
  rw [if_neg (by simp only [Bool.and_eq_true, decide_eq_true_eq, List.all_eq_true]; exact h)]
end Go.Proofs.YtalinfpakmcobaaDoor
