/- Plain law: how the longest run of noughts is found, and how an address of sixteen bytes is told. -/
import Derived.Lib.Join
namespace Go.Proofs.YtiookngmgednjaaDoor

/-- The run that ends here (from, how long) and the best run so far, after k pieces. -/
def runs (z : List Bool) : Nat → (Nat × Nat) × (Nat × Nat)
  | 0 => ((0, 0), (0, 0))
  | k + 1 =>
    if z.getD k false then
      if (runs z k).2.2 < (runs z k).1.2 + 1 then ((if (runs z k).1 = (0, 0) then k else (runs z k).1.1, (runs z k).1.2 + 1), (if (runs z k).1 = (0, 0) then k else (runs z k).1.1, (runs z k).1.2 + 1))
      else ((if (runs z k).1 = (0, 0) then k else (runs z k).1.1, (runs z k).1.2 + 1), (runs z k).2)
    else ((0, 0), (runs z k).2)
/-- How many noughts stand from piece i on. -/
def lead (z : List Bool) (i : Nat) : Nat := ((z.drop i).takeWhile id).length
/-- The reference's best run after k pieces. -/
def refRun (z : List Bool) : Nat → Nat × Nat
  | 0 => (0, 1)
  | k + 1 => if (refRun z k).2 < lead z k then (k, lead z k) else refRun z k
theorem runs_ref8 : ∀ a b c d e f g h : Bool, ((runs [a, b, c, d, e, f, g, h] 8).2.2 < 2 ∧ (refRun [a, b, c, d, e, f, g, h] 8).2 = 1) ∨ (2 ≤ (runs [a, b, c, d, e, f, g, h] 8).2.2 ∧ refRun [a, b, c, d, e, f, g, h] 8 = (runs [a, b, c, d, e, f, g, h] 8).2 ∧ (runs [a, b, c, d, e, f, g, h] 8).2.1 + (runs [a, b, c, d, e, f, g, h] 8).2.2 ≤ 8) := by decide +kernel
theorem runs_ref (z : List Bool) (hz : z.length = 8) : ((runs z 8).2.2 < 2 ∧ (refRun z 8).2 = 1) ∨ (2 ≤ (runs z 8).2.2 ∧ refRun z 8 = (runs z 8).2 ∧ (runs z 8).2.1 + (runs z 8).2.2 ≤ 8) := by
  match z, hz with
  | [a, b, c, d, e, f, g, h], _ => exact runs_ref8 a b c d e f g h
/-- The reference's telling, from piece i on, behind the text s: the run of n pieces from f is left out. -/
def refGo (ts : List (List UInt8)) (f n : Nat) : Nat → Nat → List UInt8 → List UInt8
  | 0, _, s => s
  | k + 1, i, s =>
    if 8 ≤ i then s
    else if 1 < n ∧ i = f then refGo ts f n k (f + n) (s ++ [58, 58])
    else refGo ts f n k (i + 1) ((if 0 < i ∧ (n = 1 ∨ i ≠ f + n) then s ++ [58] else s) ++ ts.getD i [])
theorem refGo_one (ts : List (List UInt8)) (ht : ts.length = 8) (f : Nat) : refGo ts f 1 9 0 [] = Lib.join ts [58] := by
  match ts, ht with
  | [a, b, c, d, e, f1, g, h], _ => simp [refGo, Lib.join, List.intercalate]
theorem refGo_run (ts : List (List UInt8)) (ht : ts.length = 8) (f n : Nat) (hn : 2 ≤ n) (hf : f + n ≤ 8) : refGo ts f n 9 0 [] = Lib.join (ts.take f) [58] ++ [58, 58] ++ Lib.join (ts.drop (f + n)) [58] := by
  match ts, ht with
  | [a, b, c, d, e, f1, g, h], _ =>
    obtain rfl | rfl | rfl | rfl | rfl | rfl | rfl : f = 0 ∨ f = 1 ∨ f = 2 ∨ f = 3 ∨ f = 4 ∨ f = 5 ∨ f = 6 := by omega
    all_goals (obtain rfl | rfl | rfl | rfl | rfl | rfl | rfl : n = 2 ∨ n = 3 ∨ n = 4 ∨ n = 5 ∨ n = 6 ∨ n = 7 ∨ n = 8 := by omega)
    all_goals first
      | omega
      | simp [refGo, Lib.join, List.intercalate]
end Go.Proofs.YtiookngmgednjaaDoor
