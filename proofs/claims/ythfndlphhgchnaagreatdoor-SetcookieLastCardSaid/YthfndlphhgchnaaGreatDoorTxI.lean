/- A text of seconds: what dates.Text answers. -/
import Derived.Test.YthfndlphhgchnaaGreatDoorTx1
namespace Go.Proofs.YthfndlphhgchnaaGreatDoor
open Go.RowKit Go.Lib Go.Proofs.Foot

/-- A text is the one of these seconds. -/
def IsText (l : List UInt8) (n : Nat) : Prop := n ≤ 253402300799 ∧ ∃ Y M K W, DayIs (n : Int) Y M K W ∧ textBy n Y M K W = l
theorem IsText.date {l : List UInt8} {n : Nat} (h : IsText l n) : dateV (dateP l) = .tuple #[.int .i64 n, .bool true] := by
  obtain ⟨_, Y, M, K, W, D, rfl⟩ := h
  exact dateV_text D
theorem dateV_form' (d : Dt) : ∃ v o, dateV d = .tuple #[.int .i64 v, .bool o] := by
  unfold dateV secVal
  split
  · split
    · exact ⟨_, _, rfl⟩
    · exact ⟨_, _, rfl⟩
  · exact ⟨_, _, rfl⟩
theorem textA_is (n : Nat) (s : ByteArray) (h : IsText s.data.toList n) (w : World) (G : Good w) :
    Calls Tryz.prog 13 #[.int .i64 n] w fun e w' => e = .returned (.tuple #[.string s, .bool true]) ∧ Below w.heap.size w w' := by
  obtain ⟨hn, Y, M, K, W, D, hT⟩ := h
  exact textA_yes n hn Y M K W D s hT w G
/-- What Text answers: none, or the seconds' text. -/
theorem text_cases (v : Int) : (¬ (0 ≤ v ∧ v ≤ 253402300799)) ∨ ∃ n : Nat, v = n ∧ ∃ T : ByteArray, IsText T.data.toList n := by
  by_cases h : 0 ≤ v ∧ v ≤ 253402300799
  · right
    obtain ⟨n, rfl⟩ := Int.eq_ofNat_of_zero_le h.1
    obtain ⟨Y, M, K, W, D⟩ := dayIs_of (n : Int) (by omega) h.2
    exact ⟨n, rfl, ⟨(textBy n Y M K W).toArray⟩, by omega, Y, M, K, W, D, by simp⟩
  · exact .inl h
end Go.Proofs.YthfndlphhgchnaaGreatDoor
