/- Texts that lie in a row of the call's own. -/
import Derived.Test.YthfndlphhgchnaaGreatDoorAppS
import Derived.Lib.Strings
namespace Go.Proofs.YthfndlphhgchnaaGreatDoor
open Go.RowKit Go.Lib

/-- The texts l lie in block g from cell o on. -/
def TextsAt (w : World) (g o : Nat) (l : List ByteArray) : Prop := ∀ (j : Nat) x, l[j]? = some x → w.cell? ⟨g, o + j, none⟩ = some (.string x)
theorem TextsAt.below {w w' : World} {g o : Nat} {l : List ByteArray} {B : Nat} (h : TextsAt w g o l) (hb : Below B w w') (hg : g < B) : TextsAt w' g o l :=
  fun j x hj => (hb.cell hg).trans (h j x hj)
theorem TextsAt.drop {w : World} {g o : Nat} {l : List ByteArray} (h : TextsAt w g o l) (k : Nat) : TextsAt w g (o + k) (l.drop k) := fun j x hj => by
  rw [Nat.add_assoc]
  exact h (k + j) x (by simpa using hj)
theorem TextsAt.take {w : World} {g o : Nat} {l : List ByteArray} (h : TextsAt w g o l) (k : Nat) : TextsAt w g o (l.take k) := fun j x hj => by
  have h1 := (List.getElem?_eq_some_iff.1 hj).1
  rw [List.length_take] at h1
  rw [List.getElem?_take_of_lt (by omega)] at hj
  exact h j x hj
theorem row_texts {w : World} {base : Nat} {v : Value} {l : List ByteArray} (hown : w.ownsRow base 9 1 v l.length (l.map Value.string)) (h0 : 0 < l.length) :
    ∃ g cap, v = .slice (some ⟨g, 0, none⟩) l.length cap ∧ base ≤ g ∧ g < w.heap.size ∧ l.length ≤ cap ∧ TextsAt w g 0 l := by
  rcases hown.2 with ⟨rfl, h⟩ | ⟨g, cap, cur, rfl, hb, hg, hnc, hcm, hcs, htake⟩
  · omega
  · refine ⟨g, cap, rfl, hb, (Array.getElem?_eq_some_iff.1 hg).1, hnc, fun j x hj => ?_⟩
    rw [Nat.zero_add, hown.cellAt j (by have := (List.getElem?_eq_some_iff.1 hj).1; omega)]
    simp [hj]
end Go.Proofs.YthfndlphhgchnaaGreatDoor
