/- The plain trimming of chapter 01, over lists of bytes. No program stands here. -/
import Derived.Test.YtnkfgedpdokcpaaDoorSpec01
import Derived.Lib.SlTrimSet
namespace Go.Proofs.Foot

def blankB (c : UInt8) : Bool := ([32, 9] : List UInt8).contains c
def trimL (l : List UInt8) : List UInt8 := l.dropWhile blankB
def trimE (l : List UInt8) : List UInt8 := (l.reverse.dropWhile blankB).reverse
/-- Without the blanks at its ends. -/
def trim (l : List UInt8) : List UInt8 := trimE (trimL l)

theorem dropWhile_all {p : UInt8 → Bool} {l : List UInt8} (h : ∀ c ∈ l, p c = true) (m : List UInt8) : (l ++ m).dropWhile p = m.dropWhile p := by
  induction l with
  | nil => rfl
  | cons c l ih => rw [List.cons_append, List.dropWhile_cons_of_pos (h c (by simp)), ih (fun d hd => h d (List.mem_cons_of_mem _ hd))]
theorem dropWhile_some {p : UInt8 → Bool} {l : List UInt8} (h : ∃ c ∈ l, p c = false) (m : List UInt8) : (l ++ m).dropWhile p = l.dropWhile p ++ m := by
  induction l with
  | nil => obtain ⟨c, hc, _⟩ := h; cases hc
  | cons c l ih =>
    cases hp : p c with
    | true =>
      rw [List.cons_append, List.dropWhile_cons_of_pos hp, List.dropWhile_cons_of_pos hp]
      refine ih ?_
      obtain ⟨d, hd, hpd⟩ := h
      rcases List.mem_cons.1 hd with rfl | hd
      · rw [hp] at hpd; cases hpd
      · exact ⟨d, hd, hpd⟩
    | false =>
      rw [List.cons_append, List.dropWhile_cons_of_neg (by rw [hp]; decide), List.dropWhile_cons_of_neg (by rw [hp]; decide)]; rfl
theorem all_or (p : UInt8 → Bool) (l : List UInt8) : (∀ c ∈ l, p c = true) ∨ ∃ c ∈ l, p c = false := by
  by_cases h : ∃ c ∈ l, p c = false
  · exact .inr h
  · refine .inl fun c hc => ?_
    cases hp : p c with
    | true => rfl
    | false => exact absurd ⟨c, hc, hp⟩ h
theorem dropWhile_none {p : UInt8 → Bool} {l : List UInt8} (h : ∀ c ∈ l, p c = true) : l.dropWhile p = [] := by
  have := dropWhile_all h []
  simpa using this
theorem trim_comm (l : List UInt8) : trimE (trimL l) = trimL (trimE l) := by
  induction l with
  | nil => rfl
  | cons c l ih =>
    unfold trimE trimL at ih ⊢
    cases hp : blankB c with
    | true =>
      rw [List.dropWhile_cons_of_pos hp, ih, List.reverse_cons]
      rcases all_or blankB l.reverse with h | h
      · rw [dropWhile_all h, dropWhile_none h, List.dropWhile_cons_of_pos hp]; rfl
      · rw [dropWhile_some h, List.reverse_append]
        show _ = (c :: (l.reverse.dropWhile blankB).reverse).dropWhile blankB
        rw [List.dropWhile_cons_of_pos hp]
    | false =>
      rw [List.dropWhile_cons_of_neg (by rw [hp]; decide), List.reverse_cons]
      rcases all_or blankB l.reverse with h | h
      · rw [dropWhile_all h, List.dropWhile_cons_of_neg (by rw [hp]; decide)]
        show [c] = [c].dropWhile blankB
        rw [List.dropWhile_cons_of_neg (by rw [hp]; decide)]
      · rw [dropWhile_some h, List.reverse_append]
        show c :: (l.reverse.dropWhile blankB).reverse = (c :: (l.reverse.dropWhile blankB).reverse).dropWhile blankB
        rw [List.dropWhile_cons_of_neg (by rw [hp]; decide)]
theorem trimS_eq (l : List UInt8) : Lib.trimS l [32, 9] = trim l := (trim_comm l).symm
theorem trimL_length (l : List UInt8) : (trimL l).length ≤ l.length := (List.dropWhile_sublist _).length_le
theorem trimE_length (l : List UInt8) : (trimE l).length ≤ l.length := by
  unfold trimE; rw [List.length_reverse]; exact Nat.le_trans (List.dropWhile_sublist _).length_le (by simp)
theorem trim_length (l : List UInt8) : (trim l).length ≤ l.length := Nat.le_trans (trimE_length _) (trimL_length _)
theorem trimL_yes {c : UInt8} (h : blankB c = true) (l : List UInt8) : trimL (c :: l) = trimL l := List.dropWhile_cons_of_pos h
theorem trimL_no {c : UInt8} (h : blankB c = false) (l : List UInt8) : trimL (c :: l) = c :: l := List.dropWhile_cons_of_neg (by rw [h]; decide)
theorem trimE_yes {c : UInt8} (h : blankB c = true) (l : List UInt8) : trimE (l ++ [c]) = trimE l := by
  unfold trimE; rw [List.reverse_append]
  show ((c :: l.reverse).dropWhile blankB).reverse = _
  rw [List.dropWhile_cons_of_pos h]
theorem trimE_no {c : UInt8} (h : blankB c = false) (l : List UInt8) : trimE (l ++ [c]) = l ++ [c] := by
  unfold trimE; rw [List.reverse_append]
  show ((c :: l.reverse).dropWhile blankB).reverse = _
  rw [List.dropWhile_cons_of_neg (by rw [h]; decide)]; simp
end Go.Proofs.Foot
