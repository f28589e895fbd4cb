/- The plain splitting of chapter 01, over lists of bytes. No program stands here. -/
import Derived.Test.YtiookngmgednjaaDoorSpec01b
import Derived.Lib.SplitLaws
namespace Go.Proofs.Foot

/-- A text cut at each byte 'at'. -/
def cutAt (a : UInt8) : List UInt8 → List (List UInt8)
  | [] => [[]]
  | c :: l => if c == a then [] :: cutAt a l else match cutAt a l with
    | p :: ps => (c :: p) :: ps
    | [] => [[c]]
theorem cutAt_ne (a : UInt8) (l : List UInt8) : cutAt a l ≠ [] := by
  cases l with
  | nil => simp [cutAt]
  | cons c l =>
    rw [cutAt]; split
    · simp
    · split <;> simp
theorem cutAt_free {a : UInt8} {h : List UInt8} (hh : a ∉ h) : cutAt a h = [h] := by
  induction h with
  | nil => rfl
  | cons c h ih =>
    have hc : (c == a) = false := by rw [beq_eq_false_iff_ne]; rintro rfl; exact hh (by simp)
    rw [cutAt, hc, ih (fun e => hh (List.mem_cons_of_mem _ e))]; rfl
theorem cutAt_at {a : UInt8} {h : List UInt8} (hh : a ∉ h) (t : List UInt8) : cutAt a (h ++ a :: t) = h :: cutAt a t := by
  induction h with
  | nil => rw [List.nil_append, cutAt]; simp
  | cons c h ih =>
    have hc : (c == a) = false := by rw [beq_eq_false_iff_ne]; rintro rfl; exact hh (by simp)
    rw [List.cons_append, cutAt, hc, ih (fun e => hh (List.mem_cons_of_mem _ e))]; rfl
theorem cutAt_length (a : UInt8) (l : List UInt8) : (cutAt a l).length = l.count a + 1 := by
  induction l with
  | nil => rfl
  | cons c l ih =>
    rw [cutAt, List.count_cons]
    cases h : (c == a) with
    | true => rw [if_pos rfl, List.length_cons, ih]; simp
    | false =>
      rw [if_neg (by decide)]
      cases hp : cutAt a l with
      | nil => exact absurd hp (cutAt_ne a l)
      | cons p ps => rw [hp] at ih; simpa using ih
theorem index_at (a : UInt8) : ∀ l : List UInt8, (Lib.index l [a] = -1 ∧ a ∉ l) ∨ ∃ h r, l = h ++ a :: r ∧ a ∉ h ∧ Lib.index l [a] = h.length
  | [] => .inl ⟨rfl, by simp⟩
  | c :: l => by
    by_cases hc : c = a
    · subst hc
      exact .inr ⟨[], l, rfl, by simp, by simp [Lib.index]⟩
    · have e : (([a] : List UInt8).isPrefixOf (c :: l)) = false := by simp [List.isPrefixOf]; exact fun h => hc h.symm
      rcases index_at a l with ⟨hi, hn⟩ | ⟨h, r, rfl, hn, hi⟩
      · refine .inl ⟨?_, ?_⟩
        · rw [Lib.index, e, hi]; rfl
        · simp only [List.mem_cons, not_or]; exact ⟨fun e => hc e.symm, hn⟩
      · refine .inr ⟨c :: h, r, rfl, ?_, ?_⟩
        · simp only [List.mem_cons, not_or]; exact ⟨fun e => hc e.symm, hn⟩
        · rw [Lib.index, e, hi, if_neg (by decide), if_neg (by simp)]; simp
theorem splitK_cutAt (a : UInt8) : ∀ (k : Nat) (l : List UInt8), l.count a = k → Lib.splitK [a] 0 k l = cutAt a l
  | 0, l, h => by
    have hn : a ∉ l := List.count_eq_zero.1 h
    rw [Lib.splitK, cutAt_free hn]
  | k + 1, l, h => by
    rcases index_at a l with ⟨_, hn⟩ | ⟨b, r, rfl, hn, hi⟩
    · rw [List.count_eq_zero.2 hn] at h; cases h
    · have hr : r.count a = k := by
        rw [List.count_append, List.count_eq_zero.2 hn, List.count_cons_self] at h; omega
      rw [Lib.splitK, hi, if_neg (by simp), cutAt_at hn, ← splitK_cutAt a k r hr]
      simp
theorem count_at (a : UInt8) : ∀ (n : Nat) (l : List UInt8), l.length ≤ n → Lib.count l [a] = l.count a
  | n, l, hn => by
    rcases index_at a l with ⟨hi, hno⟩ | ⟨h, r, rfl, hno, hi⟩
    · rw [Lib.count_miss hi, List.count_eq_zero.2 hno]
    · cases n with
      | zero => simp at hn
      | succ n =>
        have e := Lib.count_hit (s := h ++ a :: r) (sub := [a]) (i := h.length) (by simp) hi
        have e2 : (h ++ a :: r).drop (h.length + [a].length) = r := by simp
        rw [e, e2, count_at a n r (by simp at hn; omega), List.count_append, List.count_eq_zero.2 hno, List.count_cons_self]; omega
/-- What strings.Split makes of a text, at one byte. -/
theorem splitB_cutAt (a : UInt8) (s : ByteArray) : (Lib.splitB ⟨#[a]⟩ 0 (Lib.countB s ⟨#[a]⟩) s).map (·.data.toList) = cutAt a s.data.toList := by
  rw [Lib.splitB_data]
  exact splitK_cutAt a _ _ (count_at a _ _ (Nat.le_refl _)).symm
/-- The parts of a text, each without the blanks at its ends. -/
def parts (a : UInt8) (l : List UInt8) : List (List UInt8) := (cutAt a l).map trim
end Go.Proofs.Foot
