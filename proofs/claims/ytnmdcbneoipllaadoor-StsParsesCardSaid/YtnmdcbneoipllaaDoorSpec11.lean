/- What sts.Parse answers, over lists of bytes. No program stands here. -/
import Derived.Test.YtnmdcbneoipllaaDoorSpec01c
namespace Go.Proofs.Foot

/-- Bytes that end a word: = ; " and the blanks. -/
def stopB (c : UInt8) : Bool := ([61, 59, 34, 32, 9] : List UInt8).contains c
def wordW (l : List UInt8) : List UInt8 := l.takeWhile fun c => !stopB c
def wordR (l : List UInt8) : List UInt8 := l.dropWhile fun c => !stopB c
def ctlB (c : UInt8) : Bool := decide ((c.toNat < 32 ∧ c.toNat ≠ 9) ∨ c.toNat = 127)
/-- A word behind blanks, and what stands behind it. -/
def wordS (l : List UInt8) : Option (List UInt8 × List UInt8) := if token (wordW (trimL l)) then some (wordW (trimL l), wordR (trimL l)) else none
/-- What a text in quotes says, behind its first quotation mark; esc: behind a backslash. -/
def quoS (esc : Bool) (acc : List UInt8) : List UInt8 → Option (List UInt8 × List UInt8)
  | [] => none
  | c :: l => if ctlB c then none else if esc then quoS false (acc ++ [c]) l else if c = 34 then some (acc, l) else if c = 92 then quoS true acc l else quoS false (acc ++ [c]) l
/-- A byte behind blanks. -/
def atS (c : UInt8) (l : List UInt8) : Option (List UInt8) := match trimL l with
  | [] => none
  | d :: r => if d = c then some r else none
def valS (l : List UInt8) : Option (List UInt8 × List UInt8) := match atS 34 l with
  | some r => quoS false [] r
  | none => wordS l
def ageS (v : List UInt8) : Option Nat := if v.isEmpty = false ∧ v.all digB = true then some (min (digV 0 v) 2147483647) else none
structure Wst where
  told : List (List UInt8)
  age : Nat
  subs : Bool
deriving DecidableEq
def maxAgeL : List UInt8 := [109, 97, 120, 45, 97, 103, 101]
def inclL : List UInt8 := [105, 110, 99, 108, 117, 100, 101, 115, 117, 98, 100, 111, 109, 97, 105, 110, 115]
/-- What a directive behind its name says. -/
def saysS (l : List UInt8) : Option (List UInt8 × Bool × List UInt8) := match atS 61 l with
  | some r => (valS r).map fun p => (p.1, true, p.2)
  | none => some ([], false, l)
def setS (st : Wst) (name v : List UInt8) (has : Bool) : Option Wst :=
  if name = maxAgeL then (ageS v).map fun a => ⟨name :: st.told, a, st.subs⟩
  else if name = inclL then (if has then none else some ⟨name :: st.told, st.age, true⟩)
  else some ⟨name :: st.told, st.age, st.subs⟩
/-- What has to stand behind a directive. -/
def endS (l : List UInt8) : Option (List UInt8) := match trimL l with
  | [] => some []
  | d :: r => if d = 59 then some r else none
def dirS (l : List UInt8) (st : Wst) : Option (List UInt8 × Wst) :=
  (wordS l).bind fun p => if st.told.contains (lower p.1) then none else
    (saysS p.2).bind fun q => (setS st (lower p.1) q.1 q.2.1).bind fun st' => (endS q.2.2).map fun r => (r, st')
def oneS (l : List UInt8) (st : Wst) : Option (List UInt8 × Wst) := match atS 59 l with
  | some r => some (r, st)
  | none => dirS l st
def runS : Nat → List UInt8 → Wst → Option Wst
  | 0, _, _ => none
  | n + 1, l, st => match trimL l with
    | [] => some st
    | _ :: _ => (oneS l st).bind fun p => runS n p.1 p.2
def parseS (l : List UInt8) : Option (Nat × Bool) := (runS (l.length + 1) l ⟨[], 0, false⟩).bind fun st => if st.told.contains maxAgeL then some (st.age, st.subs) else none

theorem trimL_len (l : List UInt8) : (trimL l).length ≤ l.length := by
  unfold trimL; exact (List.dropWhile_sublist _).length_le
theorem wordR_len (l : List UInt8) : (wordW l).length + (wordR l).length = l.length := by
  unfold wordW wordR
  rw [← List.length_append, List.takeWhile_append_dropWhile]
theorem wordS_len {l w r : List UInt8} (h : wordS l = some (w, r)) : r.length < l.length := by
  unfold wordS at h
  split at h
  · rename_i ht
    injection h with h
    injection h with h1 h2
    have h3 := wordR_len (trimL l)
    have h4 := trimL_len l
    have : 1 ≤ (wordW (trimL l)).length := by
      cases hw : wordW (trimL l) with
      | nil => rw [hw] at ht; simp [token] at ht
      | cons _ _ => simp
    rw [← h2]; omega
  · cases h
theorem quoS_len : ∀ (l : List UInt8) (esc : Bool) (acc v r : List UInt8), quoS esc acc l = some (v, r) → r.length < l.length
  | [], _, _, _, _, h => by cases h
  | c :: l, esc, acc, v, r, h => by
    rw [quoS] at h
    split at h
    · cases h
    · split at h
      · have := quoS_len l _ _ _ _ h; simp; omega
      · split at h
        · injection h with h; injection h with h1 h2; rw [← h2]; simp
        · split at h
          · have := quoS_len l _ _ _ _ h; simp; omega
          · have := quoS_len l _ _ _ _ h; simp; omega
theorem atS_len {c : UInt8} {l r : List UInt8} (h : atS c l = some r) : r.length < l.length := by
  have h4 := trimL_len l
  unfold atS at h
  split at h
  · cases h
  · rename_i d t ht
    split at h
    · injection h with h
      rw [ht] at h4; simp at h4
      rw [← h]; omega
    · cases h
theorem valS_len {l v r : List UInt8} (h : valS l = some (v, r)) : r.length < l.length := by
  unfold valS at h
  split at h
  · rename_i t ht
    have := atS_len ht
    have := quoS_len _ _ _ _ _ h
    omega
  · exact wordS_len h
theorem saysS_len {l v r : List UInt8} {b : Bool} (h : saysS l = some (v, b, r)) : r.length ≤ l.length := by
  unfold saysS at h
  split at h
  · rename_i t ht
    have h1 := atS_len ht
    cases hv : valS t with
    | none => rw [hv] at h; cases h
    | some p =>
      rw [hv] at h
      have h2 := valS_len (v := p.1) (r := p.2) hv
      simp at h
      rw [← h.2.2]; omega
  · simp at h; rw [h.2.2]; exact Nat.le_refl _
theorem endS_len {l r : List UInt8} (h : endS l = some r) : r.length ≤ l.length := by
  have h4 := trimL_len l
  unfold endS at h
  split at h
  · injection h with h; rw [← h]; simp
  · rename_i d t ht
    split at h
    · injection h with h
      rw [ht] at h4; simp at h4
      rw [← h]; omega
    · cases h
theorem oneS_len {l r : List UInt8} {st st' : Wst} (h : oneS l st = some (r, st')) : r.length < l.length := by
  unfold oneS at h
  split at h
  · rename_i t ht
    have := atS_len ht
    injection h with h; injection h with h1 h2
    rw [← h1]; exact this
  · unfold dirS at h
    cases hw : wordS l with
    | none => rw [hw] at h; cases h
    | some p =>
      rw [hw] at h
      have h1 := wordS_len (w := p.1) (r := p.2) hw
      simp only [Option.bind_some] at h
      split at h
      · cases h
      · cases hs : saysS p.2 with
        | none => rw [hs] at h; cases h
        | some q =>
          rw [hs] at h
          have h2 := saysS_len (v := q.1) (b := q.2.1) (r := q.2.2) hs
          simp only [Option.bind_some] at h
          cases ht : setS st (lower p.1) q.1 q.2.1 with
          | none => rw [ht] at h; cases h
          | some s2 =>
            rw [ht] at h
            simp only [Option.bind_some] at h
            cases he : endS q.2.2 with
            | none => rw [he] at h; cases h
            | some e =>
              rw [he] at h
              have h3 := endS_len he
              simp at h
              rw [← h.1]; omega
theorem runS_fuel : ∀ (n m : Nat) (l : List UInt8) (st : Wst), l.length < n → l.length < m → runS n l st = runS m l st
  | 0, _, _, _, h, _ => by omega
  | _ + 1, 0, _, _, _, h => by omega
  | n + 1, m + 1, l, st, h, h' => by
    rw [runS, runS]
    cases ht : trimL l with
    | nil => rfl
    | cons d t =>
      cases ho : oneS l st with
      | none => rfl
      | some p =>
        have := oneS_len (r := p.1) (st' := p.2) ho
        simp only [Option.bind_some]
        exact runS_fuel n m p.1 p.2 (by omega) (by omega)
end Go.Proofs.Foot
