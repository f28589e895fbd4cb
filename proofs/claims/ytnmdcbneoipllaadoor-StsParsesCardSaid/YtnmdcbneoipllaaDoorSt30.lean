/- The plain reference of chapter 11, over lists of bytes, and that it answers as parseS. -/
import Derived.Test.YtnmdcbneoipllaaDoorSt22
namespace Go.Proofs.YtnmdcbneoipllaaDoor
open Go.Lib Go.Proofs.Foot

/-- The parts of a text at the semicolons outside quotes. q: within quotes; esc: behind a backslash there; cur: the part so far. -/
def partsE : Bool → Bool → List UInt8 → List UInt8 → List (List UInt8)
  | _, _, cur, [] => [cur]
  | q, esc, cur, c :: l =>
    if esc = true then partsE q false (cur ++ [c]) l
    else if c = 34 then partsE (!q) false (cur ++ [c]) l
    else if c = 92 ∧ q = true then partsE q true (cur ++ [c]) l
    else if c = 59 ∧ q = false then cur :: partsE q false [] l
    else partsE q false (cur ++ [c]) l
/-- Goes through a piece without such a semicolon: how it stands behind it. -/
def balE : Bool → Bool → List UInt8 → Option Bool
  | q, esc, [] => if esc = true then none else some q
  | q, esc, c :: l =>
    if esc = true then balE q false l
    else if c = 34 then balE (!q) false l
    else if c = 92 ∧ q = true then balE q true l
    else if c = 59 ∧ q = false then none
    else balE q false l
theorem parts_bal {q' : Bool} (m : List UInt8) : ∀ (a : List UInt8) (q esc : Bool) (cur : List UInt8), balE q esc a = some q' → partsE q esc cur (a ++ m) = partsE q' false (cur ++ a) m
  | [], q, esc, cur, h => by
    rw [balE] at h
    split at h
    · cases h
    · rename_i he
      injection h with h
      rw [h]
      have : esc = false := by simpa using he
      rw [this]; simp
  | c :: a, q, esc, cur, h => by
    rw [balE] at h
    rw [List.cons_append, partsE]
    have e : cur ++ c :: a = (cur ++ [c]) ++ a := by simp
    rw [e]
    split at h
    · rename_i he; rw [if_pos he]; exact parts_bal m a _ _ _ h
    · rename_i he
      rw [if_neg he]
      split at h
      · rename_i h1; rw [if_pos h1]; exact parts_bal m a _ _ _ h
      · rename_i h1
        rw [if_neg h1]
        split at h
        · rename_i h2; rw [if_pos h2]; exact parts_bal m a _ _ _ h
        · rename_i h2
          rw [if_neg h2]
          split at h
          · cases h
          · rename_i h3; rw [if_neg h3]; exact parts_bal m a _ _ _ h
theorem bal_append {q' : Bool} {b : List UInt8} : ∀ (a : List UInt8) (q esc : Bool), balE q esc a = some q' → balE q esc (a ++ b) = balE q' false b
  | [], q, esc, h => by
    rw [balE] at h
    split at h
    · cases h
    · rename_i he
      injection h with h
      have : esc = false := by simpa using he
      rw [this, h]; rfl
  | c :: a, q, esc, h => by
    rw [balE] at h
    rw [List.cons_append, balE]
    split at h
    · rename_i he; rw [if_pos he]; exact bal_append a _ _ h
    · rename_i he
      rw [if_neg he]
      split at h
      · rename_i h1; rw [if_pos h1]; exact bal_append a _ _ h
      · rename_i h1
        rw [if_neg h1]
        split at h
        · rename_i h2; rw [if_pos h2]; exact bal_append a _ _ h
        · rename_i h2
          rw [if_neg h2]
          split at h
          · cases h
          · rename_i h3; rw [if_neg h3]; exact bal_append a _ _ h
/-- Bytes that are neither quotation marks nor semicolons. -/
theorem bal_plain {a : List UInt8} (h : ∀ c ∈ a, c ≠ 34 ∧ c ≠ 59) : balE false false a = some false := by
  induction a with
  | nil => rfl
  | cons c a ih =>
    obtain ⟨h1, h2⟩ := h c (by simp)
    rw [balE, if_neg (by decide), if_neg h1, if_neg (by simp), if_neg (by simp [h2])]
    exact ih fun d hd => h d (List.mem_cons_of_mem _ hd)
/-- A text in quotes, behind its first quotation mark. -/
theorem bal_quo : ∀ (l : List UInt8) (esc : Bool) (acc v r : List UInt8), quoS esc acc l = some (v, r) → ∃ q, l = q ++ r ∧ balE true esc q = some false ∧ quoS esc acc q = some (v, []) ∧ ∃ p, q = p ++ [34]
  | [], _, _, _, _, h => by cases h
  | c :: l, esc, acc, v, r, h => by
    rw [quoS] at h
    split at h
    · cases h
    · rename_i hc
      split at h
      · rename_i he
        obtain ⟨q, h1, h2, h3, p, h4⟩ := bal_quo l _ _ _ _ h
        refine ⟨c :: q, by rw [h1]; rfl, ?_, ?_, c :: p, by rw [h4]; rfl⟩
        · rw [balE, if_pos he]; exact h2
        · rw [quoS, if_neg hc, if_pos he]; exact h3
      · rename_i he
        have he' : esc = false := by simpa using he
        split at h
        · rename_i h34
          injection h with h
          injection h with h1 h2
          refine ⟨[c], by rw [h2]; rfl, ?_, ?_, [], by rw [h34]; rfl⟩
          · rw [balE, if_neg he, if_pos h34]; rfl
          · rw [quoS, if_neg hc, if_neg he, if_pos h34, h1]
        · rename_i h34
          split at h
          · rename_i h92
            obtain ⟨q, h1, h2, h3, p, h4⟩ := bal_quo l _ _ _ _ h
            refine ⟨c :: q, by rw [h1]; rfl, ?_, ?_, c :: p, by rw [h4]; rfl⟩
            · rw [balE, if_neg he, if_neg h34, if_pos ⟨h92, rfl⟩]; exact h2
            · rw [quoS, if_neg hc, if_neg he, if_neg h34, if_pos h92]; exact h3
          · rename_i h92
            obtain ⟨q, h1, h2, h3, p, h4⟩ := bal_quo l _ _ _ _ h
            refine ⟨c :: q, by rw [h1]; rfl, ?_, ?_, c :: p, by rw [h4]; rfl⟩
            · rw [balE, if_neg he, if_neg h34, if_neg (fun x => h92 x.1), if_neg (fun x => by cases x.2)]; exact h2
            · rw [quoS, if_neg hc, if_neg he, if_neg h34, if_neg h92]; exact h3
theorem quo_more : ∀ (l : List UInt8) (esc : Bool) (acc v m : List UInt8), quoS esc acc l = some (v, []) → quoS esc acc (l ++ m) = some (v, m)
  | [], _, _, _, _, h => by cases h
  | c :: l, esc, acc, v, m, h => by
    rw [quoS] at h
    rw [List.cons_append, quoS]
    split at h
    · cases h
    · rename_i hc
      rw [if_neg hc]
      split at h
      · rename_i he; rw [if_pos he]; exact quo_more l _ _ _ _ h
      · rename_i he
        rw [if_neg he]
        split at h
        · rename_i h34
          injection h with h
          injection h with h1 h2
          rw [if_pos h34, h1, h2]; rfl
        · rename_i h34
          rw [if_neg h34]
          split at h
          · rename_i h92; rw [if_pos h92]; exact quo_more l _ _ _ _ h
          · rename_i h92; rw [if_neg h92]; exact quo_more l _ _ _ _ h
/-- The first part, and what stands behind it. -/
theorem parts_first : ∀ (l : List UInt8) (q esc : Bool) (cur : List UInt8), ∃ a m, l = a ++ m ∧ ((m = [] ∧ partsE q esc cur l = [cur ++ a]) ∨ ∃ r, m = 59 :: r ∧ partsE q esc cur l = (cur ++ a) :: partsE false false [] r)
  | [], q, esc, cur => ⟨[], [], rfl, .inl ⟨rfl, by rw [partsE]; simp⟩⟩
  | c :: l, q, esc, cur => by
    have step : ∀ q' esc', partsE q esc cur (c :: l) = partsE q' esc' (cur ++ [c]) l → ∃ a m, c :: l = a ++ m ∧ ((m = [] ∧ partsE q esc cur (c :: l) = [cur ++ a]) ∨ ∃ r, m = 59 :: r ∧ partsE q esc cur (c :: l) = (cur ++ a) :: partsE false false [] r) := by
      intro q' esc' he
      obtain ⟨a, m, h1, h2⟩ := parts_first l q' esc' (cur ++ [c])
      refine ⟨c :: a, m, by rw [h1]; rfl, ?_⟩
      rcases h2 with ⟨h3, h4⟩ | ⟨r, h3, h4⟩
      · exact .inl ⟨h3, by rw [he, h4]; simp⟩
      · exact .inr ⟨r, h3, by rw [he, h4]; simp⟩
    by_cases he : esc = true
    · exact step q false (by rw [partsE, if_pos he])
    · by_cases h1 : c = 34
      · exact step (!q) false (by rw [partsE, if_neg he, if_pos h1])
      · by_cases h2 : c = 92 ∧ q = true
        · exact step q true (by rw [partsE, if_neg he, if_neg h1, if_pos h2])
        · by_cases h3 : c = 59 ∧ q = false
          · refine ⟨[], c :: l, rfl, .inr ⟨l, by rw [h3.1], ?_⟩⟩
            rw [partsE, if_neg he, if_neg h1, if_neg h2, if_pos h3, h3.2]; simp
          · exact step q false (by rw [partsE, if_neg he, if_neg h1, if_neg h2, if_neg h3])

/-- Blanks alone. -/
def Bl (b : List UInt8) : Prop := ∀ c ∈ b, blankB c = true
theorem bl_trimL {b : List UInt8} (hb : Bl b) (l : List UInt8) : trimL (b ++ l) = trimL l := dropWhile_all hb l
theorem bl_trimE {b : List UInt8} (hb : Bl b) (l : List UInt8) : trimE (l ++ b) = trimE l := by
  unfold trimE
  rw [List.reverse_append, dropWhile_all (fun c hc => hb c (by simpa using hc))]
theorem trim_around {b b' : List UInt8} (hb : Bl b) (hb' : Bl b') (l : List UInt8) : trim (b ++ l ++ b') = trim l := by
  unfold trim
  rw [List.append_assoc, bl_trimL hb, trim_comm, bl_trimE hb', ← trim_comm]
theorem trimL_split (l : List UInt8) : ∃ b, Bl b ∧ l = b ++ trimL l :=
  ⟨l.takeWhile blankB, fun c hc => by
    have := List.all_eq_true.1 (List.all_takeWhile (p := blankB) (l := l)) c hc
    exact this, (List.takeWhile_append_dropWhile).symm⟩
theorem trimE_split (l : List UInt8) : ∃ b, Bl b ∧ l = trimE l ++ b := by
  obtain ⟨b, hb, h⟩ := trimL_split l.reverse
  refine ⟨b.reverse, fun c hc => hb c (by simpa using hc), ?_⟩
  have := congrArg List.reverse h
  rw [List.reverse_reverse, List.reverse_append] at this
  exact this
theorem trim_split (l : List UInt8) : ∃ b b', Bl b ∧ Bl b' ∧ l = b ++ trim l ++ b' := by
  obtain ⟨b, hb, h⟩ := trimL_split l
  obtain ⟨b', hb', h'⟩ := trimE_split (trimL l)
  exact ⟨b, b', hb, hb', by
    show l = b ++ trimE (trimL l) ++ b'
    rw [List.append_assoc, ← h']; exact h⟩
/-- First and last byte are no blanks. -/
theorem trim_hard {l : List UInt8} (h1 : ∃ c r, l = c :: r ∧ blankB c = false) (h2 : ∃ r c, l = r ++ [c] ∧ blankB c = false) : trim l = l := by
  obtain ⟨c, r, e, hc⟩ := h1
  obtain ⟨r', c', e', hc'⟩ := h2
  unfold trim
  have : trimL l = l := by rw [e]; exact trimL_no hc _
  rw [this, e']; exact trimE_no hc' _
theorem token_last {t : List UInt8} (ht : token t = true) : ∃ r c, t = r ++ [c] ∧ blankB c = false := by
  have hne : t ≠ [] := by obtain ⟨c, l, rfl, _⟩ := token_cons ht; simp
  refine ⟨t.dropLast, t.getLast hne, (List.dropLast_concat_getLast hne).symm, ?_⟩
  exact (sign_facts (token_all ht _ (List.getLast_mem hne))).2.1
theorem token_first {t : List UInt8} (ht : token t = true) : ∃ c r, t = c :: r ∧ blankB c = false := by
  obtain ⟨c, l, e, hc⟩ := token_cons ht
  exact ⟨c, l, e, (sign_facts hc).2.1⟩
theorem trim_tok {t : List UInt8} (ht : token t = true) : trim t = t := trim_hard (token_first ht) (token_last ht)
end Go.Proofs.YtnmdcbneoipllaaDoor
