/- Plain law of chapter 10: numbers of any length, and what strconv.Atoi answers to digits. No program stands here. -/
import Derived.Test.YthfndlphhgchnaaGreatDoorSpec10
namespace Go.Proofs.Foot

theorem digV_ge10 (l : List UInt8) : ∀ acc, acc ≤ digV acc l := by
  induction l with
  | nil => intro acc; rw [digV_nil]; exact Nat.le_refl _
  | cons c l ih => intro acc; rw [digV_cons]; have := ih (acc * 10 + (c.toNat - 48)); omega
theorem pu_val (l : List UInt8) (hd : ∀ c ∈ l, digB c = true) : ∀ acc : Nat, (∀ u, Lib.parseUint10 acc l = .ok u → u = digV acc l) ∧ (Lib.parseUint10 acc l = .range → 9223372036854775808 ≤ digV acc l) := by
  induction l with
  | nil =>
    intro acc
    refine ⟨fun u h => ?_, fun h => ?_⟩
    · rw [Lib.parseUint10] at h; injection h with h; rw [digV_nil, h]
    · rw [Lib.parseUint10] at h; cases h
  | cons c l ih =>
    intro acc
    have hc := (digB_iff _).1 (hd c (by simp))
    have hge := digV_ge10 l (acc * 10 + (c.toNat - 48))
    rw [Lib.parseUint10, if_pos hc, digV_cons]
    split
    · refine ⟨(fun u h => by cases h), fun _ => by omega⟩
    · split
      · refine ⟨(fun u h => by cases h), fun _ => by omega⟩
      · exact ih (fun d hm => hd d (List.mem_cons_of_mem _ hm)) _
/-- strconv.Atoi of digits: the number, or it is great. -/
theorem atoi_val {l : List UInt8} (hne : l ≠ []) (hd : ∀ c ∈ l, digB c = true) : (∀ v, Lib.atoiAll l = .ok v → v = digV 0 l) ∧ ((∀ u, Lib.atoiAll l ≠ .ok u) → maxN < digV 0 l) := by
  match l, hne with
  | c :: r, _ =>
    have hc := (digB_iff _).1 (hd c (by simp))
    have hm : Lib.parseMag (c :: r) = Lib.parseUint10 0 (c :: r) := by unfold Lib.parseMag; rw [if_neg (by simp)]
    obtain ⟨h1, h2⟩ := pu_val (c :: r) hd 0
    have hs : (∃ u, Lib.parseUint10 0 (c :: r) = .ok u) ∨ Lib.parseUint10 0 (c :: r) = .range := by
      have : ∀ (l : List UInt8) (hd : ∀ c ∈ l, digB c = true) (acc : Nat), (∃ u, Lib.parseUint10 acc l = .ok u) ∨ Lib.parseUint10 acc l = .range := by
        intro l
        induction l with
        | nil => intro _ acc; exact .inl ⟨acc, rfl⟩
        | cons c l ih =>
          intro hd acc
          rw [Lib.parseUint10, if_pos ((digB_iff _).1 (hd c (by simp)))]
          split
          · exact .inr rfl
          · split
            · exact .inr rfl
            · exact ih (fun d hm => hd d (List.mem_cons_of_mem _ hm)) _
      exact this _ hd 0
    unfold Lib.atoiAll
    simp only [show ¬ (c.toNat = 43 ∨ c.toNat = 45) from by omega, if_false, hm]
    have h45 : ¬ c.toNat = 45 := by omega
    rcases hs with ⟨u, hp⟩ | hp
    · have hu := h1 u hp
      rw [hp]
      simp only [h45, not_false_eq_true, true_and, false_and, if_false]
      split
      · refine ⟨(fun v h => by cases h), fun _ => by unfold maxN; omega⟩
      · refine ⟨fun v h => ?_, fun h => absurd rfl (h _)⟩
        injection h with h
        rw [← h, hu]
    · have := h2 hp
      rw [hp]
      refine ⟨(fun v h => by cases h), fun _ => by unfold maxN; omega⟩
theorem digV_drop0 (l : List UInt8) : digV 0 (48 :: l.dropWhile (· == 48)) = digV 0 l := by
  rw [digV_cons]
  show digV 0 (l.dropWhile (· == 48)) = digV 0 l
  induction l with
  | nil => rfl
  | cons c l ih =>
    by_cases h : c = 48
    · subst h
      rw [List.dropWhile_cons_of_pos (by rfl), ih, digV_cons]; rfl
    · rw [List.dropWhile_cons_of_neg (by simpa using h)]
theorem dig_drop0 {l : List UInt8} (hd : ∀ c ∈ l, digB c = true) : ∀ c ∈ 48 :: l.dropWhile (· == 48), digB c = true := by
  intro c hc
  rcases List.mem_cons.1 hc with rfl | hc
  · decide
  · exact hd c ((List.dropWhile_sublist _).mem hc)
/-- What an age is, by the program's way. -/
theorem ageO_no {l : List UInt8} (h : offH 45 l = [] ∨ ∃ c ∈ offH 45 l, digB c = false) : ageO l = none := by
  unfold ageO
  rw [if_neg]
  rintro ⟨a, b⟩
  rcases h with h | ⟨c, hc, hp⟩
  · exact a h
  · rw [b c hc] at hp; cases hp
theorem ageO_yes {l : List UInt8} (h1 : offH 45 l ≠ []) (h2 : ∀ c ∈ offH 45 l, digB c = true) {n : Nat} (hn : min maxN (digV 0 (offH 45 l)) = n) : ageO l = some (if l.head? = some 45 then -(n : Int) else (n : Int)) := by
  unfold ageO
  rw [if_pos ⟨h1, h2⟩, hn]
theorem offH_ne {a : UInt8} {l : List UInt8} : (l.head? = some a ∧ offH a l ≠ l) ∨ (l.head? ≠ some a ∧ offH a l = l) := by
  cases l with
  | nil => exact .inr ⟨by simp, rfl⟩
  | cons c r =>
    by_cases h : c = a
    · subst h
      refine .inl ⟨rfl, ?_⟩
      rw [offH_yes]
      intro e
      have := congrArg List.length e
      simp at this
    · exact .inr ⟨by simpa using h, offH_no (by simpa using h)⟩
end Go.Proofs.Foot
