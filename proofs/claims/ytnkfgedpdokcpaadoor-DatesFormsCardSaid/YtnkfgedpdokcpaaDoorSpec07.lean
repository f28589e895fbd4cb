/- The plain calendar of chapter 07: leap years, days of months, days ahead of a year; that a day number has one year, month and day; the two ways of reckoning them. No program stands here. -/
namespace Go.Proofs.Foot

def leapY (y : Int) : Bool := decide (y % 4 = 0 ∧ (y % 100 ≠ 0 ∨ y % 400 = 0))
def lpY (y : Int) : Int := if leapY y = true then 1 else 0
def dimY (y m : Int) : Int := if m = 4 ∨ m = 6 ∨ m = 9 ∨ m = 11 then 30 else if m = 2 then 28 + lpY y else 31
def befY (y : Int) : Int := 365 * (y - 1) + (y - 1) / 4 - (y - 1) / 100 + (y - 1) / 400
def cumY (y m : Int) : Int :=
  if m = 1 then 0 else if m = 2 then 31 else
    lpY y + (if m = 3 then 59 else if m = 4 then 90 else if m = 5 then 120 else if m = 6 then 151 else if m = 7 then 181 else if m = 8 then 212 else if m = 9 then 243 else if m = 10 then 273 else if m = 11 then 304 else if m = 12 then 334 else 365)

theorem lpY_01 (y : Int) : 0 ≤ lpY y ∧ lpY y ≤ 1 := by unfold lpY; split <;> omega
theorem lpY_yes {y : Int} (h : y % 4 = 0 ∧ (y % 100 ≠ 0 ∨ y % 400 = 0)) : lpY y = 1 := by unfold lpY leapY; rw [if_pos (decide_eq_true h)]
theorem lpY_no {y : Int} (h : ¬ (y % 4 = 0 ∧ (y % 100 ≠ 0 ∨ y % 400 = 0))) : lpY y = 0 := by unfold lpY leapY; rw [if_neg (by simpa using h)]
theorem befY_succ (y : Int) : befY (y + 1) = befY y + 365 + lpY y := by
  by_cases h : y % 4 = 0 ∧ (y % 100 ≠ 0 ∨ y % 400 = 0)
  · rw [lpY_yes h]; unfold befY; omega
  · rw [lpY_no h]; unfold befY; omega
theorem befY_mono {a b : Int} (h : a ≤ b) : befY a ≤ befY b := by unfold befY; omega
theorem cumY_succ {y m : Int} (h1 : 1 ≤ m) (h2 : m ≤ 12) : cumY y (m + 1) = cumY y m + dimY y m := by
  have hm : m = 1 ∨ m = 2 ∨ m = 3 ∨ m = 4 ∨ m = 5 ∨ m = 6 ∨ m = 7 ∨ m = 8 ∨ m = 9 ∨ m = 10 ∨ m = 11 ∨ m = 12 := by omega
  rcases hm with rfl | rfl | rfl | rfl | rfl | rfl | rfl | rfl | rfl | rfl | rfl | rfl <;> simp [cumY, dimY] <;> omega
theorem cumY_13 (y : Int) : cumY y 13 = 365 + lpY y := by simp [cumY]; omega
theorem cumY_1 (y : Int) : cumY y 1 = 0 := by simp [cumY]
theorem dimY_bd (y m : Int) : 28 ≤ dimY y m ∧ dimY y m ≤ 31 := by
  have := lpY_01 y
  unfold dimY; split
  · omega
  · split <;> omega
theorem cumY_step (y a : Int) (h1 : 1 ≤ a) : ∀ n : Nat, a + n ≤ 13 → cumY y a ≤ cumY y (a + n)
  | 0, _ => by simp
  | n + 1, h => by
    have ih := cumY_step y a h1 n (by omega)
    have hs := cumY_succ (y := y) (m := a + n) (by omega) (by omega)
    have hd := dimY_bd y (a + n)
    have e : a + ((n + 1 : Nat) : Int) = a + n + 1 := by omega
    rw [e]; omega
theorem cumY_mono {y a b : Int} (h1 : 1 ≤ a) (h : a ≤ b) (h2 : b ≤ 13) : cumY y a ≤ cumY y b := by
  have := cumY_step y a h1 (b - a).toNat (by omega)
  have e : a + ((b - a).toNat : Int) = b := by omega
  rw [e] at this; exact this
theorem cumY_bd {y m : Int} (h1 : 1 ≤ m) (h2 : m ≤ 12) : 0 ≤ cumY y m ∧ cumY y m ≤ 335 := by
  have hl := lpY_01 y
  have a := cumY_mono (y := y) (Int.le_refl 1) h1 (by omega)
  have b := cumY_mono (y := y) h1 h2 (by omega)
  rw [cumY_1] at a
  have e : cumY y 12 = lpY y + 334 := rfl
  omega

/-- Day number d (0: the first of January of the year 1) is day k of month m of year y. -/
structure IsDay (d y m k : Int) : Prop where
  m1 : 1 ≤ m
  m2 : m ≤ 12
  k1 : 1 ≤ k
  k2 : k ≤ dimY y m
  sum : befY y + cumY y m + k - 1 = d

theorem IsDay.year {d y m k : Int} (h : IsDay d y m k) : befY y ≤ d ∧ d < befY (y + 1) := by
  have hc := cumY_mono (y := y) h.m1 (show m ≤ m from Int.le_refl _) (by have := h.m2; omega)
  have h0 := (cumY_bd (y := y) h.m1 h.m2).1
  have hs := cumY_succ (y := y) h.m1 h.m2
  have h13 := cumY_mono (y := y) (a := m + 1) (b := 13) (by have := h.m1; omega) (by have := h.m2; omega) (Int.le_refl _)
  rw [cumY_13] at h13
  have e := befY_succ y
  have := h.sum; have := h.k1; have := h.k2
  omega
theorem IsDay.unique {d y m k y' m' k' : Int} (h : IsDay d y m k) (h' : IsDay d y' m' k') : y = y' ∧ m = m' ∧ k = k' := by
  have a := h.year
  have b := h'.year
  have hy : y = y' := by
    rcases Int.lt_trichotomy y y' with c | c | c
    · have := befY_mono (show y + 1 ≤ y' by omega); omega
    · exact c
    · have := befY_mono (show y' + 1 ≤ y by omega); omega
  subst hy
  have e1 := h.sum; have e2 := h'.sum
  have s1 := cumY_succ (y := y) h.m1 h.m2
  have s2 := cumY_succ (y := y) h'.m1 h'.m2
  have k1 := h.k1; have k2 := h.k2; have k1' := h'.k1; have k2' := h'.k2
  have hm : m = m' := by
    rcases Int.lt_trichotomy m m' with c | c | c
    · have := cumY_mono (y := y) (a := m + 1) (b := m') (by have := h.m1; omega) (by omega) (by have := h'.m2; omega); omega
    · exact c
    · have := cumY_mono (y := y) (a := m' + 1) (b := m) (by have := h'.m1; omega) (by omega) (by have := h.m2; omega); omega
  subst hm
  exact ⟨rfl, rfl, by omega⟩

/-- The years of an age of at most 400 years, reckoned from the first of March. -/
def yofA (a : Int) : Int := (a - a / 1460 + a / 36524 - a / 146096) / 365
def startA (y : Int) : Int := 365 * y + y / 4 - y / 100
theorem yofA_mono {a b : Int} (_h0 : 0 ≤ a) (h : a ≤ b) : yofA a ≤ yofA b := by
  have e1 : a / 146096 = a / 36524 / 4 := by rw [Int.ediv_ediv_of_nonneg (by omega)]; rfl
  have e2 : b / 146096 = b / 36524 / 4 := by rw [Int.ediv_ediv_of_nonneg (by omega)]; rfl
  have h3 : a / 36524 ≤ b / 36524 := Int.ediv_le_ediv (by omega) h
  have h4 : a - a / 1460 ≤ b - b / 1460 := by omega
  unfold yofA
  refine Int.ediv_le_ediv (by omega) ?_
  rw [e1, e2]
  omega
theorem yofA_ends : (List.range 401).all (fun n => decide (n = 400 ∨ yofA (startA n) = n) && decide (n = 0 ∨ yofA (startA n - 1) = (n : Int) - 1)) = true := by decide +kernel
theorem yofA_at {y : Int} (h0 : 0 ≤ y) (h1 : y ≤ 400) : (y = 400 ∨ yofA (startA y) = y) ∧ (y = 0 ∨ yofA (startA y - 1) = y - 1) := by
  have h := List.all_eq_true.1 yofA_ends y.toNat (List.mem_range.2 (by omega))
  simp only [Bool.and_eq_true, decide_eq_true_eq] at h
  rw [show ((y.toNat : Nat) : Int) = y from by omega] at h
  omega
theorem yofA_bd {a : Int} (h0 : 0 ≤ a) (h1 : a < 146097) : 0 ≤ yofA a ∧ yofA a ≤ 399 ∧ 365 * yofA a + yofA a / 4 - yofA a / 100 ≤ a ∧ a ≤ 365 * yofA a + yofA a / 4 - yofA a / 100 + 364 + (if (yofA a + 1) % 4 = 0 ∧ ((yofA a + 1) % 100 ≠ 0 ∨ (yofA a + 1) % 400 = 0) then 1 else 0) := by
  obtain ⟨y, hy⟩ : ∃ y, y = yofA a := ⟨_, rfl⟩
  have hlo : 0 ≤ y := by
    have := yofA_mono (Int.le_refl 0) h0
    have e : yofA 0 = 0 := by decide
    omega
  have hhi : y ≤ 399 := by
    have := yofA_mono h0 (show a ≤ 146096 by omega)
    have e : yofA 146096 = 399 := by decide
    omega
  rw [← hy]
  have hs : startA y ≤ a := by
    rcases Int.lt_or_le a (startA y) with c | c
    · have hm := yofA_mono h0 (show a ≤ startA y - 1 by omega)
      have he := (yofA_at hlo (by omega)).2
      rcases he with e | e
      · rw [e] at c; simp [startA] at c; omega
      · omega
    · exact c
  have hu : y = 399 ∨ a < startA (y + 1) := by
    rcases Int.lt_or_le a (startA (y + 1)) with c | c
    · exact .inr c
    · left
      have hst : 0 ≤ startA (y + 1) := by unfold startA; omega
      have hm := yofA_mono hst c
      have he := (yofA_at (y := y + 1) (by omega) (by omega)).1
      omega
  unfold startA at hs hu
  refine ⟨hlo, hhi, hs, ?_⟩
  rcases hu with rfl | hu
  · simp; omega
  · by_cases c4 : (y + 1) % 4 = 0
    · have d4 : (y + 1) / 4 = y / 4 + 1 := by omega
      by_cases c100 : (y + 1) % 100 = 0
      · have d100 : (y + 1) / 100 = y / 100 + 1 := by omega
        rw [d4, d100] at hu
        split <;> omega
      · have d100 : (y + 1) / 100 = y / 100 := by omega
        rw [d4, d100] at hu
        rw [if_pos ⟨c4, .inl c100⟩]; omega
    · have d4 : (y + 1) / 4 = y / 4 := by omega
      have c100 : ¬ (y + 1) % 100 = 0 := by omega
      have d100 : (y + 1) / 100 = y / 100 := by clear hu hs hy; omega
      rw [d4, d100] at hu
      rw [if_neg (by omega)]; omega

/-- The way of the program: D counts from the first of March of the year 0. -/
def pAge (D : Int) : Int := D % 146097
def pY (D : Int) : Int := yofA (pAge D)
def pOf (D : Int) : Int := pAge D - (365 * pY D + pY D / 4 - pY D / 100)
def pM (D : Int) : Int := (5 * pOf D + 2) / 153
def pDay (D : Int) : Int := pOf D - (153 * pM D + 2) / 5 + 1
def pMonth (D : Int) : Int := (pM D + 2) % 12 + 1
def pYear (D : Int) : Int := if pMonth D ≤ 2 then pY D + D / 146097 * 400 + 1 else pY D + D / 146097 * 400

theorem pOf_bd (D : Int) : 0 ≤ pY D ∧ pY D ≤ 399 ∧ 0 ≤ pOf D ∧ pOf D ≤ 364 + (if (pY D + 1) % 4 = 0 ∧ ((pY D + 1) % 100 ≠ 0 ∨ (pY D + 1) % 400 = 0) then 1 else 0) := by
  have h := yofA_bd (a := pAge D) (by unfold pAge; omega) (by unfold pAge; omega)
  have e : pY D = yofA (pAge D) := rfl
  have e2 : pOf D = pAge D - (365 * pY D + pY D / 4 - pY D / 100) := rfl
  rw [← e] at h
  rw [e2]
  refine ⟨h.1, h.2.1, by have := h.2.2.1; omega, ?_⟩
  have h4 := h.2.2.2
  split at h4 <;> rename_i hc
  · rw [if_pos hc]; omega
  · rw [if_neg hc]; omega

theorem prog_isDay {d : Int} (h0 : 0 ≤ d) : IsDay d (pYear (d + 306)) (pMonth (d + 306)) (pDay (d + 306)) := by
  obtain ⟨D, hD⟩ : ∃ D, D = d + 306 := ⟨_, rfl⟩
  rw [← hD]
  obtain ⟨y0, y1, o0, o1⟩ := pOf_bd D
  have eOf : pAge D = 365 * pY D + pY D / 4 - pY D / 100 + pOf D := by unfold pOf; omega
  have eAge : D = D / 146097 * 146097 + pAge D := by unfold pAge; omega
  have eM : pM D = (5 * pOf D + 2) / 153 := rfl
  have eDay : pDay D = pOf D - (153 * pM D + 2) / 5 + 1 := rfl
  have eMon : pMonth D = (pM D + 2) % 12 + 1 := rfl
  obtain ⟨y, hy⟩ : ∃ y, y = pY D := ⟨_, rfl⟩
  obtain ⟨o, ho⟩ : ∃ o, o = pOf D := ⟨_, rfl⟩
  obtain ⟨q, hq⟩ : ∃ q, q = D / 146097 := ⟨_, rfl⟩
  have hq0 : 0 ≤ q := by omega
  obtain ⟨m, hm⟩ : ∃ m, m = pM D := ⟨_, rfl⟩
  rw [← hy] at y0 y1 o1 eOf
  rw [← ho] at o0 o1 eOf eM eDay
  rw [← hm] at eM eDay eMon
  rw [← hq] at eAge
  have eYear : pYear D = if pMonth D ≤ 2 then y + q * 400 + 1 else y + q * 400 := by rw [hy, hq]; rfl
  have ho365 : o ≤ 365 := by split at o1 <;> omega
  have hm0 : 0 ≤ m := by omega
  have hm11 : m ≤ 11 := by omega
  have hbase : d = 365 * (y + q * 400) + (y + q * 400) / 4 - (y + q * 400) / 100 + (y + q * 400) / 400 + o - 306 := by
    have f4 : (y + q * 400) / 4 = y / 4 + q * 100 := by omega
    have f100 : (y + q * 400) / 100 = y / 100 + q * 4 := by omega
    have f400 : (y + q * 400) / 400 = q := by omega
    rw [f4, f100, f400]; omega
  have hcase : m = 0 ∨ m = 1 ∨ m = 2 ∨ m = 3 ∨ m = 4 ∨ m = 5 ∨ m = 6 ∨ m = 7 ∨ m = 8 ∨ m = 9 ∨ m = 10 ∨ m = 11 := by omega
  have hlp : ∀ Y : Int, befY (Y + 1) = 365 * Y + Y / 4 - Y / 100 + Y / 400 := fun Y => by unfold befY; omega
  have hs := befY_succ (y + q * 400)
  rw [hlp] at hs
  have hl := lpY_01 (y + q * 400)
  clear hD hy ho hq
  rcases hcase with rfl | rfl | rfl | rfl | rfl | rfl | rfl | rfl | rfl | rfl | rfl | rfl
  all_goals
    simp at eMon
    rw [eMon] at eYear
    simp at eYear
    rw [eYear, eMon, eDay]
  case inr.inr.inr.inr.inr.inr.inr.inr.inr.inr.inl =>
    have e1 := hlp (y + q * 400)
    refine ⟨by omega, by omega, by omega, ?_, ?_⟩
    · simp [dimY]; omega
    · rw [e1]; simp [cumY]; omega
  case inr.inr.inr.inr.inr.inr.inr.inr.inr.inr.inr =>
    have e1 := hlp (y + q * 400)
    refine ⟨by omega, by omega, by omega, ?_, ?_⟩
    · simp [dimY]
      split at o1 <;> rename_i hc
      · rw [lpY_yes (by omega)]; omega
      · rw [lpY_no (by omega)]; omega
    · rw [e1]; simp [cumY]; omega
  all_goals
    refine ⟨by omega, by omega, by omega, ?_, ?_⟩
    · simp [dimY]; omega
    · simp [cumY]; omega

/-- The seconds of a day and an hour. -/
def secS (y m k h mi s : Int) : Int := -62135596800 + (befY y + cumY y m + k - 1) * 86400 + h * 3600 + mi * 60 + s
def okS (y m k h mi s : Int) : Bool := decide ((1 ≤ y ∧ y ≤ 9999) ∧ (1 ≤ m ∧ m ≤ 12) ∧ (1 ≤ k ∧ k ≤ dimY y m) ∧ (0 ≤ h ∧ h ≤ 23) ∧ (0 ≤ mi ∧ mi ≤ 59) ∧ (0 ≤ s ∧ s ≤ 59))

theorem days_lo {y m : Int} (h1 : 1 ≤ m) (h2 : m ≤ 2) : 365 * (y - 1) + (y - 1) / 4 - (y - 1) / 100 + (y - 1) / 400 + (153 * ((m + 9) % 12) + 2) / 5 - 719468 = befY y + cumY y m - 719162 := by
  have hm : m = 1 ∨ m = 2 := by omega
  rcases hm with rfl | rfl <;> simp [cumY, befY] <;> omega
theorem days_hi {y m : Int} (h1 : 3 ≤ m) (h2 : m ≤ 12) : 365 * y + y / 4 - y / 100 + y / 400 + (153 * ((m + 9) % 12) + 2) / 5 - 719468 = befY y + cumY y m - 719162 := by
  have hs := befY_succ y
  have e : befY (y + 1) = 365 * y + y / 4 - y / 100 + y / 400 := by unfold befY; omega
  rw [e] at hs
  have hm : m = 3 ∨ m = 4 ∨ m = 5 ∨ m = 6 ∨ m = 7 ∨ m = 8 ∨ m = 9 ∨ m = 10 ∨ m = 11 ∨ m = 12 := by omega
  rcases hm with rfl | rfl | rfl | rfl | rfl | rfl | rfl | rfl | rfl | rfl <;> simp [cumY] <;> omega
theorem befY_bd {y : Int} (h1 : 1 ≤ y) (h2 : y ≤ 10000) : 0 ≤ befY y ∧ befY y ≤ 3652059 := by unfold befY; omega
/-- The first guess of the reference at the year of a day is not too great. -/
theorem guess_le {d : Int} (h0 : 0 ≤ d) : befY (d / 366 + 1) ≤ d := by unfold befY; omega
theorem befY_10000 : befY 10000 = 3652059 := by decide
end Go.Proofs.Foot
