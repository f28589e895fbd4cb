/- Plain law of DatesForms: a date's four words in any order. -/
import Derived.Test.YtnkfgedpdokcpaaDoorTx0
namespace Go.Proofs.YtnkfgedpdokcpaaDoor
open Go.Proofs.Foot

/-- What a date's words are made of. -/
structure Frm where
  h : Nat
  i : Nat
  x : Nat
  d : Nat
  m : Nat
  y : Nat
  two : Bool
/-- The months' names, in small letters or great ones. -/
def mixName (m : Nat) : List UInt8 := ([[106, 97, 110], [70, 69, 66], [77, 97, 114], [97, 112, 114], [77, 65, 89], [106, 117, 110], [74, 85, 76], [97, 117, 103], [83, 69, 80], [111, 99, 116], [78, 79, 86], [100, 101, 99]] : List (List UInt8)).getD m []
theorem mix_facts (m : Nat) (h : m < 12) : digsP (mixName m) = [] ∧ monthP (mixName m) = m + 1 ∧ (∀ c ∈ mixName m, betB c = false) ∧ (mixName m).length = 3 := by
  have : ∀ m < 12, digsP (mixName m) = [] ∧ monthP (mixName m) = m + 1 ∧ (∀ c ∈ mixName m, betB c = false) ∧ (mixName m).length = 3 := by decide +kernel
  exact this m h
def Frm.ok (F : Frm) : Prop := F.h < 100 ∧ F.i < 100 ∧ F.x < 100 ∧ F.d < 100 ∧ 1 ≤ F.m ∧ F.m ≤ 12 ∧ F.y < 10000
def yearW (F : Frm) : List UInt8 := if F.two = true then dd (F.y % 100) else dd (F.y / 100) ++ dd (F.y % 100)
/-- Word number k: the hour, the day, the month, the year. -/
def wordF (F : Frm) (k : Nat) : List UInt8 := if k = 0 then hms F.h F.i F.x else if k = 1 then dd F.d else if k = 2 then mixName (F.m - 1) else yearW F
theorem dd_len (n : Nat) : (dd n).length = 2 := rfl
theorem yearW_bet (F : Frm) : ∀ c ∈ yearW F, betB c = false := by
  unfold yearW
  split
  · exact dd_bet _
  · exact dddd_bet _
theorem wordF_bet {F : Frm} (hF : F.ok) (k : Nat) : ∀ c ∈ wordF F k, betB c = false := by
  unfold wordF
  split
  · exact hms_bet _ _ _
  · split
    · exact dd_bet _
    · split
      · obtain ⟨_, _, _, _, h1, h2, _⟩ := hF
        exact (mix_facts _ (by omega)).2.2.1
      · exact yearW_bet F
theorem hms_len (h i x : Nat) : (hms h i x).length = 8 := rfl
/-- What is told of a date when the words of K are still to come. -/
structure InvK (F : Frm) (K : List Nat) (D : Dt) (dayed : Bool) : Prop where
  clock : D.clock = if 0 ∈ K then none else some (F.h, F.i, F.x)
  month : D.month = if 2 ∈ K then 0 else F.m
  four : F.two = false → D.day = (if 1 ∈ K then none else some F.d) ∧ D.year = (if 3 ∈ K then none else some F.y) ∧ dayed = decide (1 ∉ K)
  two : F.two = true → (1 ∈ K ∧ 3 ∈ K ∧ D.day = none ∧ D.year = none ∧ dayed = false) ∨ (1 ∈ K ∧ 3 ∉ K ∧ D.day = some F.d ∧ D.year = none ∧ dayed = true ∧ F.d = F.y % 100) ∨ (1 ∉ K ∧ 3 ∈ K ∧ D.day = some F.d ∧ D.year = none ∧ dayed = true) ∨ (1 ∉ K ∧ 3 ∉ K ∧ D.day = some F.d ∧ D.year = some (F.y % 100) ∧ dayed = true)
theorem InvK.start (F : Frm) : InvK F [0, 1, 2, 3] dt0 false :=
  ⟨rfl, rfl, fun _ => ⟨rfl, rfl, rfl⟩, fun _ => .inl ⟨by simp, by simp, rfl, rfl, rfl⟩⟩
/-- The sets of words to come: K' is K without k. -/
def Less (K K' : List Nat) (k : Nat) : Prop := k ∈ K ∧ k ∉ K' ∧ ∀ q, q ≠ k → (q ∈ K' ↔ q ∈ K)
theorem word_dd_told {n : Nat} (h : n < 100) (d : Dt) {v : Nat} (hd : d.day = some v) (hy : d.year = none) : word0 d (dd n) = { d with year := some n } := by
  rw [word0_no (clock_dd n), word1_told hd, word2_no (month_digits (dd_all n)), word3_yes hy (numP_dd' h)]
theorem InvK.step {F : Frm} (hF : F.ok) {K K' : List Nat} {k : Nat} {D : Dt} {dayed : Bool} (h : InvK F K D dayed) (hl : Less K K' k) (hk : k < 4)
    (hgo : ¬ ((wordF F k).length = 2 ∧ wordF F k = yearW F ∧ dayed = false ∧ (yearW F).length = 2 ∧ F.d ≠ F.y % 100)) : InvK F K' (word0 D (wordF F k)) (dayed || decide ((wordF F k).length = 2)) := by
  obtain ⟨hh, hi, hx, hd, hm1, hm2, hy⟩ := hF
  obtain ⟨l1, l2, l3⟩ := hl
  have e0 := l3 0; have e1 := l3 1; have e2 := l3 2; have e3 := l3 3
  have hcase : k = 0 ∨ k = 1 ∨ k = 2 ∨ k = 3 := by omega
  rcases hcase with rfl | rfl | rfl | rfl
  · have i1 := e1 (by decide); have i2 := e2 (by decide); have i3 := e3 (by decide)
    have hW : wordF F 0 = hms F.h F.i F.x := rfl
    have hc : D.clock = none := by rw [h.clock, if_pos l1]
    rw [hW, word_hms hh hi hx D hc]
    have e : (dayed || decide ((hms F.h F.i F.x).length = 2)) = dayed := by rw [hms_len]; simp
    rw [e]
    refine ⟨by rw [if_neg l2], ?_, fun ht => ?_, fun ht => ?_⟩
    · rw [h.month]; by_cases h2 : 2 ∈ K
      · rw [if_pos h2, if_pos (i2.2 h2)]
      · rw [if_neg h2, if_neg (fun c => h2 (i2.1 c))]
    · obtain ⟨a, b, c⟩ := h.four ht
      refine ⟨?_, ?_, ?_⟩
      · show D.day = _; rw [a]; by_cases hh : 1 ∈ K
        · rw [if_pos hh, if_pos (i1.2 hh)]
        · rw [if_neg hh, if_neg (fun c => hh (i1.1 c))]
      · show D.year = _; rw [b]; by_cases hh : 3 ∈ K
        · rw [if_pos hh, if_pos (i3.2 hh)]
        · rw [if_neg hh, if_neg (fun c => hh (i3.1 c))]
      · rw [c, decide_eq_decide]; exact not_congr i1.symm
    · have := h.two ht
      show (1 ∈ K' ∧ 3 ∈ K' ∧ D.day = none ∧ D.year = none ∧ dayed = false) ∨ (1 ∈ K' ∧ 3 ∉ K' ∧ D.day = some F.d ∧ D.year = none ∧ dayed = true ∧ F.d = F.y % 100) ∨ (1 ∉ K' ∧ 3 ∈ K' ∧ D.day = some F.d ∧ D.year = none ∧ dayed = true) ∨ (1 ∉ K' ∧ 3 ∉ K' ∧ D.day = some F.d ∧ D.year = some (F.y % 100) ∧ dayed = true)
      rw [i1, i3]; exact this
  · have i0 := e0 (by decide); have i2 := e2 (by decide); have i3 := e3 (by decide)
    have hW : wordF F 1 = dd F.d := rfl
    rw [hW]
    have e : (dayed || decide ((dd F.d).length = 2)) = true := by rw [dd_len]; simp
    rw [e]
    have hclk : D.clock = if 0 ∈ K' then none else some (F.h, F.i, F.x) := by
      rw [h.clock]; by_cases hh : 0 ∈ K
      · rw [if_pos hh, if_pos (i0.2 hh)]
      · rw [if_neg hh, if_neg (fun c => hh (i0.1 c))]
    have hmon : D.month = if 2 ∈ K' then 0 else F.m := by
      rw [h.month]; by_cases hh : 2 ∈ K
      · rw [if_pos hh, if_pos (i2.2 hh)]
      · rw [if_neg hh, if_neg (fun c => hh (i2.1 c))]
    cases ht : F.two with
    | false =>
      obtain ⟨a, b, c⟩ := h.four ht
      rw [if_pos l1] at a
      rw [word_day hd D a]
      refine ⟨hclk, hmon, fun _ => ⟨by rw [if_neg l2], ?_, by simp [l2]⟩, (fun hx => by rw [ht] at hx; cases hx)⟩
      show D.year = _; rw [b]; by_cases hh : 3 ∈ K
      · rw [if_pos hh, if_pos (i3.2 hh)]
      · rw [if_neg hh, if_neg (fun c => hh (i3.1 c))]
    | true =>
      rcases h.two ht with ⟨a1, a2, a3, a4, a5⟩ | ⟨a1, a2, a3, a4, a5, a6⟩ | ⟨a1, _⟩ | ⟨a1, _⟩
      · rw [word_day hd D a3]
        exact ⟨hclk, hmon, (fun hx => by rw [ht] at hx; cases hx), fun _ => .inr (.inr (.inl ⟨l2, i3.2 a2, rfl, a4, rfl⟩))⟩
      · rw [word_dd_told hd D a3 a4]
        exact ⟨hclk, hmon, (fun hx => by rw [ht] at hx; cases hx), fun _ => .inr (.inr (.inr ⟨l2, fun c => a2 (i3.1 c), a3, by rw [a6], rfl⟩))⟩
      · exact absurd l1 a1
      · exact absurd l1 a1
  · have i0 := e0 (by decide); have i1 := e1 (by decide); have i3 := e3 (by decide)
    have hW : wordF F 2 = mixName (F.m - 1) := rfl
    obtain ⟨f1, f2, _, f4⟩ := mix_facts (F.m - 1) (by omega)
    have hmo : D.month = 0 := by rw [h.month, if_pos l1]
    rw [hW, word_month f1 (by rw [f2]; omega) D hmo, f2]
    have e : (dayed || decide ((mixName (F.m - 1)).length = 2)) = dayed := by rw [f4]; simp
    rw [e]
    refine ⟨?_, by rw [if_neg l2]; show F.m - 1 + 1 = F.m; omega, fun ht => ?_, fun ht => ?_⟩
    · show D.clock = _; rw [h.clock]; by_cases hh : 0 ∈ K
      · rw [if_pos hh, if_pos (i0.2 hh)]
      · rw [if_neg hh, if_neg (fun c => hh (i0.1 c))]
    · obtain ⟨a, b, c⟩ := h.four ht
      refine ⟨?_, ?_, ?_⟩
      · show D.day = _; rw [a]; by_cases hh : 1 ∈ K
        · rw [if_pos hh, if_pos (i1.2 hh)]
        · rw [if_neg hh, if_neg (fun c => hh (i1.1 c))]
      · show D.year = _; rw [b]; by_cases hh : 3 ∈ K
        · rw [if_pos hh, if_pos (i3.2 hh)]
        · rw [if_neg hh, if_neg (fun c => hh (i3.1 c))]
      · rw [c, decide_eq_decide]; exact not_congr i1.symm
    · have := h.two ht
      show (1 ∈ K' ∧ 3 ∈ K' ∧ D.day = none ∧ D.year = none ∧ dayed = false) ∨ (1 ∈ K' ∧ 3 ∉ K' ∧ D.day = some F.d ∧ D.year = none ∧ dayed = true ∧ F.d = F.y % 100) ∨ (1 ∉ K' ∧ 3 ∈ K' ∧ D.day = some F.d ∧ D.year = none ∧ dayed = true) ∨ (1 ∉ K' ∧ 3 ∉ K' ∧ D.day = some F.d ∧ D.year = some (F.y % 100) ∧ dayed = true)
      rw [i1, i3]; exact this
  · have i0 := e0 (by decide); have i1 := e1 (by decide); have i2 := e2 (by decide)
    have hW : wordF F 3 = yearW F := rfl
    rw [hW] at hgo ⊢
    have hclk : D.clock = if 0 ∈ K' then none else some (F.h, F.i, F.x) := by
      rw [h.clock]; by_cases hh : 0 ∈ K
      · rw [if_pos hh, if_pos (i0.2 hh)]
      · rw [if_neg hh, if_neg (fun c => hh (i0.1 c))]
    have hmon : D.month = if 2 ∈ K' then 0 else F.m := by
      rw [h.month]; by_cases hh : 2 ∈ K
      · rw [if_pos hh, if_pos (i2.2 hh)]
      · rw [if_neg hh, if_neg (fun c => hh (i2.1 c))]
    cases ht : F.two with
    | false =>
      have eY : yearW F = dd (F.y / 100) ++ dd (F.y % 100) := by unfold yearW; rw [ht]; rfl
      obtain ⟨a, b, c⟩ := h.four ht
      rw [if_pos l1] at b
      rw [eY, word_year hy D b]
      have e : (dayed || decide ((dd (F.y / 100) ++ dd (F.y % 100)).length = 2)) = dayed := by
        have : (dd (F.y / 100) ++ dd (F.y % 100)).length = 4 := rfl
        rw [this]; simp
      rw [e]
      refine ⟨hclk, hmon, fun _ => ⟨?_, by rw [if_neg l2], ?_⟩, (fun hx => by rw [ht] at hx; cases hx)⟩
      · show D.day = _; rw [a]; by_cases hh : 1 ∈ K
        · rw [if_pos hh, if_pos (i1.2 hh)]
        · rw [if_neg hh, if_neg (fun c => hh (i1.1 c))]
      · rw [c, decide_eq_decide]; exact not_congr i1.symm
    | true =>
      have eY : yearW F = dd (F.y % 100) := by unfold yearW; rw [ht]; rfl
      rw [eY] at hgo ⊢
      have e : (dayed || decide ((dd (F.y % 100)).length = 2)) = true := by rw [dd_len]; simp
      rw [e]
      have hy1 : F.y % 100 < 100 := by omega
      rcases h.two ht with ⟨a1, a2, a3, a4, a5⟩ | ⟨_, a2, _⟩ | ⟨a1, a2, a3, a4, a5⟩ | ⟨_, a2, _⟩
      · have hdy : F.d = F.y % 100 := by
          by_cases hh : F.d = F.y % 100
          · exact hh
          · exact absurd ⟨rfl, rfl, a5, rfl, hh⟩ hgo
        rw [word_day hy1 D a3]
        exact ⟨hclk, hmon, (fun hx => by rw [ht] at hx; cases hx), fun _ => .inr (.inl ⟨i1.2 a1, l2, by rw [hdy], a4, rfl, hdy⟩)⟩
      · exact absurd l1 a2
      · rw [word_dd_told hy1 D a3 a4]
        exact ⟨hclk, hmon, (fun hx => by rw [ht] at hx; cases hx), fun _ => .inr (.inr (.inr ⟨fun c => a1 (i1.1 c), l2, a3, rfl, rfl⟩))⟩
      · exact absurd l1 a2
/-- All words told: the date. -/
theorem InvK.full {F : Frm} {D : Dt} {dayed : Bool} (h : InvK F [] D dayed) : D = ⟨some (F.h, F.i, F.x), some F.d, F.m, some (if F.two = true then F.y % 100 else F.y)⟩ := by
  obtain ⟨a, b, c, d⟩ := h
  cases D
  simp only at a b c d
  cases ht : F.two with
  | false =>
    obtain ⟨c1, c2, _⟩ := c ht
    simp at a b c1 c2
    rw [a, b, c1, c2]; rfl
  | true =>
    simp at a b
    rcases d ht with ⟨x, _⟩ | ⟨x, _⟩ | ⟨_, x, _⟩ | ⟨_, _, x1, x2, _⟩
    · cases x
    · cases x
    · cases x
    · rw [a, b, x1, x2]; rfl
/-- What the text so far leaves the scan with. -/
def Scans (T : List UInt8) (D : Dt) : Prop := ∀ r, scanP dt0 [] (T ++ r) = scanP D [] r
theorem Scans.start : Scans [] dt0 := fun _ => rfl
theorem Scans.more {F : Frm} (hF : F.ok) {T : List UInt8} {D : Dt} (h : Scans T D) (k : Nat) {c : UInt8} (hc : betB c = true) : Scans (T ++ wordF F k ++ [c]) (word0 D (wordF F k)) := by
  intro r
  have e : T ++ wordF F k ++ [c] ++ r = T ++ (wordF F k ++ c :: r) := by simp
  rw [e, h, scan_cut (wordF_bet hF k) D hc]
theorem Scans.date {T : List UInt8} {D : Dt} (h : Scans T D) : dateP T = D := by
  have := h []
  rw [List.append_nil] at this
  unfold dateP
  rw [this, scanP_nil, word0_nil]
theorem forms_val {n : Nat} {Y M K W : Nat} (h : DayIs (n : Int) Y M K W) (hY : Y ≤ 2069) (two : Bool) : dateV ⟨some (n % 86400 / 3600, n % 86400 / 60 % 60, n % 86400 % 60), some K, M, some (if two = true then Y % 100 else Y)⟩ = .tuple #[.int .i64 n, .bool true] := by
  have h70 := year_1970 h
  have hs := secS_day h
  obtain ⟨-, hday, y1, y2, m1, m2, k1, k2, w7, -⟩ := h
  have hf : fixY (if two = true then Y % 100 else Y) = Y := by
    cases two
    · show fixY Y = Y
      unfold fixY
      rw [if_neg (by omega), if_neg (by omega)]
    · show fixY (Y % 100) = Y
      unfold fixY
      split
      · omega
      · rw [if_pos (by omega)]; omega
  have hfull : fullP ⟨some (n % 86400 / 3600, n % 86400 / 60 % 60, n % 86400 % 60), some K, M, some (if two = true then Y % 100 else Y)⟩ = true := by
    unfold fullP
    simp only [Option.isSome_some, Option.getD_some, hf, Bool.and_true, Bool.true_and, Bool.and_eq_true, decide_eq_true_eq]
    omega
  unfold dateV
  rw [if_pos hfull]
  show secVal (fixY (if two = true then Y % 100 else Y) : Nat) (M : Int) (K : Nat) ((n % 86400 / 3600 : Nat) : Int) ((n % 86400 / 60 % 60 : Nat) : Int) ((n % 86400 % 60 : Nat) : Int) = _
  rw [hf]
  exact secVal_is ⟨by omega, by omega, ⟨by omega, hday.k2⟩, by omega, by omega, by omega⟩ hs
end Go.Proofs.YtnkfgedpdokcpaaDoor
