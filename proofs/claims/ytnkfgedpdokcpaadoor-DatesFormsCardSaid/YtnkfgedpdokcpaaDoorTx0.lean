/- The text of a day's seconds, and that it is read back: plain, over what the walks compute. -/
import Derived.Test.YtnkfgedpdokcpaaDoorCk6
import Derived.Test.YtnkfgedpdokcpaaDoorDy1
import Derived.Test.YtnkfgedpdokcpaaDoorSpec07c
namespace Go.Proofs.YtnkfgedpdokcpaaDoor
open Go.RowKit Go.Lib Go.Proofs.Foot

/-- The parts of a day, as natural numbers. -/
structure DayIs (n : Int) (Y M K W : Nat) : Prop where
  val : dayVal n = .tuple #[.int .i64 Y, .int .i64 M, .int .i64 K, .int .i64 W]
  day : IsDay (dayN n) Y M K
  y1 : 1 ≤ Y
  y2 : Y ≤ 9999
  m1 : 1 ≤ M
  m2 : M ≤ 12
  k1 : 1 ≤ K
  k2 : K ≤ 31
  w7 : W < 7
  wk : (W : Int) = (dayN n + 1) % 7
theorem dayIs_of (n : Int) (h0 : -62135596800 ≤ n) (h1 : n ≤ 253402300799) : ∃ Y M K W, DayIs n Y M K W := by
  have d0 : 0 ≤ dayN n := by unfold dayN; omega
  have d1 : dayN n ≤ 3652058 := by unfold dayN; omega
  have H := prog_isDay d0
  have hy := H.year
  have hv : dayVal n = .tuple #[.int .i64 (pYear (dayN n + 306)), .int .i64 (pMonth (dayN n + 306)), .int .i64 (pDay (dayN n + 306)), .int .i64 ((dayN n + 1) % 7)] := if_pos ⟨h0, h1⟩
  have hdim := dimY_bd (pYear (dayN n + 306)) (pMonth (dayN n + 306))
  generalize pYear (dayN n + 306) = y at *
  generalize pMonth (dayN n + 306) = m at *
  generalize pDay (dayN n + 306) = k at *
  have hm1 := H.m1
  have hm2 := H.m2
  have hk1 := H.k1
  have hk2 := H.k2
  have y1 : 1 ≤ y := by
    rcases Int.lt_or_le y 1 with c | c
    · have := befY_mono (show y + 1 ≤ 1 by omega)
      have e : befY 1 = 0 := by decide
      omega
    · exact c
  have y2 : y ≤ 9999 := by
    rcases Int.lt_or_le 9999 y with c | c
    · have := befY_mono (show 10000 ≤ y by omega)
      have e := befY_10000
      omega
    · exact c
  obtain ⟨Y, rfl⟩ := Int.eq_ofNat_of_zero_le (show 0 ≤ y by omega)
  obtain ⟨M, rfl⟩ := Int.eq_ofNat_of_zero_le (show 0 ≤ m by omega)
  obtain ⟨K, rfl⟩ := Int.eq_ofNat_of_zero_le (show 0 ≤ k by omega)
  obtain ⟨W, hW⟩ := Int.eq_ofNat_of_zero_le (show 0 ≤ (dayN n + 1) % 7 by omega)
  rw [hW] at hv
  exact ⟨Y, M, K, W, hv, H, by omega, by omega, by omega, by omega, by omega, by omega, by omega, hW.symm⟩
theorem DayIs.unique {n : Int} {Y M K W Y' M' K' W' : Nat} (h : DayIs n Y M K W) (h' : DayIs n Y' M' K' W') : Y = Y' ∧ M = M' ∧ K = K' ∧ W = W' := by
  obtain ⟨a, b, c⟩ := h.day.unique h'.day
  have := h.wk; have := h'.wk
  refine ⟨by omega, by omega, by omega, by omega⟩
/-- The text of seconds from 1970 on, by the parts of their day. -/
def textBy (n : Nat) (Y M K W : Nat) : List UInt8 := textOf W K (M - 1) Y (n % 86400 / 3600) (n % 86400 / 60 % 60) (n % 86400 % 60)
theorem secS_day {n : Nat} {Y M K W : Nat} (h : DayIs (n : Int) Y M K W) : secS Y M K ((n % 86400 / 3600 : Nat) : Int) ((n % 86400 / 60 % 60 : Nat) : Int) ((n % 86400 % 60 : Nat) : Int) = (n : Int) := by
  have hs := h.day.sum
  unfold secS
  rw [hs]
  unfold dayN
  omega
theorem year_1970 {n : Nat} {Y M K W : Nat} (h : DayIs (n : Int) Y M K W) : 1970 ≤ Y := by
  have hy := h.day.year
  rcases Nat.lt_or_ge Y 1970 with c | c
  · have := befY_mono (show (Y : Int) + 1 ≤ 1970 by omega)
    have e : befY 1970 = 719162 := by decide
    have : (719162 : Int) ≤ dayN n := by unfold dayN; omega
    omega
  · exact c
theorem secVal_is {y m k h i x : Int} (o : (1 ≤ y ∧ y ≤ 9999) ∧ (1 ≤ m ∧ m ≤ 12) ∧ (1 ≤ k ∧ k ≤ dimY y m) ∧ (0 ≤ h ∧ h ≤ 23) ∧ (0 ≤ i ∧ i ≤ 59) ∧ (0 ≤ x ∧ x ≤ 59)) {v : Int} (hv : secS y m k h i x = v) : secVal y m k h i x = .tuple #[.int .i64 v, .bool true] := by
  rw [← hv]; exact secVal_yes o
theorem dateV_text {n : Nat} {Y M K W : Nat} (h : DayIs (n : Int) Y M K W) : dateV (dateP (textBy n Y M K W)) = .tuple #[.int .i64 n, .bool true] := by
  have hY := year_1970 h
  obtain ⟨-, hday, y1, y2, m1, m2, k1, k2, w7, -⟩ := h
  have hd := date_text (w := W) (k := K) (m := M - 1) (y := Y) (h := n % 86400 / 3600) (i := n % 86400 / 60 % 60) (x := n % 86400 % 60) w7 (by omega) (by omega) (by omega) (by omega) (by omega) (by omega)
  unfold textBy
  rw [hd]
  have hf : fixY Y = Y := by unfold fixY; rw [if_neg (by omega), if_neg (by omega)]
  have hM : M - 1 + 1 = M := by omega
  have hfull : fullP ⟨some (n % 86400 / 3600, n % 86400 / 60 % 60, n % 86400 % 60), some K, M - 1 + 1, some Y⟩ = true := by
    unfold fullP
    simp [hf]; omega
  unfold dateV
  rw [if_pos hfull]
  show secVal (fixY Y : Nat) ((M - 1 + 1 : Nat) : Int) (K : Nat) ((n % 86400 / 3600 : Nat) : Int) ((n % 86400 / 60 % 60 : Nat) : Int) ((n % 86400 % 60 : Nat) : Int) = _
  rw [hf, hM]
  refine secVal_is ⟨by omega, by omega, ⟨by omega, hday.k2⟩, by omega, by omega, by omega⟩ ?_
  have hs := hday.sum
  unfold secS
  rw [hs]
  unfold dayN
  omega
end Go.Proofs.YtnkfgedpdokcpaaDoor
