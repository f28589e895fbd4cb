/- Plain facts on days for chapter 07's outright laws. -/
import Derived.Test.YtnkfgedpdokcpaaDoorTx0
namespace Go.Proofs.YtnkfgedpdokcpaaDoor
open Go.RowKit Go.Lib Go.Proofs.Foot

/-- The next day. -/
theorem IsDay.next {d y m k : Int} (h : IsDay d y m k) : (k < dimY y m ∧ IsDay (d + 1) y m (k + 1)) ∨ (k = dimY y m ∧ m < 12 ∧ IsDay (d + 1) y (m + 1) 1) ∨ (k = 31 ∧ m = 12 ∧ IsDay (d + 1) (y + 1) 1 1) := by
  have h1 := h.m1; have h2 := h.m2; have h3 := h.k1; have h4 := h.k2; have h5 := h.sum
  by_cases hk : k < dimY y m
  · exact .inl ⟨hk, h1, h2, by omega, by omega, by omega⟩
  · right
    have hs := cumY_succ (y := y) h1 h2
    by_cases hm : m < 12
    · left
      have := dimY_bd y (m + 1)
      exact ⟨by omega, hm, by omega, by omega, by omega, by omega, by omega⟩
    · right
      have e12 : m = 12 := by omega
      subst e12
      have hb := befY_succ y
      have h13 := cumY_13 y
      have e13 : (12 : Int) + 1 = 13 := rfl
      rw [e13] at hs
      have d12 : dimY y 12 = 31 := by simp [dimY]
      have := dimY_bd (y + 1) 1
      have c1 := cumY_1 (y + 1)
      exact ⟨by omega, rfl, by omega, by omega, by omega, by omega, by omega⟩
theorem okS_of {y m k h i x : Int} (hy : 1 ≤ y ∧ y ≤ 9999) (hm : 1 ≤ m ∧ m ≤ 12) (hk : 1 ≤ k ∧ k ≤ dimY y m) (hh : 0 ≤ h ∧ h ≤ 23) (hi : 0 ≤ i ∧ i ≤ 59) (hx : 0 ≤ x ∧ x ≤ 59) : secVal y m k h i x = .tuple #[.int .i64 (secS y m k h i x), .bool true] := secVal_yes ⟨hy, hm, hk, hh, hi, hx⟩
theorem dayIs_sec {n : Int} {Y M K W : Nat} (D : DayIs n Y M K W) : secS Y M K 0 0 0 = -62135596800 + dayN n * 86400 ∧ secS Y M K 23 59 59 = -62135596800 + dayN n * 86400 + 86399 := by
  have h := D.day.sum
  unfold secS
  rw [h]
  omega
end Go.Proofs.YtnkfgedpdokcpaaDoor
