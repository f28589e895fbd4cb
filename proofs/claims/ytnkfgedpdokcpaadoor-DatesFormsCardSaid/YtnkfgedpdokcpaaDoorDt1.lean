/- Walks: dates' within and days, the reference's leap, days and before. -/
import Derived.Test.YtnkfgedpdokcpaaDoorProg
import Derived.Test.YtnkfgedpdokcpaaDoorBase
import Derived.Test.YtnkfgedpdokcpaaDoorSpec07
namespace Go.Proofs.YtnkfgedpdokcpaaDoor
open Go.RowKit Go.Lib Go.Proofs.Foot

def winB (n a b : Int) : Bool := decide (a ≤ n ∧ n ≤ b)
theorem winB_yes {n a b : Int} (h : a ≤ n ∧ n ≤ b) : winB n a b = true := decide_eq_true h
theorem winB_no {n a b : Int} (h : ¬ (a ≤ n ∧ n ≤ b)) : winB n a b = false := decide_eq_false h
theorem within_any (n a b : Int) (w : World) :
    Calls Tryd.prog 26 #[.int .i64 n, .int .i64 a, .int .i64 b] w fun e w' => e = .returned (.bool (winB n a b)) ∧ w = w' := by
  by_cases h1 : a ≤ n
  · by_cases h2 : n ≤ b
    · have H := hid (winB_yes ⟨h1, h2⟩)
      go_enter Tryd.func26, Tryd.ntmps26
      go_wp2
      go_ret
      exact ⟨ret_bool (by rw [H.out]), rfl⟩
    · have H := hid (winB_no (n := n) (a := a) (b := b) (by omega))
      go_enter Tryd.func26, Tryd.ntmps26
      go_wp2
      go_ret
      exact ⟨ret_bool (by rw [H.out]), rfl⟩
  · have H := hid (winB_no (n := n) (a := a) (b := b) (by omega))
    go_enter Tryd.func26, Tryd.ntmps26
    go_wp2
    go_ret
    exact ⟨ret_bool (by rw [H.out]), rfl⟩

theorem leapY_yes {y : Int} (h : y % 4 = 0 ∧ (y % 100 ≠ 0 ∨ y % 400 = 0)) : leapY y = true := decide_eq_true h
theorem leapY_no {y : Int} (h : ¬ (y % 4 = 0 ∧ (y % 100 ≠ 0 ∨ y % 400 = 0))) : leapY y = false := decide_eq_false h

theorem leapR_any (y : Int) (h0 : 0 ≤ y) (h1 : y ≤ 20000) (w : World) :
    Calls Tryd.prog 49 #[.int .i64 y] w fun e w' => e = .returned (.bool (leapY y)) ∧ w = w' := by
  by_cases a : y % 4 = 0
  · have a' : (y % 4 == 0) = true := by simpa using a
    by_cases b : y % 100 = 0
    · have b' : (y % 100 != 0) = false := by simpa using b
      by_cases c : y % 400 = 0
      · have c' : (y % 400 == 0) = true := by simpa using c
        have H := hid (leapY_yes ⟨a, .inr c⟩)
        clear a b c
        go_enter Tryd.func49, Tryd.ntmps49
        go_wp2
        go_ret
        exact ⟨ret_bool H.out.symm, rfl⟩
      · have c' : (y % 400 == 0) = false := by simpa using c
        have H := hid (leapY_no (y := y) (by omega))
        clear a b c
        go_enter Tryd.func49, Tryd.ntmps49
        go_wp2
        go_ret
        exact ⟨ret_bool H.out.symm, rfl⟩
    · have b' : (y % 100 != 0) = true := by simpa using b
      have H := hid (leapY_yes ⟨a, .inl b⟩)
      clear a b
      go_enter Tryd.func49, Tryd.ntmps49
      go_wp2
      go_ret
      exact ⟨ret_bool H.out.symm, rfl⟩
  · have a' : (y % 4 == 0) = false := by simpa using a
    have H := hid (leapY_no (y := y) (by omega))
    clear a
    go_enter Tryd.func49, Tryd.ntmps49
    go_wp2
    go_ret
    exact ⟨ret_bool H.out.symm, rfl⟩

theorem dimY_30 {y m : Int} (h : m = 4 ∨ m = 6 ∨ m = 9 ∨ m = 11) : dimY y m = 30 := if_pos h
theorem dimY_2 (y : Int) : dimY y 2 = 28 + lpY y := by simp [dimY]
theorem dimY_31 {y m : Int} (h : ¬ (m = 4 ∨ m = 6 ∨ m = 9 ∨ m = 11)) (h2 : ¬ m = 2) : dimY y m = 31 := by unfold dimY; rw [if_neg h, if_neg h2]

theorem daysR_any (y m : Int) (h0 : 0 ≤ y) (h1 : y ≤ 20000) (w : World) :
    Calls Tryd.prog 39 #[.int .i64 y, .int .i64 m] w fun e w' => e = .returned (.int .i64 (dimY y m)) ∧ w = w' := by
  by_cases a : m = 4 ∨ m = 6 ∨ m = 9 ∨ m = 11
  · rcases a with rfl | rfl | rfl | rfl
    all_goals
      go_enter Tryd.func39, Tryd.ntmps39
      go_wp2
      go_ret
      exact ⟨ret_int (dimY_30 (by decide)).symm, rfl⟩
  · by_cases b : m = 2
    · subst b
      have hl := leapR_any y h0 h1
      have Hl := hid hl
      clear hl
      cases c : leapY y with
      | true =>
        rw [c] at Hl
        have e : lpY y = 1 := if_pos c
        have H : Hid (dimY y 2 = 29) := by rw [dimY_2, e]; rfl
        clear c e
        go_enter Tryd.func39, Tryd.ntmps39
        go_wp2_with (go_at_call 49; refine (Hl.out _).mono ?_; rintro e w1 ⟨rfl, rfl⟩)
        go_ret
        exact ⟨ret_int H.out.symm, rfl⟩
      | false =>
        rw [c] at Hl
        have e : lpY y = 0 := if_neg (by rw [c]; decide)
        have H : Hid (dimY y 2 = 28) := by rw [dimY_2, e]; rfl
        clear c e
        go_enter Tryd.func39, Tryd.ntmps39
        go_wp2_with (go_at_call 49; refine (Hl.out _).mono ?_; rintro e w1 ⟨rfl, rfl⟩)
        go_ret
        exact ⟨ret_int H.out.symm, rfl⟩
    · have H := hid (dimY_31 (y := y) a b)
      have e4 : (m == 4) = false := by rw [beq_eq_false_iff_ne]; omega
      have e6 : (m == 6) = false := by rw [beq_eq_false_iff_ne]; omega
      have e9 : (m == 9) = false := by rw [beq_eq_false_iff_ne]; omega
      have e11 : (m == 11) = false := by rw [beq_eq_false_iff_ne]; omega
      have e2 : (m == 2) = false := by rw [beq_eq_false_iff_ne]; omega
      clear a b
      go_enter Tryd.func39, Tryd.ntmps39
      go_wp2_with fail
      go_ret
      exact ⟨ret_int H.out.symm, rfl⟩

theorem daysA_any (y m : Int) (h0 : 0 ≤ y) (h1 : y ≤ 20000) (w : World) :
    Calls Tryd.prog 31 #[.int .i64 y, .int .i64 m] w fun e w' => e = .returned (.int .i64 (dimY y m)) ∧ w = w' := by
  by_cases a : m = 4 ∨ m = 6 ∨ m = 9 ∨ m = 11
  · rcases a with rfl | rfl | rfl | rfl
    all_goals
      go_enter Tryd.func31, Tryd.ntmps31
      go_wp2
      go_ret
      exact ⟨ret_int (dimY_30 (by decide)).symm, rfl⟩
  · by_cases b : m = 2
    · subst b
      by_cases a : y % 4 = 0
      · have a' : (y % 4 == 0) = true := by simpa using a
        by_cases b : y % 100 = 0
        · have b' : (y % 100 != 0) = false := by simpa using b
          by_cases c : y % 400 = 0
          · have c' : (y % 400 == 0) = true := by simpa using c
            have H : Hid (dimY y 2 = 29) := by rw [dimY_2, lpY_yes ⟨a, .inr c⟩]; rfl
            clear a b c
            go_enter Tryd.func31, Tryd.ntmps31
            go_wp2
            go_ret
            exact ⟨ret_int H.out.symm, rfl⟩
          · have c' : (y % 400 == 0) = false := by simpa using c
            have H : Hid (dimY y 2 = 28) := by rw [dimY_2, lpY_no (by omega)]; rfl
            clear a b c
            go_enter Tryd.func31, Tryd.ntmps31
            go_wp2
            go_ret
            exact ⟨ret_int H.out.symm, rfl⟩
        · have b' : (y % 100 != 0) = true := by simpa using b
          have H : Hid (dimY y 2 = 29) := by rw [dimY_2, lpY_yes ⟨a, .inl b⟩]; rfl
          clear a b
          go_enter Tryd.func31, Tryd.ntmps31
          go_wp2
          go_ret
          exact ⟨ret_int H.out.symm, rfl⟩
      · have a' : (y % 4 == 0) = false := by simpa using a
        have c' : (y % 400 == 0) = false := by rw [beq_eq_false_iff_ne]; omega
        have H : Hid (dimY y 2 = 28) := by rw [dimY_2, lpY_no (by omega)]; rfl
        clear a
        go_enter Tryd.func31, Tryd.ntmps31
        go_wp2
        go_ret
        exact ⟨ret_int H.out.symm, rfl⟩
    · have H := hid (dimY_31 (y := y) a b)
      have e4 : (m == 4) = false := by rw [beq_eq_false_iff_ne]; omega
      have e6 : (m == 6) = false := by rw [beq_eq_false_iff_ne]; omega
      have e9 : (m == 9) = false := by rw [beq_eq_false_iff_ne]; omega
      have e11 : (m == 11) = false := by rw [beq_eq_false_iff_ne]; omega
      have e2 : (m == 2) = false := by rw [beq_eq_false_iff_ne]; omega
      clear a b
      go_enter Tryd.func31, Tryd.ntmps31
      go_wp2_with fail
      go_ret
      exact ⟨ret_int H.out.symm, rfl⟩

theorem beforeR_any (y : Int) (h0 : 1 ≤ y) (h1 : y ≤ 20000) (w : World) :
    Calls Tryd.prog 40 #[.int .i64 y] w fun e w' => e = .returned (.int .i64 (befY y)) ∧ w = w' := by
  go_enter Tryd.func40, Tryd.ntmps40
  go_wp2
  go_ret
  exact ⟨rfl, rfl⟩
end Go.Proofs.YtnkfgedpdokcpaaDoor
