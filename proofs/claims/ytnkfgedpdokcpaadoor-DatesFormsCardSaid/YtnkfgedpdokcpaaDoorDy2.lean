/- Walk: Day of dates. -/
import Derived.Test.YtnkfgedpdokcpaaDoorDy1
namespace Go.Proofs.YtnkfgedpdokcpaaDoor
open Go.RowKit Go.Lib Go.Proofs.Foot

theorem week_of (x : Int) : (wrap64 (x.tmod 7 + 7)).tmod 7 = x % 7 := by
  have h : -7 < x.tmod 7 ∧ x.tmod 7 < 7 ∧ (x.tmod 7 + 7) % 7 = x % 7 := by
    rw [Int.tmod_eq_emod]; split <;> simp <;> omega
  rw [IntWalk.wrap64_in _ (by omega), Int.tmod_eq_emod_of_nonneg (by omega)]
  exact h.2.2
/-- The day number from the first of March of the year 0, as the program reckons it. -/
def dayM (n : Int) : Int := (n + 62135596800) / 86400 + -719162 + 719468
theorem dayM_eq (n : Int) : dayM n = dayN n + 306 := by unfold dayM dayN; omega
theorem dayVal_prog {n : Int} (h0 : -62135596800 ≤ n) (h1 : n ≤ 253402300799) (hd0 : 0 ≤ dayN n) : dayVal n = .tuple #[.int .i64 (pYear (dayM n)), .int .i64 (pMonth (dayM n)), .int .i64 (pDay (dayM n)), .int .i64 ((wrap64 (((n + 62135596800) / 86400 + -719162 + 4).tmod 7 + 7)).tmod 7)] := by
  have hw : (dayN n + 1) % 7 = (wrap64 (((n + 62135596800) / 86400 + -719162 + 4).tmod 7 + 7)).tmod 7 := by rw [week_of]; unfold dayN; omega
  have H := prog_isDay hd0
  rw [← dayM_eq] at H
  exact dayVal_of h0 h1 rfl hw H
theorem dayVal_lo {n : Int} (h0 : -62135596800 ≤ n) (h1 : n ≤ 253402300799) (hd0 : 0 ≤ dayN n) (h : pMonth (dayM n) ≤ 2) : dayVal n = .tuple #[.int .i64 (pY (dayM n) + dayM n / 146097 * 400 + 1), .int .i64 (pMonth (dayM n)), .int .i64 (pDay (dayM n)), .int .i64 ((wrap64 (((n + 62135596800) / 86400 + -719162 + 4).tmod 7 + 7)).tmod 7)] := by
  rw [dayVal_prog h0 h1 hd0]; unfold pYear; rw [if_pos h]
theorem dayVal_hi {n : Int} (h0 : -62135596800 ≤ n) (h1 : n ≤ 253402300799) (hd0 : 0 ≤ dayN n) (h : ¬ pMonth (dayM n) ≤ 2) : dayVal n = .tuple #[.int .i64 (pY (dayM n) + dayM n / 146097 * 400), .int .i64 (pMonth (dayM n)), .int .i64 (pDay (dayM n)), .int .i64 ((wrap64 (((n + 62135596800) / 86400 + -719162 + 4).tmod 7 + 7)).tmod 7)] := by
  rw [dayVal_prog h0 h1 hd0]; unfold pYear; rw [if_neg h]
theorem pOf_365 (D : Int) : 0 ≤ pOf D ∧ pOf D ≤ 365 := by
  obtain ⟨_, _, a, b⟩ := pOf_bd D
  refine ⟨a, ?_⟩
  split at b <;> omega

set_option maxHeartbeats 1000000 in
set_option maxRecDepth 100000 in
theorem dayA_any (n : Int) (w : World) :
    Calls Tryd.prog 18 #[.int .i64 n] w fun e w' => e = .returned (dayVal n) ∧ w = w' := by
  by_cases h : -62135596800 ≤ n ∧ n ≤ 253402300799
  · have wb := winB_yes h
    obtain ⟨h0, h1⟩ := h
    have hd3 : dayN n ≤ 3652058 := by unfold dayN; omega
    have hd0 : 0 ≤ dayN n := by unfold dayN; omega
    obtain ⟨o0, o1⟩ := pOf_365 (dayM n)
    unfold pOf pY yofA pAge dayM at o0 o1
    go_enter Tryd.func18, Tryd.ntmps18
    go_wp2_with (go_at_call 26; refine (within_any _ _ _ _).mono ?_; rintro e w1 ⟨rfl, rfl⟩)
    all_goals (refine bodyPost_ret (results_tmp4 rfl _ _ _) rfl ?_)
    all_goals (refine ⟨ret_val ?_, rfl⟩)
    · rw [dayVal_lo h0 h1 hd0 (by assumption)]
      rfl
    · rw [dayVal_hi h0 h1 hd0 (by rename_i hh; first | exact hh | exact Int.not_le.2 hh | exact of_decide_eq_false hh)]
      rfl
  · have H := hid (dayVal_no h)
    have wb := winB_no h
    go_enter Tryd.func18, Tryd.ntmps18
    go_wp2_with (go_at_call 26; refine (within_any _ _ _ _).mono ?_; rintro e w1 ⟨rfl, rfl⟩)
    refine bodyPost_ret (results_tmp4 rfl _ _ _) rfl ?_
    exact ⟨ret_val H.out.symm, rfl⟩
end Go.Proofs.YtnkfgedpdokcpaaDoor
