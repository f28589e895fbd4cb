/- Walks: Seconds of dates and of the reference. -/
import Derived.Test.YtnkfgedpdokcpaaDoorDt1
namespace Go.Proofs.YtnkfgedpdokcpaaDoor
open Go.RowKit Go.Lib Go.Proofs.Foot

/-- What Seconds answers. -/
def secVal (y m k h mi s : Int) : Value := if okS y m k h mi s = true then .tuple #[.int .i64 (secS y m k h mi s), .bool true] else .tuple #[.int .i64 0, .bool false]
theorem secVal_yes {y m k h mi s : Int} (o : (1 ≤ y ∧ y ≤ 9999) ∧ (1 ≤ m ∧ m ≤ 12) ∧ (1 ≤ k ∧ k ≤ dimY y m) ∧ (0 ≤ h ∧ h ≤ 23) ∧ (0 ≤ mi ∧ mi ≤ 59) ∧ (0 ≤ s ∧ s ≤ 59)) : secVal y m k h mi s = .tuple #[.int .i64 (secS y m k h mi s), .bool true] := by
  unfold secVal okS; rw [if_pos (decide_eq_true o)]
theorem secVal_no {y m k h mi s : Int} (o : ¬ ((1 ≤ y ∧ y ≤ 9999) ∧ (1 ≤ m ∧ m ≤ 12) ∧ (1 ≤ k ∧ k ≤ dimY y m) ∧ (0 ≤ h ∧ h ≤ 23) ∧ (0 ≤ mi ∧ mi ≤ 59) ∧ (0 ≤ s ∧ s ≤ 59))) : secVal y m k h mi s = .tuple #[.int .i64 0, .bool false] := by
  unfold secVal okS; rw [if_neg (by simpa using o)]
theorem ret_val {a b : Value} (h : a = b) : Ending.returned a = .returned b := by rw [h]

set_option maxHeartbeats 1000000 in
set_option maxRecDepth 100000 in
theorem secondsA_any (y m k h mi s : Int) (w : World) :
    Calls Tryd.prog 19 #[.int .i64 y, .int .i64 m, .int .i64 k, .int .i64 h, .int .i64 mi, .int .i64 s] w fun e w' => e = .returned (secVal y m k h mi s) ∧ w = w' := by
  by_cases c1 : 1 ≤ y ∧ y ≤ 9999
  · have w1 := winB_yes c1
    have hd := daysA_any y m (by omega) (by omega)
    have Hd := hid hd
    clear hd
    by_cases c2 : 1 ≤ m ∧ m ≤ 12
    · have w2 := winB_yes c2
      by_cases c3 : 1 ≤ k ∧ k ≤ dimY y m
      · have w3 := winB_yes c3
        by_cases c4 : 0 ≤ h ∧ h ≤ 23
        · have w4 := winB_yes c4
          by_cases c5 : 0 ≤ mi ∧ mi ≤ 59
          · have w5 := winB_yes c5
            by_cases c6 : 0 ≤ s ∧ s ≤ 59
            · have w6 := winB_yes c6
              have H := hid (secVal_yes ⟨c1, c2, c3, c4, c5, c6⟩)
              have hdim := dimY_bd y m
              have k31 : k ≤ 31 := by omega
              obtain ⟨y0, y1⟩ := c1
              obtain ⟨m0, m1⟩ := c2
              obtain ⟨k0, _⟩ := c3
              obtain ⟨h0, h1⟩ := c4
              obtain ⟨i0, i1⟩ := c5
              obtain ⟨s0, s1⟩ := c6
              by_cases hm : m ≤ 2
              · have hm10 : 10 ≤ (m + 9) % 12 := by omega
                have e := days_lo (y := y) m0 hm
                have E := hid e
                clear e
                go_enter Tryd.func19, Tryd.ntmps19
                go_wp2_with (first
                  | (go_at_call 26; refine (within_any _ _ _ _).mono ?_; rintro e w1 ⟨rfl, rfl⟩)
                  | (go_at_call 31; refine (Hd.out _).mono ?_; rintro e w1 ⟨rfl, rfl⟩))
                go_ret2
                refine ⟨?_, rfl⟩
                rw [H.out]
                refine ret_val ?_
                have e := E.out
                have key : ∀ a b : Int, a = b → Value.tuple #[.int .i64 a, .bool true] = Value.tuple #[.int .i64 b, .bool true] := fun a b h => by rw [h]
                refine key _ _ ?_
                unfold secS
                omega
              · have hm10 : ¬ 10 ≤ (m + 9) % 12 := by omega
                have e := days_hi (y := y) (by omega) m1
                have E := hid e
                clear e
                go_enter Tryd.func19, Tryd.ntmps19
                go_wp2_with (first
                  | (go_at_call 26; refine (within_any _ _ _ _).mono ?_; rintro e w1 ⟨rfl, rfl⟩)
                  | (go_at_call 31; refine (Hd.out _).mono ?_; rintro e w1 ⟨rfl, rfl⟩))
                go_ret2
                refine ⟨?_, rfl⟩
                rw [H.out]
                refine ret_val ?_
                have e := E.out
                have key : ∀ a b : Int, a = b → Value.tuple #[.int .i64 a, .bool true] = Value.tuple #[.int .i64 b, .bool true] := fun a b h => by rw [h]
                refine key _ _ ?_
                unfold secS
                omega
            · have H := hid (secVal_no (y := y) (m := m) (k := k) (h := h) (mi := mi) (s := s) (by omega))
              have w6 := winB_no c6
              go_enter Tryd.func19, Tryd.ntmps19
              go_wp2_with (first
                | (go_at_call 26; refine (within_any _ _ _ _).mono ?_; rintro e w1 ⟨rfl, rfl⟩)
                | (go_at_call 31; refine (Hd.out _).mono ?_; rintro e w1 ⟨rfl, rfl⟩))
              go_ret2
              exact ⟨ret_val H.out.symm, rfl⟩
          · have H := hid (secVal_no (y := y) (m := m) (k := k) (h := h) (mi := mi) (s := s) (by omega))
            have w5 := winB_no c5
            go_enter Tryd.func19, Tryd.ntmps19
            go_wp2_with (first
              | (go_at_call 26; refine (within_any _ _ _ _).mono ?_; rintro e w1 ⟨rfl, rfl⟩)
              | (go_at_call 31; refine (Hd.out _).mono ?_; rintro e w1 ⟨rfl, rfl⟩))
            go_ret2
            exact ⟨ret_val H.out.symm, rfl⟩
        · have H := hid (secVal_no (y := y) (m := m) (k := k) (h := h) (mi := mi) (s := s) (by omega))
          have w4 := winB_no c4
          go_enter Tryd.func19, Tryd.ntmps19
          go_wp2_with (first
            | (go_at_call 26; refine (within_any _ _ _ _).mono ?_; rintro e w1 ⟨rfl, rfl⟩)
            | (go_at_call 31; refine (Hd.out _).mono ?_; rintro e w1 ⟨rfl, rfl⟩))
          go_ret2
          exact ⟨ret_val H.out.symm, rfl⟩
      · have H := hid (secVal_no (y := y) (m := m) (k := k) (h := h) (mi := mi) (s := s) (by omega))
        have w3 := winB_no c3
        go_enter Tryd.func19, Tryd.ntmps19
        go_wp2_with (first
          | (go_at_call 26; refine (within_any _ _ _ _).mono ?_; rintro e w1 ⟨rfl, rfl⟩)
          | (go_at_call 31; refine (Hd.out _).mono ?_; rintro e w1 ⟨rfl, rfl⟩))
        go_ret2
        exact ⟨ret_val H.out.symm, rfl⟩
    · have H := hid (secVal_no (y := y) (m := m) (k := k) (h := h) (mi := mi) (s := s) (by omega))
      have w2 := winB_no c2
      go_enter Tryd.func19, Tryd.ntmps19
      go_wp2_with (first
        | (go_at_call 26; refine (within_any _ _ _ _).mono ?_; rintro e w1 ⟨rfl, rfl⟩)
        | (go_at_call 31; refine (Hd.out _).mono ?_; rintro e w1 ⟨rfl, rfl⟩))
      go_ret2
      exact ⟨ret_val H.out.symm, rfl⟩
  · have H := hid (secVal_no (y := y) (m := m) (k := k) (h := h) (mi := mi) (s := s) (by omega))
    have w1 := winB_no c1
    go_enter Tryd.func19, Tryd.ntmps19
    go_wp2_with (go_at_call 26; refine (within_any _ _ _ _).mono ?_; rintro e w1 ⟨rfl, rfl⟩)
    go_ret2
    exact ⟨ret_val H.out.symm, rfl⟩
end Go.Proofs.YtnkfgedpdokcpaaDoor
