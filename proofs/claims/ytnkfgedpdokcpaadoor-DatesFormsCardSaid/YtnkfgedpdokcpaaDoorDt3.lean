/- Walk: Seconds of the reference. -/
import Derived.Test.YtnkfgedpdokcpaaDoorDt2
namespace Go.Proofs.YtnkfgedpdokcpaaDoor
open Go.RowKit Go.Lib Go.Proofs.Foot

set_option maxHeartbeats 2000000 in
set_option maxRecDepth 100000 in
theorem secondsR_any (y m k h mi s : Int) (w : World) :
    Calls Tryd.prog 25 #[.int .i64 y, .int .i64 m, .int .i64 k, .int .i64 h, .int .i64 mi, .int .i64 s] w fun e w' => e = .returned (secVal y m k h mi s) ∧ w = w' := by
  by_cases c1 : 1 ≤ y ∧ y ≤ 9999
  · have a1 : ¬ y < 1 := by omega
    have b1 : ¬ y > 9999 := by omega
    have hd := fun j w => daysR_any y j (by omega) (by omega) w
    have Hd := hid hd
    have hb := beforeR_any y (by omega) (by omega)
    have Hbf := hid hb
    clear hd hb
    by_cases c2 : 1 ≤ m ∧ m ≤ 12
    · have a2 : ¬ m < 1 := by omega
      have b2 : ¬ m > 12 := by omega
      by_cases c3 : 1 ≤ k ∧ k ≤ dimY y m
      · have a3 : ¬ k < 1 := by omega
        have b3 : ¬ k > dimY y m := by omega
        by_cases c4 : 0 ≤ h ∧ h ≤ 23
        · have a4 : ¬ h < 0 := by omega
          have b4 : ¬ h > 23 := by omega
          by_cases c5 : 0 ≤ mi ∧ mi ≤ 59
          · have a5 : ¬ mi < 0 := by omega
            have b5 : ¬ mi > 59 := by omega
            by_cases c6 : 0 ≤ s ∧ s ≤ 59
            · have a6 : ¬ s < 0 := by omega
              have b6 : ¬ s > 59 := by omega
              have H := hid (secVal_yes ⟨c1, c2, c3, c4, c5, c6⟩)
              have hdim := dimY_bd y m
              have hbf := befY_bd (y := y) (by omega) (by omega)
              obtain ⟨y0, y1⟩ := c1
              obtain ⟨m0, m1⟩ := c2
              obtain ⟨k0, k1⟩ := c3
              obtain ⟨h0, h1⟩ := c4
              obtain ⟨i0, i1⟩ := c5
              obtain ⟨s0, s1⟩ := c6
              have k31 : k ≤ 31 := by omega
              go_enter Tryd.func25, Tryd.ntmps25
              go_wp2_with (first
                | (go_at_call 39; refine (Hd.out _ _).mono ?_; rintro e w1 ⟨rfl, rfl⟩)
                | (go_at_call 40; refine (Hbf.out _).mono ?_; rintro e w1 ⟨rfl, rfl⟩))
              go_loop [14, 15] (fun a b => ∃ j : Int, 1 ≤ j ∧ j ≤ m ∧ b = .int .i64 j ∧ a = .int .i64 (befY y + cumY y j + k - 1)) (fun _ b => (m - intOf b).toNat)
              case atStart => exact ⟨1, by omega, by omega, rfl, by rw [cumY_1]; go_num⟩
              case round =>
                obtain ⟨j, j0, j1, rfl, rfl⟩ := hrel
                have hcb := cumY_bd (y := y) j0 (by omega)
                have hdj := dimY_bd y j
                by_cases hlt : j < m
                · have hs := hid (cumY_succ (y := y) j0 (by omega))
                  go_wp2_with (go_at_call 39; refine (Hd.out _ _).mono ?_; rintro e w1 ⟨rfl, rfl⟩)
                  go_round
                  case rel => exact ⟨j + 1, by omega, by omega, rfl, by rw [hs.out]; go_num⟩
                  case measure => simp [intOf]; omega
                · obtain rfl : j = m := by omega
                  go_wp2
                  go_ret2
                  refine ⟨?_, rfl⟩
                  rw [H.out]
                  refine ret_val ?_
                  have key : ∀ a b : Int, a = b → Value.tuple #[.int .i64 a, .bool true] = Value.tuple #[.int .i64 b, .bool true] := fun a b h => by rw [h]
                  refine key _ _ ?_
                  unfold secS
                  omega
            · have H := hid (secVal_no (y := y) (m := m) (k := k) (h := h) (mi := mi) (s := s) (by omega))
              by_cases a6 : s < 0
              · go_enter Tryd.func25, Tryd.ntmps25
                go_wp2_with (first
                  | (go_at_call 39; refine (Hd.out _ _).mono ?_; rintro e w1 ⟨rfl, rfl⟩)
                  | (go_at_call 40; refine (Hbf.out _).mono ?_; rintro e w1 ⟨rfl, rfl⟩))
                go_ret2
                exact ⟨ret_val H.out.symm, rfl⟩
              · have b6 : s > 59 := by omega
                go_enter Tryd.func25, Tryd.ntmps25
                go_wp2_with (first
                  | (go_at_call 39; refine (Hd.out _ _).mono ?_; rintro e w1 ⟨rfl, rfl⟩)
                  | (go_at_call 40; refine (Hbf.out _).mono ?_; rintro e w1 ⟨rfl, rfl⟩))
                go_ret2
                exact ⟨ret_val H.out.symm, rfl⟩
          · have H := hid (secVal_no (y := y) (m := m) (k := k) (h := h) (mi := mi) (s := s) (by omega))
            by_cases a5 : mi < 0
            · go_enter Tryd.func25, Tryd.ntmps25
              go_wp2_with (first
                | (go_at_call 39; refine (Hd.out _ _).mono ?_; rintro e w1 ⟨rfl, rfl⟩)
                | (go_at_call 40; refine (Hbf.out _).mono ?_; rintro e w1 ⟨rfl, rfl⟩))
              go_ret2
              exact ⟨ret_val H.out.symm, rfl⟩
            · have b5 : mi > 59 := by omega
              go_enter Tryd.func25, Tryd.ntmps25
              go_wp2_with (first
                | (go_at_call 39; refine (Hd.out _ _).mono ?_; rintro e w1 ⟨rfl, rfl⟩)
                | (go_at_call 40; refine (Hbf.out _).mono ?_; rintro e w1 ⟨rfl, rfl⟩))
              go_ret2
              exact ⟨ret_val H.out.symm, rfl⟩
        · have H := hid (secVal_no (y := y) (m := m) (k := k) (h := h) (mi := mi) (s := s) (by omega))
          by_cases a4 : h < 0
          · go_enter Tryd.func25, Tryd.ntmps25
            go_wp2_with (first
              | (go_at_call 39; refine (Hd.out _ _).mono ?_; rintro e w1 ⟨rfl, rfl⟩)
              | (go_at_call 40; refine (Hbf.out _).mono ?_; rintro e w1 ⟨rfl, rfl⟩))
            go_ret2
            exact ⟨ret_val H.out.symm, rfl⟩
          · have b4 : h > 23 := by omega
            go_enter Tryd.func25, Tryd.ntmps25
            go_wp2_with (first
              | (go_at_call 39; refine (Hd.out _ _).mono ?_; rintro e w1 ⟨rfl, rfl⟩)
              | (go_at_call 40; refine (Hbf.out _).mono ?_; rintro e w1 ⟨rfl, rfl⟩))
            go_ret2
            exact ⟨ret_val H.out.symm, rfl⟩
      · have H := hid (secVal_no (y := y) (m := m) (k := k) (h := h) (mi := mi) (s := s) (by omega))
        by_cases a3 : k < 1
        · go_enter Tryd.func25, Tryd.ntmps25
          go_wp2_with (first
            | (go_at_call 39; refine (Hd.out _ _).mono ?_; rintro e w1 ⟨rfl, rfl⟩)
            | (go_at_call 40; refine (Hbf.out _).mono ?_; rintro e w1 ⟨rfl, rfl⟩))
          go_ret2
          exact ⟨ret_val H.out.symm, rfl⟩
        · have b3 : k > dimY y m := by omega
          go_enter Tryd.func25, Tryd.ntmps25
          go_wp2_with (first
            | (go_at_call 39; refine (Hd.out _ _).mono ?_; rintro e w1 ⟨rfl, rfl⟩)
            | (go_at_call 40; refine (Hbf.out _).mono ?_; rintro e w1 ⟨rfl, rfl⟩))
          go_ret2
          exact ⟨ret_val H.out.symm, rfl⟩
    · have H := hid (secVal_no (y := y) (m := m) (k := k) (h := h) (mi := mi) (s := s) (by omega))
      by_cases a2 : m < 1
      · go_enter Tryd.func25, Tryd.ntmps25
        go_wp2_with (first
          | (go_at_call 39; refine (Hd.out _ _).mono ?_; rintro e w1 ⟨rfl, rfl⟩)
          | (go_at_call 40; refine (Hbf.out _).mono ?_; rintro e w1 ⟨rfl, rfl⟩))
        go_ret2
        exact ⟨ret_val H.out.symm, rfl⟩
      · have b2 : m > 12 := by omega
        go_enter Tryd.func25, Tryd.ntmps25
        go_wp2_with (first
          | (go_at_call 39; refine (Hd.out _ _).mono ?_; rintro e w1 ⟨rfl, rfl⟩)
          | (go_at_call 40; refine (Hbf.out _).mono ?_; rintro e w1 ⟨rfl, rfl⟩))
        go_ret2
        exact ⟨ret_val H.out.symm, rfl⟩
  · have H := hid (secVal_no (y := y) (m := m) (k := k) (h := h) (mi := mi) (s := s) (by omega))
    by_cases a1 : y < 1
    · go_enter Tryd.func25, Tryd.ntmps25
      go_wp2
      go_ret2
      exact ⟨ret_val H.out.symm, rfl⟩
    · have b1 : y > 9999 := by omega
      go_enter Tryd.func25, Tryd.ntmps25
      go_wp2
      go_ret2
      exact ⟨ret_val H.out.symm, rfl⟩
end Go.Proofs.YtnkfgedpdokcpaaDoor
