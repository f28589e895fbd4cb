/- Walk: Day of the reference. -/
import Derived.Test.YtnkfgedpdokcpaaDoorDt2
namespace Go.Proofs.YtnkfgedpdokcpaaDoor
open Go.RowKit Go.Lib Go.Proofs.Foot

/-- The number of a day, from its seconds: 0 is the first of January of the year 1. -/
def dayN (n : Int) : Int := (n + 62135596800) / 86400
/-- What Day answers. -/
def dayVal (n : Int) : Value :=
  if -62135596800 ≤ n ∧ n ≤ 253402300799 then .tuple #[.int .i64 (pYear (dayN n + 306)), .int .i64 (pMonth (dayN n + 306)), .int .i64 (pDay (dayN n + 306)), .int .i64 ((dayN n + 1) % 7)]
  else .tuple #[.int .i64 0, .int .i64 0, .int .i64 0, .int .i64 0]
theorem dayVal_of {n d y m k wk : Int} (h0 : -62135596800 ≤ n) (h1 : n ≤ 253402300799) (hd : dayN n = d) (hk : (d + 1) % 7 = wk) (h : IsDay d y m k) : dayVal n = .tuple #[.int .i64 y, .int .i64 m, .int .i64 k, .int .i64 wk] := by
  have d0 : 0 ≤ d := by unfold dayN at hd; omega
  obtain ⟨rfl, rfl, rfl⟩ := h.unique (prog_isDay d0)
  subst hd hk
  exact if_pos ⟨h0, h1⟩
theorem dayVal_no {n : Int} (h : ¬ (-62135596800 ≤ n ∧ n ≤ 253402300799)) : dayVal n = .tuple #[.int .i64 0, .int .i64 0, .int .i64 0, .int .i64 0] := if_neg h
theorem results_tmp4 {fn : Func} {t u v x : Tmp} (h : fn.results = #[.tmp t, .tmp u, .tmp v, .tmp x]) (tmps : Array Value) (P : Program) (w : World) :
    (results fn tmps).run P w = .ok (.tuple #[tmps.getD t undef, tmps.getD u undef, tmps.getD v undef, tmps.getD x undef]) w := by simp [results, h]

set_option maxHeartbeats 1000000 in
set_option maxRecDepth 100000 in
theorem dayR_any (n : Int) (w : World) :
    Calls Tryd.prog 28 #[.int .i64 n] w fun e w' => e = .returned (dayVal n) ∧ w = w' := by
  by_cases h0 : n < -62135596800
  · have H := hid (dayVal_no (n := n) (by omega))
    go_enter Tryd.func28, Tryd.ntmps28
    go_wp2
    refine bodyPost_ret (results_tmp4 rfl _ _ _) rfl ?_
    exact ⟨ret_val H.out.symm, rfl⟩
  · by_cases h1 : n > 253402300799
    · have H := hid (dayVal_no (n := n) (by omega))
      go_enter Tryd.func28, Tryd.ntmps28
      go_wp2
      refine bodyPost_ret (results_tmp4 rfl _ _ _) rfl ?_
      exact ⟨ret_val H.out.symm, rfl⟩
    · have g0 : 0 ≤ n + 62135596800 := by omega
      have G := hid (guess_le (d := dayN n) (by unfold dayN; omega))
      have hd3 : dayN n ≤ 3652058 := by unfold dayN; omega
      have hd0 : 0 ≤ dayN n := by unfold dayN; omega
      obtain ⟨d, hd⟩ : ∃ d, dayN n = d := ⟨_, rfl⟩
      rw [hd] at G hd3 hd0
      have Hd := hid hd
      have hn0 : -62135596800 ≤ n := by omega
      have hn1 : n ≤ 253402300799 := by omega
      have e1 : (n + 62135596800) / 86400 = d := hd
      clear hd
      have E1 := hid e1
      clear e1
      go_enter Tryd.func28, Tryd.ntmps28
      go_wp2
      rw [E1.out]
      clear E1 h0 h1 g0
      go_loop [7] (fun t => ∃ y : Int, 1 ≤ y ∧ y ≤ 9999 ∧ befY y ≤ d ∧ t = .int .i64 y) (fun t => (9999 - intOf t).toNat)
      case atStart => exact ⟨_, by omega, by omega, G.out, rfl⟩
      case round =>
        obtain ⟨y, hy1, hy2, hy3, rfl⟩ := hrel
        have hbd := befY_bd (y := y + 1) (by omega) (by omega)
        by_cases hc : befY (y + 1) ≤ d
        · have hlt : y < 9999 := by
            rcases Int.lt_or_le y 9999 with h | h
            · exact h
            · obtain rfl : y = 9999 := by omega
              have := befY_10000
              have e : (9999 : Int) + 1 = 10000 := rfl
              rw [e, this] at hc; omega
          go_wp2_with (go_at_call 40; refine (beforeR_any _ (by omega) (by omega) _).mono ?_; rintro e w' ⟨rfl, rfl⟩)
          go_round
          case rel => exact ⟨y + 1, by omega, by omega, hc, rfl⟩
          case measure => simp [intOf]; omega
        · have hb0 := befY_bd (y := y) (by omega) (by omega)
          have hs := hid (befY_succ y)
          have hl := lpY_01 y
          go_wp2_with (go_at_call 40; refine (beforeR_any _ (by omega) (by omega) _).mono ?_; rintro e w' ⟨rfl, rfl⟩)
          go_loop [8, 9] (fun r k => ∃ m : Int, 1 ≤ m ∧ m ≤ 12 ∧ k = .int .i64 m ∧ 0 ≤ d - befY y - cumY y m ∧ r = .int .i64 (d - befY y - cumY y m)) (fun _ k => (12 - intOf k).toNat)
          case atStart => exact ⟨1, by omega, by omega, rfl, by rw [cumY_1]; omega, by rw [cumY_1]; go_num⟩
          case round =>
            obtain ⟨m, hm1, hm2, rfl, hr, rfl⟩ := hrel
            have cb := cumY_bd (y := y) hm1 hm2
            have db := dimY_bd y m
            have cs := hid (cumY_succ (y := y) hm1 hm2)
            by_cases hc2 : d - befY y - cumY y m ≥ dimY y m
            · have hm : m < 12 := by
                rcases Int.lt_or_le m 12 with h | h
                · exact h
                · obtain rfl : m = 12 := by omega
                  have e1 := cs.out
                  have e2 := cumY_13 y
                  have e3 := hs.out
                  have e : (12 : Int) + 1 = 13 := rfl
                  rw [e, e2] at e1; omega
              go_wp2_with (go_at_call 39; refine (daysR_any _ _ (by omega) (by omega) _).mono ?_; rintro e w' ⟨rfl, rfl⟩)
              go_round
              case rel => exact ⟨m + 1, by omega, by omega, rfl, by rw [cs.out]; omega, by rw [cs.out]; go_num⟩
              case measure => simp [intOf]; omega
            · go_wp2_with (go_at_call 39; refine (daysR_any _ _ (by omega) (by omega) _).mono ?_; rintro e w' ⟨rfl, rfl⟩)
              refine bodyPost_ret (results_tmp4 rfl _ _ _) rfl ?_
              refine ⟨ret_val ?_, rfl⟩
              exact (dayVal_of hn0 hn1 Hd.out rfl ⟨hm1, hm2, by omega, by omega, by omega⟩).symm
end Go.Proofs.YtnkfgedpdokcpaaDoor
