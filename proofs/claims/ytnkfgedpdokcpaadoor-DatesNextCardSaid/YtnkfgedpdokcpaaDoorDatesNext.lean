/- Walk of the law DatesNext: a day later it is the next day. -/
import Derived.Test.YtnkfgedpdokcpaaDoorAlv7
import Derived.Test.YtnkfgedpdokcpaaDoorSpec07d
import Derived.Test.YtnkfgedpdokcpaaDoorGood7
namespace Go.Proofs.YtnkfgedpdokcpaaDoor
open Go.RowKit Go.Lib Go.Proofs.Foot

theorem beq_yes {a b : Int} (h : a = b) : (a == b) = true := by rw [beq_iff_eq]; exact h
theorem beq_no {a b : Int} (h : a ≠ b) : (a == b) = false := by rw [beq_eq_false_iff_ne]; exact h

set_option maxHeartbeats 2000000 in
set_option maxRecDepth 100000 in
theorem datesNext_walk (x : Int) (wx : (Lit.int .u64 x).wf = true) (w : World) (hL : laidMetH Tryd.prog Rows.datesNextRow.laid w) (hsh : w.ShapedOpen Tryd.prog) :
    Calls Tryd.prog 7 #[.int .u64 x] w fun e w' => e = .returned (.bool true) ∧ Below w.heap.size w w' := by
  have hmin : IntKind.u64.min = 0 := rfl
  have hmax : IntKind.u64.max = 18446744073709551615 := rfl
  have hx := wf_bounds wx
  obtain ⟨n, rfl⟩ := Int.eq_ofNat_of_zero_le (show 0 ≤ x by omega)
  have G := hid (good_of hL (by kernel_rfl) (by kernel_rfl) (by kernel_rfl) hsh)
  obtain ⟨m, hm⟩ : ∃ m : Nat, (n : Int) % 315537811200 = (m : Int) := ⟨n % 315537811200, by omega⟩
  have hmb : m < 315537811200 := by omega
  have hnU : (n : Int) ≤ 18446744073709551615 := by omega
  obtain ⟨k, hk⟩ : ∃ k, k = (m : Int) - 62135596800 := ⟨_, rfl⟩
  obtain ⟨Y, M, K, W, D⟩ := dayIs_of k (by omega) (by omega)
  obtain ⟨Y', M', K', W', D'⟩ := dayIs_of (k + 86400) (by omega) (by omega)
  have HD := hid (fun w => day_is w k _ D.val)
  have HD' := hid (fun w => day_is w (k + 86400) _ D'.val)
  have hdn : dayN (k + 86400) = dayN k + 1 := by unfold dayN; omega
  have hN := IsDay.next D.day
  have hdim := dimY_bd Y M
  have hD' := D'.day
  rw [hdn] at hD'
  have hw := D.wk
  have hw' := D'.wk
  rw [hdn] at hw'
  have y1 := D.y1; have y2 := D.y2; have m1 := D.m1; have m2 := D.m2; have k1 := D.k1; have k2 := D.k2; have w7 := D.w7
  have y1' := D'.y1; have y2' := D'.y2; have m1' := D'.m1; have m2' := D'.m2; have k1' := D'.k1; have k2' := D'.k2; have w7' := D'.w7
  have eW : ((W' : Int) == ((W : Int) + 1) % 7) = true := beq_yes (by omega)
  have Hk := hid hk
  have bk : -62135596800 ≤ k ∧ k ≤ 253402214399 := by omega
  have hcase : ((Y' : Int) = Y ∧ (M' : Int) = M ∧ (K' : Int) = K + 1) ∨ ((Y' : Int) = Y ∧ (M' : Int) = M + 1 ∧ (K' : Int) = 1 ∧ 28 ≤ (K : Int)) ∨ ((Y' : Int) = Y + 1 ∧ (M : Int) = 12 ∧ (M' : Int) = 1 ∧ (K : Int) = 31 ∧ (K' : Int) = 1) := by
    rcases hN with ⟨_, h⟩ | ⟨e, _, h⟩ | ⟨e1, e2, h⟩
    · left; exact hD'.unique h
    · right; left
      obtain ⟨a, b, c⟩ := hD'.unique h
      exact ⟨a, b, c, by omega⟩
    · right; right
      obtain ⟨a, b, c⟩ := hD'.unique h
      exact ⟨a, e2, b, e1, c⟩
  clear hL hsh wx hx hmin hmax D D' hdim hN hD' hw hw' hk hdn
  rcases hcase with ⟨a, b, c⟩ | ⟨a, b, c, d⟩ | ⟨a, b, c, d, e⟩
  · have e1 : ((Y' : Int) == (Y : Int)) = true := beq_yes a
    have e2 : ((M' : Int) == (M : Int)) = true := beq_yes b
    have e3 : ((K' : Int) == (K : Int) + 1) = true := beq_yes c
    have e4 : ((K' : Int) == 1) = false := beq_no (by omega)
    clear a b c
    go_enter Tryd.func7, Tryd.ntmps7
    go_wp2_with fail
    rw [← Hk.out]
    refine (HD.out _).mono ?_
    rintro e w' ⟨rfl, rfl⟩
    go_wp2_with fail
    refine (HD'.out _).mono ?_
    rintro e w' ⟨rfl, rfl⟩
    go_wp2_with fail
    refine (alive_any _ G.out).mono ?_
    rintro e w1 ⟨rfl, hb1⟩
    have B1 := hid hb1
    clear hb1
    go_wp2
    go_ret
    exact ⟨rfl, B1.out⟩
  · have e1 : ((Y' : Int) == (Y : Int)) = true := beq_yes a
    have e2 : ((M' : Int) == (M : Int)) = false := beq_no (by omega)
    have e3 : ((M' : Int) == (M : Int) + 1) = true := beq_yes b
    have e4 : ((K' : Int) == 1) = true := beq_yes c
    have e5 : (K : Int) ≥ 28 := d
    clear a b c
    go_enter Tryd.func7, Tryd.ntmps7
    go_wp2_with fail
    rw [← Hk.out]
    refine (HD.out _).mono ?_
    rintro e w' ⟨rfl, rfl⟩
    go_wp2_with fail
    refine (HD'.out _).mono ?_
    rintro e w' ⟨rfl, rfl⟩
    go_wp2_with fail
    refine (alive_any _ G.out).mono ?_
    rintro e w1 ⟨rfl, hb1⟩
    have B1 := hid hb1
    clear hb1
    go_wp2
    go_ret
    exact ⟨rfl, B1.out⟩
  · have e1 : ((Y' : Int) == (Y : Int)) = false := beq_no (by omega)
    have e2 : ((Y' : Int) == (Y : Int) + 1) = true := beq_yes a
    have e3 : ((M : Int) == 12) = true := beq_yes b
    have e4 : ((M' : Int) == 1) = true := beq_yes c
    have e5 : ((K : Int) == 31) = true := beq_yes d
    have e6 : ((K' : Int) == 1) = true := beq_yes e
    have e7 : (K : Int) ≥ 28 := by omega
    clear a b c d e
    go_enter Tryd.func7, Tryd.ntmps7
    go_wp2_with fail
    rw [← Hk.out]
    refine (HD.out _).mono ?_
    rintro e w' ⟨rfl, rfl⟩
    go_wp2_with fail
    refine (HD'.out _).mono ?_
    rintro e w' ⟨rfl, rfl⟩
    go_wp2_with fail
    refine (alive_any _ G.out).mono ?_
    rintro e w1 ⟨rfl, hb1⟩
    have B1 := hid hb1
    clear hb1
    go_wp2
    go_ret
    exact ⟨rfl, B1.out⟩
end Go.Proofs.YtnkfgedpdokcpaaDoor
