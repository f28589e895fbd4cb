/- Walk of the law DatesBegin: a day begins at the seconds that its numbers tell. -/
import Derived.Test.YtnkfgedpdokcpaaDoorAlv7
import Derived.Test.YtnkfgedpdokcpaaDoorSpec07d
import Derived.Test.YtnkfgedpdokcpaaDoorGood7
namespace Go.Proofs.YtnkfgedpdokcpaaDoor
open Go.RowKit Go.Lib Go.Proofs.Foot

set_option maxHeartbeats 1000000 in
set_option maxRecDepth 100000 in
theorem datesBegin_walk (x : Int) (wx : (Lit.int .u64 x).wf = true) (w : World) (hL : laidMetH Tryd.prog Rows.datesBeginRow.laid w) (hsh : w.ShapedOpen Tryd.prog) :
    Calls Tryd.prog 6 #[.int .u64 x] w fun e w' => e = .returned (.bool true) ∧ Below w.heap.size w w' := by
  have hmin : IntKind.u64.min = 0 := rfl
  have hmax : IntKind.u64.max = 18446744073709551615 := rfl
  have hx := wf_bounds wx
  obtain ⟨n, rfl⟩ := Int.eq_ofNat_of_zero_le (show 0 ≤ x by omega)
  have G := hid (good_of hL (by kernel_rfl) (by kernel_rfl) (by kernel_rfl) hsh)
  obtain ⟨m, hm⟩ : ∃ m : Nat, (n : Int) % 315537897600 = (m : Int) := ⟨n % 315537897600, by omega⟩
  have hmb : m < 315537897600 := by omega
  have hnU : (n : Int) ≤ 18446744073709551615 := by omega
  obtain ⟨k, hk⟩ : ∃ k, k = (m : Int) - 62135596800 := ⟨_, rfl⟩
  obtain ⟨Y, M, K, W, D⟩ := dayIs_of k (by omega) (by omega)
  have HD := hid (fun w => day_is w k _ D.val)
  have hS := dayIs_sec D
  have hdim := D.day.k2
  have y1 := D.y1; have y2 := D.y2; have m1 := D.m1; have m2 := D.m2; have k1 := D.k1; have k2 := D.k2; have w7 := D.w7
  obtain ⟨a, ha⟩ : ∃ a, a = secS Y M K 0 0 0 := ⟨_, rfl⟩
  obtain ⟨b, hb⟩ : ∃ b, b = secS Y M K 23 59 59 := ⟨_, rfl⟩
  have H1 := hid (fun w => sec_is w Y M K 0 0 0 (.tuple #[.int .i64 a, .bool true]) (by rw [ha]; exact okS_of (by omega) (by omega) ⟨by omega, hdim⟩ (by omega) (by omega) (by omega)))
  have H2 := hid (fun w => sec_is w Y M K 23 59 59 (.tuple #[.int .i64 b, .bool true]) (by rw [hb]; exact okS_of (by omega) (by omega) ⟨by omega, hdim⟩ (by omega) (by omega) (by omega)))
  rw [← ha, ← hb] at hS
  obtain ⟨s1, s2⟩ := hS
  have c1 : a ≤ k := by rw [s1]; unfold dayN; omega
  have c2 : k ≤ b := by rw [s2]; unfold dayN; omega
  have c0 : -62135596800 ≤ a := by rw [s1]; unfold dayN; omega
  have c9 : a ≤ 253402300799 := by omega
  have cb : (b == a + 86399) = true := by rw [beq_iff_eq]; omega
  have Hk := hid hk
  have bk : -62135596800 ≤ k ∧ k ≤ 253402300799 := by omega
  clear hL hsh wx hx hmin hmax D hdim ha hb s1 s2 hk
  go_enter Tryd.func6, Tryd.ntmps6
  go_wp2_with fail
  rw [← Hk.out]
  refine (HD.out _).mono ?_
  rintro e w' ⟨rfl, rfl⟩
  go_wp2_with fail
  refine (H1.out _).mono ?_
  rintro e w' ⟨rfl, rfl⟩
  go_wp2_with fail
  refine (H2.out _).mono ?_
  rintro e w' ⟨rfl, rfl⟩
  go_wp2_with fail
  refine (alive_any _ G.out).mono ?_
  rintro e w1 ⟨rfl, hb1⟩
  have B1 := hid hb1
  clear hb1
  go_wp2
  go_ret
  exact ⟨ret_bool (decide_eq_true (by omega)), B1.out⟩
end Go.Proofs.YtnkfgedpdokcpaaDoor
