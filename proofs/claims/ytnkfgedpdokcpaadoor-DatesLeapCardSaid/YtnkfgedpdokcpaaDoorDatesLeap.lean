/- Walk of the law DatesLeap: the lengths of years and of their second months. -/
import Derived.Test.YtnkfgedpdokcpaaDoorAlv7
import Derived.Test.YtnkfgedpdokcpaaDoorSpec07d
import Derived.Test.YtnkfgedpdokcpaaDoorGood7
namespace Go.Proofs.YtnkfgedpdokcpaaDoor
open Go.RowKit Go.Lib Go.Proofs.Foot

set_option maxHeartbeats 2000000 in
set_option maxRecDepth 100000 in
theorem datesLeap_walk (x : Int) (wx : (Lit.int .u16 x).wf = true) (w : World) (hL : laidMetH Tryd.prog Rows.datesLeapRow.laid w) (hsh : w.ShapedOpen Tryd.prog) :
    Calls Tryd.prog 8 #[.int .u16 x] w fun e w' => e = .returned (.bool true) ∧ Below w.heap.size w w' := by
  have hmin : IntKind.u16.min = 0 := rfl
  have hmax : IntKind.u16.max = 65535 := rfl
  have hx := wf_bounds wx
  obtain ⟨n, rfl⟩ := Int.eq_ofNat_of_zero_le (show 0 ≤ x by omega)
  have G := hid (good_of hL (by kernel_rfl) (by kernel_rfl) (by kernel_rfl) hsh)
  obtain ⟨m, hm⟩ : ∃ m : Nat, (n : Int) % 9998 = (m : Int) := ⟨n % 9998, by omega⟩
  have hmb : m < 9998 := by omega
  have hnU : (n : Int) ≤ 65535 := by omega
  obtain ⟨Y, hY⟩ : ∃ Y : Nat, (m : Int) + 1 = (Y : Int) := ⟨m + 1, by omega⟩
  have y1 : 1 ≤ Y := by omega
  have y2 : Y ≤ 9998 := by omega
  have hs := befY_succ (Y : Int)
  have d2 : dimY Y 2 = 28 + lpY Y := by simp [dimY]
  have d11 : dimY Y 1 = 31 := by simp [dimY]
  have d12 : dimY ((Y : Int) + 1) 1 = 31 := by simp [dimY]
  have c1 := cumY_1 (Y : Int)
  have c2 := cumY_1 ((Y : Int) + 1)
  have bb := befY_bd (y := (Y : Int)) (by omega) (by omega)
  have bb2 := befY_bd (y := (Y : Int) + 1) (by omega) (by omega)
  obtain ⟨a, ha⟩ : ∃ a, a = secS Y 1 1 0 0 0 := ⟨_, rfl⟩
  obtain ⟨b, hb⟩ : ∃ b, b = secS ((Y : Int) + 1) 1 1 0 0 0 := ⟨_, rfl⟩
  have H1 := hid (fun w => sec_is w Y 1 1 0 0 0 (.tuple #[.int .i64 a, .bool true]) (by rw [ha]; exact okS_of (by omega) (by omega) ⟨by omega, by omega⟩ (by omega) (by omega) (by omega)))
  have H2 := hid (fun w => sec_is w ((Y : Int) + 1) 1 1 0 0 0 (.tuple #[.int .i64 b, .bool true]) (by rw [hb]; exact okS_of (by omega) (by omega) ⟨by omega, by omega⟩ (by omega) (by omega) (by omega)))
  have l01 := lpY_01 (Y : Int)
  have H4 := hid (fun w => sec_is w Y 2 30 0 0 0 (.tuple #[.int .i64 0, .bool false]) (secVal_no (by rintro ⟨_, _, ⟨_, h⟩, _⟩; omega)))
  have hba : b - a = (365 + lpY Y) * 86400 := by
    rw [ha, hb]; unfold secS; rw [c1, c2, hs]; omega
  have ab : -62135596800 ≤ a ∧ a ≤ 253402300799 := by rw [ha]; unfold secS; rw [c1]; omega
  have ab2 : -62135596800 ≤ b ∧ b ≤ 253402300800 := by rw [hb]; unfold secS; rw [c2]; omega
  have HY := hid hY
  have hcase : (Y % 4 ≠ 0 ∨ Y % 4 = 0 ∧ Y % 100 ≠ 0) ∨ (Y % 4 = 0 ∧ Y % 100 = 0 ∧ Y % 400 ≠ 0) ∨ (Y % 4 = 0 ∧ Y % 100 = 0 ∧ Y % 400 = 0) := by omega
  clear hL hsh wx hx hmin hmax ha hb hY bb bb2 d11 d12 c1 c2 hs
  rcases hcase with (h4 | ⟨h4, h100⟩) | ⟨h4, h100, h400⟩ | ⟨h4, h100, h400⟩
  · have lp : lpY Y = 0 := lpY_no (by omega)
    have e4 : ((Y : Int) % 4 == 0) = false := by rw [beq_eq_false_iff_ne]; omega
    have e400 : ((Y : Int) % 400 == 0) = false := by rw [beq_eq_false_iff_ne]; omega
    have H3 := hid (fun w => sec_is w Y 2 29 0 0 0 (.tuple #[.int .i64 0, .bool false]) (secVal_no (by rintro ⟨_, _, ⟨_, h⟩, _⟩; omega)))
    have e9 : (b - a == 31536000) = true := by rw [beq_iff_eq]; omega
    clear lp hba d2 l01 h4
    go_enter Tryd.func8, Tryd.ntmps8
    go_wp2_with fail
    rw [HY.out]
    refine (H1.out _).mono ?_
    rintro e w' ⟨rfl, rfl⟩
    go_wp2_with fail
    refine (H2.out _).mono ?_
    rintro e w' ⟨rfl, rfl⟩
    go_wp2_with fail
    refine (H3.out _).mono ?_
    rintro e w' ⟨rfl, rfl⟩
    go_wp2_with fail
    refine (H4.out _).mono ?_
    rintro e w' ⟨rfl, rfl⟩
    go_wp2_with fail
    refine (alive_any _ G.out).mono ?_
    rintro e w1 ⟨rfl, hb1⟩
    have B1 := hid hb1
    clear hb1
    go_wp2
    go_ret
    exact ⟨rfl, B1.out⟩
  · have lp : lpY Y = 1 := lpY_yes (by omega)
    have e4 : ((Y : Int) % 4 == 0) = true := by rw [beq_iff_eq]; omega
    have e100 : ((Y : Int) % 100 != 0) = true := by rw [bne_iff_ne]; omega
    have H3 := hid (fun w => sec_is w Y 2 29 0 0 0 (.tuple #[.int .i64 (secS Y 2 29 0 0 0), .bool true]) (okS_of (by omega) (by omega) ⟨by omega, by omega⟩ (by omega) (by omega) (by omega)))
    have e9 : (b - a == 31622400) = true := by rw [beq_iff_eq]; omega
    generalize secS Y 2 29 0 0 0 = q at *
    clear lp hba d2 l01 h4 h100
    go_enter Tryd.func8, Tryd.ntmps8
    go_wp2_with fail
    rw [HY.out]
    refine (H1.out _).mono ?_
    rintro e w' ⟨rfl, rfl⟩
    go_wp2_with fail
    refine (H2.out _).mono ?_
    rintro e w' ⟨rfl, rfl⟩
    go_wp2_with fail
    refine (H3.out _).mono ?_
    rintro e w' ⟨rfl, rfl⟩
    go_wp2_with fail
    refine (H4.out _).mono ?_
    rintro e w' ⟨rfl, rfl⟩
    go_wp2_with fail
    refine (alive_any _ G.out).mono ?_
    rintro e w1 ⟨rfl, hb1⟩
    have B1 := hid hb1
    clear hb1
    go_wp2
    go_ret
    exact ⟨rfl, B1.out⟩
  · have lp : lpY Y = 0 := lpY_no (by omega)
    have e4 : ((Y : Int) % 4 == 0) = true := by rw [beq_iff_eq]; omega
    have e100 : ((Y : Int) % 100 != 0) = false := by rw [bne_eq_false_iff_eq]; omega
    have e400 : ((Y : Int) % 400 == 0) = false := by rw [beq_eq_false_iff_ne]; omega
    have H3 := hid (fun w => sec_is w Y 2 29 0 0 0 (.tuple #[.int .i64 0, .bool false]) (secVal_no (by rintro ⟨_, _, ⟨_, h⟩, _⟩; omega)))
    have e9 : (b - a == 31536000) = true := by rw [beq_iff_eq]; omega
    clear lp hba d2 l01 h4 h100 h400
    go_enter Tryd.func8, Tryd.ntmps8
    go_wp2_with fail
    rw [HY.out]
    refine (H1.out _).mono ?_
    rintro e w' ⟨rfl, rfl⟩
    go_wp2_with fail
    refine (H2.out _).mono ?_
    rintro e w' ⟨rfl, rfl⟩
    go_wp2_with fail
    refine (H3.out _).mono ?_
    rintro e w' ⟨rfl, rfl⟩
    go_wp2_with fail
    refine (H4.out _).mono ?_
    rintro e w' ⟨rfl, rfl⟩
    go_wp2_with fail
    refine (alive_any _ G.out).mono ?_
    rintro e w1 ⟨rfl, hb1⟩
    have B1 := hid hb1
    clear hb1
    go_wp2
    go_ret
    exact ⟨rfl, B1.out⟩
  · have lp : lpY Y = 1 := lpY_yes (by omega)
    have e4 : ((Y : Int) % 4 == 0) = true := by rw [beq_iff_eq]; omega
    have e100 : ((Y : Int) % 100 != 0) = false := by rw [bne_eq_false_iff_eq]; omega
    have e400 : ((Y : Int) % 400 == 0) = true := by rw [beq_iff_eq]; omega
    have H3 := hid (fun w => sec_is w Y 2 29 0 0 0 (.tuple #[.int .i64 (secS Y 2 29 0 0 0), .bool true]) (okS_of (by omega) (by omega) ⟨by omega, by omega⟩ (by omega) (by omega) (by omega)))
    have e9 : (b - a == 31622400) = true := by rw [beq_iff_eq]; omega
    generalize secS Y 2 29 0 0 0 = q at *
    clear lp hba d2 l01 h4 h100 h400
    go_enter Tryd.func8, Tryd.ntmps8
    go_wp2_with fail
    rw [HY.out]
    refine (H1.out _).mono ?_
    rintro e w' ⟨rfl, rfl⟩
    go_wp2_with fail
    refine (H2.out _).mono ?_
    rintro e w' ⟨rfl, rfl⟩
    go_wp2_with fail
    refine (H3.out _).mono ?_
    rintro e w' ⟨rfl, rfl⟩
    go_wp2_with fail
    refine (H4.out _).mono ?_
    rintro e w' ⟨rfl, rfl⟩
    go_wp2_with fail
    refine (alive_any _ G.out).mono ?_
    rintro e w1 ⟨rfl, hb1⟩
    have B1 := hid hb1
    clear hb1
    go_wp2
    go_ret
    exact ⟨rfl, B1.out⟩
end Go.Proofs.YtnkfgedpdokcpaaDoor
