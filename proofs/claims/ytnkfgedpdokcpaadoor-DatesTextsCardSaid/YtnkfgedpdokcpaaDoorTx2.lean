/- Walks: the reference's digits and Text. -/
import Derived.Test.YtnkfgedpdokcpaaDoorTx1
import Derived.Deep.QuietTactic
import Derived.BigQuiet
namespace Go.Proofs.YtnkfgedpdokcpaaDoor
open Go.RowKit Go.Lib Go.Proofs.Foot

def tenT : ByteArray := ⟨#[48, 49, 50, 51, 52, 53, 54, 55, 56, 57]⟩
theorem ten_at (d : Nat) (h : d < 10) (a b : Nat) (ha : a = d) (hb : b = d + 1) : (tenT.extract a b).data.toList = [dgt d] := by
  rw [ha, hb]
  have : ∀ d < 10, (tenT.extract d (d + 1)).data.toList = [dgt d] := by decide +kernel
  exact this d h
theorem slice_ten (d : Nat) (h : d < 10) : ∃ T : ByteArray, T.data.toList = [dgt d] ∧ T.size = 1 ∧ ∀ V, (Instr.slice 9 (.string ⟨#[48, 49, 50, 51, 52, 53, 54, 55, 56, 57]⟩) (some (.int .i64 (d : Int))) (some (.int .i64 ((d : Int) + 1))) none).run Tryd.prog V = .ok (.string T) V := by
  have hl := ten_at d h (d : Int).toNat ((d : Int) + 1).toNat (by omega) (by omega)
  exact ⟨_, hl, by rw [Lib.size_eq, hl]; rfl, fun V => run_slice_string V _ _ _ _ _ _ Tryd.underlying9 (by omega) (by omega) (by show (d : Int) + 1 ≤ 10; omega)⟩

set_option maxHeartbeats 1000000 in
set_option maxRecDepth 100000 in
theorem digitsR_any (a : Nat) (ha : a < 100) (w : World) :
    Calls Tryd.prog 29 #[.int .i64 a] w fun e w' => e = .returned (.string (DD a)) ∧ Below w.heap.size w w' := by
  obtain ⟨p, hp⟩ : ∃ p : Nat, p = a / 10 := ⟨_, rfl⟩
  obtain ⟨q, hq⟩ : ∃ q : Nat, q = a % 10 := ⟨_, rfl⟩
  obtain ⟨P, lP, zP, slP⟩ := slice_ten p (by omega)
  obtain ⟨Q, lQ, zQ, slQ⟩ := slice_ten q (by omega)
  have hfin : P ++ Q = DD a := by
    apply bytes_ext
    rw [cat_l, lP, lQ, hp, hq]
    show _ = [dgt (a / 10 % 10), dgt (a % 10)]
    rw [show a / 10 % 10 = a / 10 from by omega]; rfl
  have Hfin := hid hfin
  have t1 : (a : Int).tdiv 10 = (p : Int) := by rw [Int.tdiv_eq_ediv_of_nonneg (by omega)]; omega
  have t2 : (a : Int).tmod 10 = (q : Int) := by rw [Int.tmod_eq_emod_of_nonneg (by omega)]; omega
  have t3 : (p : Int).tmod 10 = (p : Int) := by rw [Int.tmod_eq_emod_of_nonneg (by omega)]; omega
  have u1 : (a : Int) / 10 = (p : Int) := by omega
  have u2 : (a : Int) % 10 = (q : Int) := by omega
  have u3 : (p : Int) % 10 = (p : Int) := by omega
  have v1 : IntKind.i64.wrap (p : Int) = (p : Int) := IntWalk.i64_in _ (by omega)
  have v2 : IntKind.i64.wrap ((p : Int) + 1) = (p : Int) + 1 := IntWalk.i64_in _ (by omega)
  have v3 : IntKind.i64.wrap ((q : Int) + 1) = (q : Int) + 1 := IntWalk.i64_in _ (by omega)
  have bp : p < 10 := by omega
  have bq : q < 10 := by omega
  clear lP lQ hfin hp hq
  go_enter Tryd.func29, Tryd.ntmps29
  go_wp2
  first
    | (go_ret; exact ⟨ret_val (by rw [← Hfin.out]; rfl), Below.refl _ _⟩)
    | (go_quiet (fail); go_wp2; go_ret; exact ⟨ret_val (by rw [← Hfin.out]; rfl), below_drewN (Below.refl _ _) _⟩)
theorem digitsR_in (a : Nat) (ha : a < 100) (w : World) :
    Calls Tryd.prog 29 #[.int .i64 a] w fun e w' => e = .returned (.string (DD a)) ∧ Below w.heap.size w w' := digitsR_any a ha w

set_option maxHeartbeats 4000000 in
set_option maxRecDepth 100000 in
theorem textR_yes (n : Nat) (hn : n ≤ 253402300799) (Y M K W : Nat) (D : DayIs (n : Int) Y M K W) (T : ByteArray) (hT : textBy n Y M K W = T.data.toList) (w : World) :
    Calls Tryd.prog 14 #[.int .i64 n] w fun e w' => e = .returned (.tuple #[.string T, .bool true]) ∧ Below w.heap.size w w' := by
  have HD := hid (fun w => dayR_any (n : Int) w)
  rw [D.val] at HD
  obtain ⟨-, -, y1, y2, m1, m2, k1, k2, w7, -⟩ := D
  obtain ⟨S, hS⟩ : ∃ S : Nat, (n : Int) % 86400 = (S : Int) := ⟨n % 86400, by omega⟩
  have hS86 : S < 86400 := by omega
  have hSn : n % 86400 = S := by omega
  obtain ⟨WN, hWN⟩ : ∃ WN : ByteArray, WN = weeksT.extract (3 * (W : Int)).toNat (3 * (W : Int) + 3).toNat := ⟨_, rfl⟩
  obtain ⟨MN, hMN⟩ : ∃ MN : ByteArray, MN = monthsT.extract (3 * (M : Int) - 3).toNat (3 * (M : Int)).toNat := ⟨_, rfl⟩
  have sl1 : ∀ V, (Instr.slice 9 (.string ⟨#[83, 117, 110, 77, 111, 110, 84, 117, 101, 87, 101, 100, 84, 104, 117, 70, 114, 105, 83, 97, 116]⟩) (some (.int .i64 (3 * (W : Int)))) (some (.int .i64 (3 * (W : Int) + 3))) none).run Tryd.prog V = .ok (.string WN) V := fun V => by
    rw [hWN]; exact run_slice_string V _ _ _ _ _ _ Tryd.underlying9 (by omega) (by omega) (by show 3 * (W : Int) + 3 ≤ 21; omega)
  have sl2 : ∀ V, (Instr.slice 9 (.string ⟨#[74, 97, 110, 70, 101, 98, 77, 97, 114, 65, 112, 114, 77, 97, 121, 74, 117, 110, 74, 117, 108, 65, 117, 103, 83, 101, 112, 79, 99, 116, 78, 111, 118, 68, 101, 99]⟩) (some (.int .i64 (3 * (M : Int) - 3))) (some (.int .i64 (3 * (M : Int)))) none).run Tryd.prog V = .ok (.string MN) V := fun V => by
    rw [hMN]; exact run_slice_string V _ _ _ _ _ _ Tryd.underlying9 (by omega) (by omega) (by show 3 * (M : Int) ≤ 36; omega)
  have lW : WN.data.toList = weekName W := by rw [hWN]; exact weeks_at W w7 _ _ (by omega) (by omega)
  have lM : MN.data.toList = monName (M - 1) := by rw [hMN]; exact mons_at M m1 m2 _ _ (by omega) (by omega)
  have zW : WN.size = 3 := by
    rw [Lib.size_eq, lW]
    have : ∀ W < 7, (weekName W).length = 3 := by decide +kernel
    exact this W w7
  have zM : MN.size = 3 := by
    rw [Lib.size_eq, lM]
    have : ∀ M < 12, (monName M).length = 3 := by decide +kernel
    exact this (M - 1) (by omega)
  obtain ⟨A2, hA2⟩ : ∃ A : Nat, A = Y / 100 := ⟨_, rfl⟩
  obtain ⟨A3, hA3⟩ : ∃ A : Nat, A = Y % 100 := ⟨_, rfl⟩
  obtain ⟨A4, hA4⟩ : ∃ A : Nat, A = S / 3600 := ⟨_, rfl⟩
  obtain ⟨A7, hA7⟩ : ∃ A : Nat, A = S / 60 := ⟨_, rfl⟩
  obtain ⟨A5, hA5⟩ : ∃ A : Nat, A = A7 % 60 := ⟨_, rfl⟩
  obtain ⟨A6, hA6⟩ : ∃ A : Nat, A = S % 60 := ⟨_, rfl⟩
  have hfin : WN ++ ⟨#[44, 32]⟩ ++ DD K ++ ⟨#[32]⟩ ++ MN ++ ⟨#[32]⟩ ++ DD A2 ++ DD A3 ++ ⟨#[32]⟩ ++ DD A4 ++ ⟨#[58]⟩ ++ DD A5 ++ ⟨#[58]⟩ ++ DD A6 ++ ⟨#[32, 71, 77, 84]⟩ = T := by
    apply bytes_ext
    rw [← hT]
    unfold textBy textOf hms
    rw [hSn, hA2, hA3, hA4, hA5, hA6, hA7]
    simp only [cat_l, lW, lM]
    simp [DD]
  have Hfin := hid hfin
  have zD := DD_size
  have q1 : IntKind.i64.wrap (3 * (W : Int)) = 3 * (W : Int) := IntWalk.i64_in _ (by omega)
  have q2 : IntKind.i64.wrap (3 * (W : Int) + 3) = 3 * (W : Int) + 3 := IntWalk.i64_in _ (by omega)
  have q3 : IntKind.i64.wrap (3 * (M : Int)) = 3 * (M : Int) := IntWalk.i64_in _ (by omega)
  have q4 : IntKind.i64.wrap (3 * (M : Int) - 3) = 3 * (M : Int) - 3 := IntWalk.i64_in _ (by omega)
  have b2 : A2 < 100 := by omega
  have b3 : A3 < 100 := by omega
  have b4 : A4 < 100 := by omega
  have b5 : A5 < 100 := by omega
  have b6 : A6 < 100 := by omega
  have b7 : A7 < 1440 := by omega
  have bK : K < 100 := by omega
  have t2 : (Y : Int).tdiv 100 = (A2 : Int) := by rw [Int.tdiv_eq_ediv_of_nonneg (by omega)]; omega
  have t3 : (Y : Int).tmod 100 = (A3 : Int) := by rw [Int.tmod_eq_emod_of_nonneg (by omega)]; omega
  have t4 : (S : Int).tdiv 3600 = (A4 : Int) := by rw [Int.tdiv_eq_ediv_of_nonneg (by omega)]; omega
  have t7 : (S : Int).tdiv 60 = (A7 : Int) := by rw [Int.tdiv_eq_ediv_of_nonneg (by omega)]; omega
  have t5 : (A7 : Int).tmod 60 = (A5 : Int) := by rw [Int.tmod_eq_emod_of_nonneg (by omega)]; omega
  have t6 : (S : Int).tmod 60 = (A6 : Int) := by rw [Int.tmod_eq_emod_of_nonneg (by omega)]; omega
  have u2 : (Y : Int) / 100 = (A2 : Int) := by omega
  have u3 : (Y : Int) % 100 = (A3 : Int) := by omega
  have u4 : (S : Int) / 3600 = (A4 : Int) := by omega
  have u7 : (S : Int) / 60 = (A7 : Int) := by omega
  have u5 : (A7 : Int) % 60 = (A5 : Int) := by omega
  have u6 : (S : Int) % 60 = (A6 : Int) := by omega
  have v2 : IntKind.i64.wrap (A2 : Int) = (A2 : Int) := IntWalk.i64_in _ (by omega)
  have v4 : IntKind.i64.wrap (A4 : Int) = (A4 : Int) := IntWalk.i64_in _ (by omega)
  have v7 : IntKind.i64.wrap (A7 : Int) = (A7 : Int) := IntWalk.i64_in _ (by omega)
  have bS : 0 ≤ (n : Int) ∧ (n : Int) ≤ 253402300799 := by omega
  have HS := hid hS
  clear hWN hMN lW lM hfin hT hSn hn hS hA2 hA3 hA4 hA5 hA6 hA7
  go_enter Tryd.func14, Tryd.ntmps14
  go_wp2_with fail
  refine (HD.out _).mono ?_
  rintro e w' ⟨rfl, rfl⟩
  go_wp2_with fail
  rw [HS.out]
  go_region_held3 (fun w' => Below w.heap.size w w') (first
      | exact below_chain ‹_› ‹_›
      | exact (Below.refl _ _).drew)
    (first
      | (go_at_call 29; refine (digitsR_in _ (by assumption) _).mono ?_; rintro e w1 ⟨rfl, hb1⟩))
  rename_i hH
  have HB := hid hH
  clear hH sl1 sl2
  go_wp2
  go_ret2
  exact ⟨ret_val (by rw [← Hfin.out]; rfl), HB.out⟩
theorem textR_no (n : Int) (hn : ¬ (0 ≤ n ∧ n ≤ 253402300799)) (w : World) :
    Calls Tryd.prog 14 #[.int .i64 n] w fun e w' => e = .returned (.tuple #[.string ⟨#[]⟩, .bool false]) ∧ w = w' := by
  by_cases h0 : n < 0
  · go_enter Tryd.func14, Tryd.ntmps14
    go_wp2
    go_ret2
    exact ⟨rfl, rfl⟩
  · have h1 : n > 253402300799 := by omega
    clear hn
    go_enter Tryd.func14, Tryd.ntmps14
    go_wp2
    go_ret2
    exact ⟨rfl, rfl⟩
end Go.Proofs.YtnkfgedpdokcpaaDoor
