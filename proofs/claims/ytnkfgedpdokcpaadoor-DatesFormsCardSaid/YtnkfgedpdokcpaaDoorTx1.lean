/- Walks: dates' digits and Text. -/
import Derived.Test.YtnkfgedpdokcpaaDoorTx0
import Derived.Test.YtnkfgedpdokcpaaDoorDy2
import Derived.Deep.RegionHeld3
import Derived.IntWalk
namespace Go.Proofs.YtnkfgedpdokcpaaDoor
open Go.RowKit Go.Lib Go.Proofs.Foot

/-- Two digits, as a text. -/
def DD (a : Nat) : ByteArray := ⟨(dd a).toArray⟩
theorem DD_size (a : Nat) : (DD a).size = 2 := rfl
theorem itoa_100 {a : Nat} (h : a < 100) : Lib.itoa (100 + (a : Int)) = 49 :: dd a := by
  have e : (100 : Int) + (a : Int) = ((100 + a : Nat) : Int) := by omega
  rw [e]
  unfold Lib.itoa
  rw [if_neg (by omega), Int.toNat_natCast, Lib.decDigits, dif_neg (by omega), Lib.decDigits, dif_neg (by omega), Lib.decDigits, dif_pos (by omega)]
  unfold dd dgt
  have e1 : (100 + a) / 10 / 10 = 1 := by omega
  have e2 : (100 + a) / 10 % 10 = a / 10 % 10 := by omega
  have e3 : (100 + a) % 10 = a % 10 := by omega
  rw [e1, e2, e3]; rfl
theorem itoaA (v : Int) (h0 : -9223372036854775808 ≤ v) (h1 : v ≤ 9223372036854775807) (w : World) (G : Good w) (T : ByteArray) (hT : Lib.itoa v = T.data.toList) :
    Calls Tryd.prog 41 #[.int .i64 v] w fun e w' => e = .returned (.string T) ∧ Below w.heap.size w w' := by
  refine (Tryd.strconv_Itoa v h0 h1 w G.2.2.2).mono ?_
  rintro e w' ⟨he, k, os, rfl⟩
  refine ⟨by rw [he, hT], Lib.below_grow _ _ (Nat.le_refl _) k os⟩
theorem digitsA_any (a : Nat) (ha : a < 100) (w : World) (G : Good w) :
    Calls Tryd.prog 27 #[.int .i64 a] w fun e w' => e = .returned (.string (DD a)) ∧ Below w.heap.size w w' := by
  obtain ⟨U, hU⟩ : ∃ U : ByteArray, Lib.itoa (100 + (a : Int)) = U.data.toList := ⟨⟨(Lib.itoa (100 + (a : Int))).toArray⟩, by simp⟩
  have HI := hid (itoaA (100 + (a : Int)) (by omega) (by omega) w G U hU)
  rw [itoa_100 ha] at hU
  have hz : 1 ≤ U.size := by rw [Lib.size_eq, ← hU]; simp
  have he : U.extract 1 U.size = DD a := by
    rw [extract_eq, ← hU]
    have hz3 : U.size = 3 := by rw [Lib.size_eq, ← hU]; rfl
    rw [hz3]; rfl
  have He := hid he
  clear hU he
  go_enter Tryd.func27, Tryd.ntmps27
  go_wp2_with (go_at_call 41; refine HI.out.mono ?_; rintro e w1 ⟨rfl, hb1⟩)
  go_ret
  exact ⟨ret_val (by rw [He.out]; rfl), hb1⟩
theorem digitsA_in (w0 : World) (G0 : Good w0) (a : Nat) (ha : a < 100) (w : World) (hb : Below w0.heap.size w0 w) :
    Calls Tryd.prog 27 #[.int .i64 a] w fun e w' => e = .returned (.string (DD a)) ∧ Below w.heap.size w w' :=
  digitsA_any a ha w (G0.below hb)
def weeksT : ByteArray := ⟨#[83, 117, 110, 77, 111, 110, 84, 117, 101, 87, 101, 100, 84, 104, 117, 70, 114, 105, 83, 97, 116]⟩
def monthsT : ByteArray := ⟨#[74, 97, 110, 70, 101, 98, 77, 97, 114, 65, 112, 114, 77, 97, 121, 74, 117, 110, 74, 117, 108, 65, 117, 103, 83, 101, 112, 79, 99, 116, 78, 111, 118, 68, 101, 99]⟩
theorem weeks_at (W : Nat) (h : W < 7) (a b : Nat) (ha : a = 3 * W) (hb : b = 3 * W + 3) : (weeksT.extract a b).data.toList = weekName W := by
  subst ha hb
  have : ∀ W < 7, (weeksT.extract (3 * W) (3 * W + 3)).data.toList = weekName W := by decide +kernel
  exact this W h
theorem mons_at (M : Nat) (h1 : 1 ≤ M) (h2 : M ≤ 12) (a b : Nat) (ha : a = 3 * M - 3) (hb : b = 3 * M) : (monthsT.extract a b).data.toList = monName (M - 1) := by
  subst ha hb
  have : ∀ M < 12, (monthsT.extract (3 * (M + 1) - 3) (3 * (M + 1))).data.toList = monName M := by decide +kernel
  have := this (M - 1) (by omega)
  rw [show M - 1 + 1 = M from by omega] at this; exact this
theorem bytes_ext {a b : ByteArray} (h : a.data.toList = b.data.toList) : a = b := by
  cases a; cases b; simp at h; rw [h]
theorem cat_l (s t : ByteArray) : (s ++ t).data.toList = s.data.toList ++ t.data.toList := by simp [ByteArray.data_append]

set_option maxHeartbeats 4000000 in
set_option maxRecDepth 100000 in
theorem textA_yes (n : Nat) (hn : n ≤ 253402300799) (Y M K W : Nat) (D : DayIs (n : Int) Y M K W) (T : ByteArray) (hT : textBy n Y M K W = T.data.toList) (w : World) (G : Good w) :
    Calls Tryd.prog 13 #[.int .i64 n] w fun e w' => e = .returned (.tuple #[.string T, .bool true]) ∧ Below w.heap.size w w' := by
  have HW := hid (winB_yes (n := (n : Int)) (a := 0) (b := 253402300799) (by omega))
  have HD := hid (fun w => dayA_any (n : Int) w)
  rw [D.val] at HD
  obtain ⟨-, -, y1, y2, m1, m2, k1, k2, w7, -⟩ := D
  obtain ⟨S, hS⟩ : ∃ S : Nat, (n : Int) % 86400 = (S : Int) := ⟨n % 86400, by omega⟩
  have hS86 : S < 86400 := by omega
  have hSn : n % 86400 = S := by omega
  obtain ⟨WN, hWN⟩ : ∃ WN : ByteArray, WN = weeksT.extract (3 * (W : Int)).toNat (3 * (W : Int) + 3).toNat := ⟨_, rfl⟩
  obtain ⟨MN, hMN⟩ : ∃ MN : ByteArray, MN = monthsT.extract (3 * (M : Int) - 3).toNat (3 * (M : Int)).toNat := ⟨_, rfl⟩
  have sl1 : ∀ V, (Instr.slice 9 (.string ⟨#[83, 117, 110, 77, 111, 110, 84, 117, 101, 87, 101, 100, 84, 104, 117, 70, 114, 105, 83, 97, 116]⟩) (some (.int .i64 (3 * (W : Int)))) (some (.int .i64 (3 * (W : Int) + 3))) none).run Tryd.prog V = .ok (.string WN) V := fun V => by
    rw [hWN]; exact run_slice_string V _ _ _ _ _ _ Tryd.underlying9 (by omega) (by omega) (by show 3 * (W : Int) + 3 ≤ 21; omega)
  have sl2 : ∀ V, (Instr.slice 9 (.string ⟨#[74, 97, 110, 70, 101, 98, 77, 97, 114, 65, 112, 114, 77, 97, 121, 74, 117, 110, 74, 117, 108, 65, 117, 103, 83, 101, 112, 79, 99, 116, 78, 111, 118, 68, 101, 99]⟩) (some (.int .i64 (3 * (M : Int) - 3))) (some (.int .i64 (3 * (M : Int)))) none).run Tryd.prog V = .ok (.string MN) V := fun V => by
    rw [hMN]; exact run_slice_string V _ _ _ _ _ _ Tryd.underlying9 (by omega) (by omega) (by show 3 * (M : Int) ≤ 36; omega)
  have lW : WN.data.toList = weekName W := by rw [hWN]; exact weeks_at W w7 _ _ (by omega) (by omega)
  have lM : MN.data.toList = monName (M - 1) := by rw [hMN]; exact mons_at M m1 m2 _ _ (by omega) (by omega)
  have zW : WN.size = 3 := by
    rw [Lib.size_eq, lW]
    have : ∀ W < 7, (weekName W).length = 3 := by decide +kernel
    exact this W w7
  have zM : MN.size = 3 := by
    rw [Lib.size_eq, lM]
    have : ∀ M < 12, (monName M).length = 3 := by decide +kernel
    exact this (M - 1) (by omega)
  obtain ⟨A2, hA2⟩ : ∃ A : Nat, A = Y / 100 := ⟨_, rfl⟩
  obtain ⟨A3, hA3⟩ : ∃ A : Nat, A = Y % 100 := ⟨_, rfl⟩
  obtain ⟨A4, hA4⟩ : ∃ A : Nat, A = S / 3600 := ⟨_, rfl⟩
  obtain ⟨A7, hA7⟩ : ∃ A : Nat, A = S / 60 := ⟨_, rfl⟩
  obtain ⟨A5, hA5⟩ : ∃ A : Nat, A = A7 % 60 := ⟨_, rfl⟩
  obtain ⟨A6, hA6⟩ : ∃ A : Nat, A = S % 60 := ⟨_, rfl⟩
  have hfin : WN ++ ⟨#[44, 32]⟩ ++ DD K ++ ⟨#[32]⟩ ++ MN ++ ⟨#[32]⟩ ++ DD A2 ++ DD A3 ++ ⟨#[32]⟩ ++ DD A4 ++ ⟨#[58]⟩ ++ DD A5 ++ ⟨#[58]⟩ ++ DD A6 ++ ⟨#[32, 71, 77, 84]⟩ = T := by
    apply bytes_ext
    rw [← hT]
    unfold textBy textOf hms
    rw [hSn, hA2, hA3, hA4, hA5, hA6, hA7]
    simp only [cat_l, lW, lM]
    simp [DD]
  have Hfin := hid hfin
  have zD := DD_size
  have q1 : IntKind.i64.wrap (3 * (W : Int)) = 3 * (W : Int) := IntWalk.i64_in _ (by omega)
  have q2 : IntKind.i64.wrap (3 * (W : Int) + 3) = 3 * (W : Int) + 3 := IntWalk.i64_in _ (by omega)
  have q3 : IntKind.i64.wrap (3 * (M : Int)) = 3 * (M : Int) := IntWalk.i64_in _ (by omega)
  have q4 : IntKind.i64.wrap (3 * (M : Int) - 3) = 3 * (M : Int) - 3 := IntWalk.i64_in _ (by omega)
  have b2 : A2 < 100 := by omega
  have b3 : A3 < 100 := by omega
  have b4 : A4 < 100 := by omega
  have b5 : A5 < 100 := by omega
  have b6 : A6 < 100 := by omega
  have b7 : A7 < 1440 := by omega
  have bK : K < 100 := by omega
  have t2 : (Y : Int).tdiv 100 = (A2 : Int) := by rw [Int.tdiv_eq_ediv_of_nonneg (by omega)]; omega
  have t3 : (Y : Int).tmod 100 = (A3 : Int) := by rw [Int.tmod_eq_emod_of_nonneg (by omega)]; omega
  have t4 : (S : Int).tdiv 3600 = (A4 : Int) := by rw [Int.tdiv_eq_ediv_of_nonneg (by omega)]; omega
  have t7 : (S : Int).tdiv 60 = (A7 : Int) := by rw [Int.tdiv_eq_ediv_of_nonneg (by omega)]; omega
  have t5 : (A7 : Int).tmod 60 = (A5 : Int) := by rw [Int.tmod_eq_emod_of_nonneg (by omega)]; omega
  have t6 : (S : Int).tmod 60 = (A6 : Int) := by rw [Int.tmod_eq_emod_of_nonneg (by omega)]; omega
  have u2 : (Y : Int) / 100 = (A2 : Int) := by omega
  have u3 : (Y : Int) % 100 = (A3 : Int) := by omega
  have u4 : (S : Int) / 3600 = (A4 : Int) := by omega
  have u7 : (S : Int) / 60 = (A7 : Int) := by omega
  have u5 : (A7 : Int) % 60 = (A5 : Int) := by omega
  have u6 : (S : Int) % 60 = (A6 : Int) := by omega
  have v2 : IntKind.i64.wrap (A2 : Int) = (A2 : Int) := IntWalk.i64_in _ (by omega)
  have v4 : IntKind.i64.wrap (A4 : Int) = (A4 : Int) := IntWalk.i64_in _ (by omega)
  have v7 : IntKind.i64.wrap (A7 : Int) = (A7 : Int) := IntWalk.i64_in _ (by omega)
  have bS : 0 ≤ (n : Int) ∧ (n : Int) ≤ 253402300799 := by omega
  have HG := hid G
  have HS := hid hS
  clear hWN hMN lW lM hfin hT hSn G hn hS hA2 hA3 hA4 hA5 hA6 hA7
  go_enter Tryd.func13, Tryd.ntmps13
  go_wp2_with fail
  refine (within_is (n : Int) 0 253402300799 true HW.out _).mono ?_
  rintro e w' ⟨rfl, rfl⟩
  go_wp2_with fail
  refine (HD.out _).mono ?_
  rintro e w' ⟨rfl, rfl⟩
  go_wp2_with fail
  rw [HS.out]
  go_region_held3 (fun w' => Below w.heap.size w w') (first
      | exact below_chain ‹_› ‹_›
      | exact (Below.refl _ _).drew)
    (first
      | (go_at_call 27; refine (digitsA_in w HG.out _ (by assumption) _ (by assumption)).mono ?_; rintro e w1 ⟨rfl, hb1⟩))
  rename_i hH
  have HB := hid hH
  clear hH sl1 sl2
  go_wp2
  go_ret2
  exact ⟨ret_val (by rw [← Hfin.out]; rfl), HB.out⟩
theorem textA_no (n : Int) (hn : ¬ (0 ≤ n ∧ n ≤ 253402300799)) (w : World) :
    Calls Tryd.prog 13 #[.int .i64 n] w fun e w' => e = .returned (.tuple #[.string ⟨#[]⟩, .bool false]) ∧ w = w' := by
  have HW := hid (winB_no (n := n) (a := 0) (b := 253402300799) hn)
  go_enter Tryd.func13, Tryd.ntmps13
  go_wp2_with fail
  refine (within_is n 0 253402300799 false HW.out _).mono ?_
  rintro e w' ⟨rfl, rfl⟩
  go_wp2
  go_ret2
  exact ⟨rfl, rfl⟩
end Go.Proofs.YtnkfgedpdokcpaaDoor
