/- From a row's listed variables to what the contracts take of a world. -/
import Derived.Test.YthfndlphhgchnaaGreatDoorCk1
import Derived.Test.YthfndlphhgchnaaGreatDoorRows
import Derived.Test.YthfndlphhgchnaaGreatDoorTx1
import Derived.Deep.QuietTactic
import Derived.BigQuiet
import Derived.Test.YthfndlphhgchnaaGreatDoorSh
import Derived.Test.YthfndlphhgchnaaGreatDoorMR2
import Derived.Deep.RegionHeld3
import Derived.Deep.CutBlock
import Derived.Test.YthfndlphhgchnaaGreatDoorSf
import Derived.Test.YthfndlphhgchnaaGreatDoorBeyond
namespace Go.Proofs.YthfndlphhgchnaaGreatDoor
open Go.RowKit Go.Lib Go.Proofs.Foot

theorem good_of {laid : List (String × DataW Unit)} {w : World} (hL : laidMetH Tryz.prog laid w) (hf : (laid.filter fun x => x.1 == "strconv.ErrSyntax") = [("strconv.ErrSyntax", Rows.laid_strconv_ErrSyntax)]) (hf2 : (laid.filter fun x => x.1 == "strconv.ErrRange") = [("strconv.ErrRange", Rows.laid_strconv_ErrRange)])
    (hf3 : (laid.filter fun x => x.1 == "internal/strconv.uint64pow10") = [("internal/strconv.uint64pow10", Lib.tabData .u64 Lib.pow10Tab)]) (hsh : w.ShapedOpen Tryz.prog) : Good w :=
  ⟨hsh, laid_iface (n := "strconv.ErrSyntax") Rows.laid_strconv_ErrSyntax ⟨_, _, rfl⟩ hL (show Tryz.prog.globalNamed "strconv.ErrSyntax" = some 4 by kernel_rfl) (show (Tryz.prog.globals[4]?).map (·.type) = some 80 by kernel_rfl) ⟨_, Tryz.underlying80⟩ hf (by kernel_rfl),
    laid_iface (n := "strconv.ErrRange") Rows.laid_strconv_ErrRange ⟨_, _, rfl⟩ hL (show Tryz.prog.globalNamed "strconv.ErrRange" = some 5 by kernel_rfl) (show (Tryz.prog.globals[5]?).map (·.type) = some 80 by kernel_rfl) ⟨_, Tryz.underlying80⟩ hf2 (by kernel_rfl),
    laid_tab Lib.pow10Tab hL (show Tryz.prog.globalNamed "internal/strconv.uint64pow10" = some 1 by kernel_rfl) (show (Tryz.prog.globals[1]?).map (·.type) = some 140 by kernel_rfl) Tryz.underlying140 Tryz.underlying118 (by kernel_rfl) (by kernel_rfl) hf3 (by kernel_rfl)⟩
end Go.Proofs.YthfndlphhgchnaaGreatDoor
/- Walks: the reference's digits and Text. -/
namespace Go.Proofs.YthfndlphhgchnaaGreatDoor
open Go.RowKit Go.Lib Go.Proofs.Foot

def tenT : ByteArray := ⟨#[48, 49, 50, 51, 52, 53, 54, 55, 56, 57]⟩
theorem ten_at (d : Nat) (h : d < 10) (a b : Nat) (ha : a = d) (hb : b = d + 1) : (tenT.extract a b).data.toList = [dgt d] := by
  rw [ha, hb]
  have : ∀ d < 10, (tenT.extract d (d + 1)).data.toList = [dgt d] := by decide +kernel
  exact this d h
theorem slice_ten (d : Nat) (h : d < 10) : ∃ T : ByteArray, T.data.toList = [dgt d] ∧ T.size = 1 ∧ ∀ V, (Instr.slice 9 (.string ⟨#[48, 49, 50, 51, 52, 53, 54, 55, 56, 57]⟩) (some (.int .i64 (d : Int))) (some (.int .i64 ((d : Int) + 1))) none).run Tryz.prog V = .ok (.string T) V := by
  have hl := ten_at d h (d : Int).toNat ((d : Int) + 1).toNat (by omega) (by omega)
  exact ⟨_, hl, by rw [Lib.size_eq, hl]; rfl, fun V => run_slice_string V _ _ _ _ _ _ Tryz.underlying9 (by omega) (by omega) (by show (d : Int) + 1 ≤ 10; omega)⟩

set_option maxHeartbeats 1000000 in
set_option maxRecDepth 100000 in
theorem digitsR_any (a : Nat) (ha : a < 100) (w : World) :
    Calls Tryz.prog 57 #[.int .i64 a] w fun e w' => e = .returned (.string (DD a)) ∧ Below w.heap.size w w' := by
  obtain ⟨p, hp⟩ : ∃ p : Nat, p = a / 10 := ⟨_, rfl⟩
  obtain ⟨q, hq⟩ : ∃ q : Nat, q = a % 10 := ⟨_, rfl⟩
  obtain ⟨P, lP, zP, slP⟩ := slice_ten p (by omega)
  obtain ⟨Q, lQ, zQ, slQ⟩ := slice_ten q (by omega)
  have hfin : P ++ Q = DD a := by
    apply bytes_ext
    rw [cat_l, lP, lQ, hp, hq]
    show _ = [dgt (a / 10 % 10), dgt (a % 10)]
    rw [show a / 10 % 10 = a / 10 from by omega]; rfl
  have Hfin := hid hfin
  have t1 : (a : Int).tdiv 10 = (p : Int) := by rw [Int.tdiv_eq_ediv_of_nonneg (by omega)]; omega
  have t2 : (a : Int).tmod 10 = (q : Int) := by rw [Int.tmod_eq_emod_of_nonneg (by omega)]; omega
  have t3 : (p : Int).tmod 10 = (p : Int) := by rw [Int.tmod_eq_emod_of_nonneg (by omega)]; omega
  have u1 : (a : Int) / 10 = (p : Int) := by omega
  have u2 : (a : Int) % 10 = (q : Int) := by omega
  have u3 : (p : Int) % 10 = (p : Int) := by omega
  have v1 : IntKind.i64.wrap (p : Int) = (p : Int) := IntWalk.i64_in _ (by omega)
  have v2 : IntKind.i64.wrap ((p : Int) + 1) = (p : Int) + 1 := IntWalk.i64_in _ (by omega)
  have v3 : IntKind.i64.wrap ((q : Int) + 1) = (q : Int) + 1 := IntWalk.i64_in _ (by omega)
  have bp : p < 10 := by omega
  have bq : q < 10 := by omega
  clear lP lQ hfin hp hq
  go_enter Tryz.func57, Tryz.ntmps57
  go_wp2
  first
    | (go_ret; exact ⟨ret_val (by rw [← Hfin.out]; rfl), Below.refl _ _⟩)
    | (go_quiet (fail); go_wp2; go_ret; exact ⟨ret_val (by rw [← Hfin.out]; rfl), below_drewN (Below.refl _ _) _⟩)
theorem digitsR_in (a : Nat) (ha : a < 100) (w : World) :
    Calls Tryz.prog 57 #[.int .i64 a] w fun e w' => e = .returned (.string (DD a)) ∧ Below w.heap.size w w' := digitsR_any a ha w

set_option maxHeartbeats 4000000 in
set_option maxRecDepth 100000 in
theorem textR_yes (n : Nat) (hn : n ≤ 253402300799) (Y M K W : Nat) (D : DayIs (n : Int) Y M K W) (T : ByteArray) (hT : textBy n Y M K W = T.data.toList) (w : World) :
    Calls Tryz.prog 35 #[.int .i64 n] w fun e w' => e = .returned (.tuple #[.string T, .bool true]) ∧ Below w.heap.size w w' := by
  have HD := hid (fun w => dayR_any (n : Int) w)
  rw [D.val] at HD
  obtain ⟨-, -, y1, y2, m1, m2, k1, k2, w7, -⟩ := D
  obtain ⟨S, hS⟩ : ∃ S : Nat, (n : Int) % 86400 = (S : Int) := ⟨n % 86400, by omega⟩
  have hS86 : S < 86400 := by omega
  have hSn : n % 86400 = S := by omega
  obtain ⟨WN, hWN⟩ : ∃ WN : ByteArray, WN = weeksT.extract (3 * (W : Int)).toNat (3 * (W : Int) + 3).toNat := ⟨_, rfl⟩
  obtain ⟨MN, hMN⟩ : ∃ MN : ByteArray, MN = monthsT.extract (3 * (M : Int) - 3).toNat (3 * (M : Int)).toNat := ⟨_, rfl⟩
  have sl1 : ∀ V, (Instr.slice 9 (.string ⟨#[83, 117, 110, 77, 111, 110, 84, 117, 101, 87, 101, 100, 84, 104, 117, 70, 114, 105, 83, 97, 116]⟩) (some (.int .i64 (3 * (W : Int)))) (some (.int .i64 (3 * (W : Int) + 3))) none).run Tryz.prog V = .ok (.string WN) V := fun V => by
    rw [hWN]; exact run_slice_string V _ _ _ _ _ _ Tryz.underlying9 (by omega) (by omega) (by show 3 * (W : Int) + 3 ≤ 21; omega)
  have sl2 : ∀ V, (Instr.slice 9 (.string ⟨#[74, 97, 110, 70, 101, 98, 77, 97, 114, 65, 112, 114, 77, 97, 121, 74, 117, 110, 74, 117, 108, 65, 117, 103, 83, 101, 112, 79, 99, 116, 78, 111, 118, 68, 101, 99]⟩) (some (.int .i64 (3 * (M : Int) - 3))) (some (.int .i64 (3 * (M : Int)))) none).run Tryz.prog V = .ok (.string MN) V := fun V => by
    rw [hMN]; exact run_slice_string V _ _ _ _ _ _ Tryz.underlying9 (by omega) (by omega) (by show 3 * (M : Int) ≤ 36; omega)
  have lW : WN.data.toList = weekName W := by rw [hWN]; exact weeks_at W w7 _ _ (by omega) (by omega)
  have lM : MN.data.toList = monName (M - 1) := by rw [hMN]; exact mons_at M m1 m2 _ _ (by omega) (by omega)
  have zW : WN.size = 3 := by
    rw [Lib.size_eq, lW]
    have : ∀ W < 7, (weekName W).length = 3 := by decide +kernel
    exact this W w7
  have zM : MN.size = 3 := by
    rw [Lib.size_eq, lM]
    have : ∀ M < 12, (monName M).length = 3 := by decide +kernel
    exact this (M - 1) (by omega)
  obtain ⟨A2, hA2⟩ : ∃ A : Nat, A = Y / 100 := ⟨_, rfl⟩
  obtain ⟨A3, hA3⟩ : ∃ A : Nat, A = Y % 100 := ⟨_, rfl⟩
  obtain ⟨A4, hA4⟩ : ∃ A : Nat, A = S / 3600 := ⟨_, rfl⟩
  obtain ⟨A7, hA7⟩ : ∃ A : Nat, A = S / 60 := ⟨_, rfl⟩
  obtain ⟨A5, hA5⟩ : ∃ A : Nat, A = A7 % 60 := ⟨_, rfl⟩
  obtain ⟨A6, hA6⟩ : ∃ A : Nat, A = S % 60 := ⟨_, rfl⟩
  have hfin : WN ++ ⟨#[44, 32]⟩ ++ DD K ++ ⟨#[32]⟩ ++ MN ++ ⟨#[32]⟩ ++ DD A2 ++ DD A3 ++ ⟨#[32]⟩ ++ DD A4 ++ ⟨#[58]⟩ ++ DD A5 ++ ⟨#[58]⟩ ++ DD A6 ++ ⟨#[32, 71, 77, 84]⟩ = T := by
    apply bytes_ext
    rw [← hT]
    unfold textBy textOf hms
    rw [hSn, hA2, hA3, hA4, hA5, hA6, hA7]
    simp only [cat_l, lW, lM]
    simp [DD]
  have Hfin := hid hfin
  have zD := DD_size
  have q1 : IntKind.i64.wrap (3 * (W : Int)) = 3 * (W : Int) := IntWalk.i64_in _ (by omega)
  have q2 : IntKind.i64.wrap (3 * (W : Int) + 3) = 3 * (W : Int) + 3 := IntWalk.i64_in _ (by omega)
  have q3 : IntKind.i64.wrap (3 * (M : Int)) = 3 * (M : Int) := IntWalk.i64_in _ (by omega)
  have q4 : IntKind.i64.wrap (3 * (M : Int) - 3) = 3 * (M : Int) - 3 := IntWalk.i64_in _ (by omega)
  have b2 : A2 < 100 := by omega
  have b3 : A3 < 100 := by omega
  have b4 : A4 < 100 := by omega
  have b5 : A5 < 100 := by omega
  have b6 : A6 < 100 := by omega
  have b7 : A7 < 1440 := by omega
  have bK : K < 100 := by omega
  have t2 : (Y : Int).tdiv 100 = (A2 : Int) := by rw [Int.tdiv_eq_ediv_of_nonneg (by omega)]; omega
  have t3 : (Y : Int).tmod 100 = (A3 : Int) := by rw [Int.tmod_eq_emod_of_nonneg (by omega)]; omega
  have t4 : (S : Int).tdiv 3600 = (A4 : Int) := by rw [Int.tdiv_eq_ediv_of_nonneg (by omega)]; omega
  have t7 : (S : Int).tdiv 60 = (A7 : Int) := by rw [Int.tdiv_eq_ediv_of_nonneg (by omega)]; omega
  have t5 : (A7 : Int).tmod 60 = (A5 : Int) := by rw [Int.tmod_eq_emod_of_nonneg (by omega)]; omega
  have t6 : (S : Int).tmod 60 = (A6 : Int) := by rw [Int.tmod_eq_emod_of_nonneg (by omega)]; omega
  have u2 : (Y : Int) / 100 = (A2 : Int) := by omega
  have u3 : (Y : Int) % 100 = (A3 : Int) := by omega
  have u4 : (S : Int) / 3600 = (A4 : Int) := by omega
  have u7 : (S : Int) / 60 = (A7 : Int) := by omega
  have u5 : (A7 : Int) % 60 = (A5 : Int) := by omega
  have u6 : (S : Int) % 60 = (A6 : Int) := by omega
  have v2 : IntKind.i64.wrap (A2 : Int) = (A2 : Int) := IntWalk.i64_in _ (by omega)
  have v4 : IntKind.i64.wrap (A4 : Int) = (A4 : Int) := IntWalk.i64_in _ (by omega)
  have v7 : IntKind.i64.wrap (A7 : Int) = (A7 : Int) := IntWalk.i64_in _ (by omega)
  have bS : 0 ≤ (n : Int) ∧ (n : Int) ≤ 253402300799 := by omega
  have HS := hid hS
  clear hWN hMN lW lM hfin hT hSn hn hS hA2 hA3 hA4 hA5 hA6 hA7
  go_enter Tryz.func35, Tryz.ntmps35
  go_wp2_with fail
  refine (HD.out _).mono ?_
  rintro e w' ⟨rfl, rfl⟩
  go_wp2_with fail
  rw [HS.out]
  go_region_held3 (fun w' => Below w.heap.size w w') (first
      | exact below_chain ‹_› ‹_›
      | exact (Below.refl _ _).drew)
    (first
      | (go_at_call 57; refine (digitsR_in _ (by assumption) _).mono ?_; rintro e w1 ⟨rfl, hb1⟩))
  rename_i hH
  have HB := hid hH
  clear hH sl1 sl2
  go_wp2
  go_ret2
  exact ⟨ret_val (by rw [← Hfin.out]; rfl), HB.out⟩
theorem textR_no (n : Int) (hn : ¬ (0 ≤ n ∧ n ≤ 253402300799)) (w : World) :
    Calls Tryz.prog 35 #[.int .i64 n] w fun e w' => e = .returned (.tuple #[.string ⟨#[]⟩, .bool false]) ∧ w = w' := by
  by_cases h0 : n < 0
  · go_enter Tryz.func35, Tryz.ntmps35
    go_wp2
    go_ret2
    exact ⟨rfl, rfl⟩
  · have h1 : n > 253402300799 := by omega
    clear hn
    go_enter Tryz.func35, Tryz.ntmps35
    go_wp2
    go_ret2
    exact ⟨rfl, rfl⟩
end Go.Proofs.YthfndlphhgchnaaGreatDoor
/- Walks: the reference's digits and Text (chapter 10). -/
namespace Go.Proofs.YthfndlphhgchnaaGreatDoor
open Go.RowKit Go.Lib Go.Proofs.Foot

def decT (n : Nat) : ByteArray := tx (Lib.decDigits n)
def digT (d : Nat) : ByteArray := tx [UInt8.ofNat (48 + d)]
theorem dig_slice10 (d : Nat) (h : d < 10) (V : World) : (Instr.slice 9 (.string ⟨#[48, 49, 50, 51, 52, 53, 54, 55, 56, 57]⟩) (some (.int .i64 d)) (some (.int .i64 ((d : Int) + 1))) none).run Tryz.prog V = .ok (.string (digT d)) V := by
  have h1 : ∀ d < 10, (tenT.extract d (d + 1)).data.toList = [UInt8.ofNat (48 + d)] := by decide +kernel
  have e : tenT.extract d (d + 1) = digT d := by rw [← tx_of (tenT.extract d (d + 1)), h1 d h]; rfl
  have : (Instr.slice 9 (.string tenT) (some (.int .i64 d)) (some (.int .i64 ((d : Int) + 1))) none).run Tryz.prog V = .ok (.string (tenT.extract d (d + 1))) V := run_slice_string V _ _ _ _ _ _ Tryz.underlying9 (by omega) (by omega) (by show (d : Int) + 1 ≤ 10; omega)
  rw [e] at this
  exact this
theorem decT_lt {n : Nat} (h : n < 10) : decT n = digT n := by unfold decT digT; rw [Lib.decDigits, dif_pos h]
theorem tx_cat (a b : List UInt8) : tx a ++ tx b = tx (a ++ b) := by rw [← tx_of (tx a ++ tx b), catL, tx_list, tx_list]
theorem decT_ge {n : Nat} (h : ¬ n < 10) : decT n = decT (n / 10) ++ digT (n % 10) := by
  unfold decT digT
  rw [Lib.decDigits, dif_neg h, tx_cat]
theorem decT_size {n : Nat} (h : n < 10000000000) : (decT n).size ≤ 10 := by
  unfold decT
  rw [tx_size]
  exact decDigits_len 10 n (by omega) (by rw [show (10 : Nat) ^ 10 = 10000000000 from rfl]; exact h)
set_option maxHeartbeats 2000000 in
set_option maxRecDepth 100000 in
theorem digitsN (n : Nat) (hn : n ≤ 2147483647) (w : World) :
    Calls Tryz.prog 36 #[.int .i64 n] w fun e w' => e = .returned (.string (decT n)) ∧ Below w.heap.size w w' := by
  induction n using Nat.strongRecOn generalizing w with
  | _ n ih =>
    have IH := hid ih
    clear ih
    have h0 : ¬ (n : Int) < 0 := by omega
    by_cases h : n < 10
    · have h1 : (n : Int) < 10 := by omega
      have hs := fun V => dig_slice10 n h V
      have Hlt := hid (decT_lt h)
      go_enter Tryz.func36, Tryz.ntmps36
      go_wp2
      go_ret
      exact ⟨ret_valH (by rw [Hlt.out]; rfl), Below.refl _ _⟩
    · have h1 : ¬ (n : Int) < 10 := by omega
      have Hfin := hid (decT_ge h)
      have H1 := hid (fun w => IH.out (n / 10) (Nat.div_lt_self (by omega) (by omega)) (by omega) w)
      have hmn : n / 10 ≤ n := Nat.div_le_self _ _
      have hr16 : n % 10 < 10 := by omega
      have t1 : (n : Int).tdiv 10 = ((n / 10 : Nat) : Int) := rfl
      have t2 : (n : Int).tmod 10 = ((n % 10 : Nat) : Int) := rfl
      have u1 : (n : Int) / 10 = ((n / 10 : Nat) : Int) := rfl
      have u2 : (n : Int) % 10 = ((n % 10 : Nat) : Int) := rfl
      generalize n / 10 = m at *
      generalize n % 10 = r at *
      have hs := fun V => dig_slice10 r hr16 V
      have v0 : IntKind.i64.wrap (m : Int) = (m : Int) := IntWalk.i64_in _ (by omega)
      have v1 : IntKind.i64.wrap ((r : Int) + 1) = (r : Int) + 1 := IntWalk.i64_in _ (by omega)
      have v2 : IntKind.i64.wrap (r : Int) = (r : Int) := IntWalk.i64_in _ (by omega)
      have zD : ((decT m).size : Int) ≤ 8388608 := by have := decT_size (n := m) (by omega); omega
      have zQ : ((digT r).size : Int) ≤ 8388608 := by show (1 : Int) ≤ 8388608; omega
      have hadd : ∀ V, (Op.stringOp .add (decT m) (digT r)).run Tryz.prog V = .ok (.string (decT m ++ digT r)) V := fun V => run_string_add V _ _ zD zQ
      clear IH zD zQ
      go_enter Tryz.func36, Tryz.ntmps36
      go_wp2_with fail
      go_region_held3 (fun w' => Below w.heap.size w w') (first
          | exact below_chain ‹_› ‹_›
          | exact (Below.refl _ _).drew)
        (first
          | (go_at_call 36; refine (H1.out _).mono ?_; rintro e w1 ⟨rfl, hb1⟩))
      rename_i hH
      have HB := hid hH
      clear hH hs hadd
      go_wp2
      go_ret
      exact ⟨ret_valH (by rw [Hfin.out]; rfl), HB.out⟩
set_option maxHeartbeats 1000000 in
set_option maxRecDepth 100000 in
theorem digitsI (x : Int) (h1 : -2147483647 ≤ x) (h2 : x ≤ 2147483647) (A : ByteArray) (hA : A.data.toList = Lib.itoa x) (w : World) :
    Calls Tryz.prog 36 #[.int .i64 x] w fun e w' => e = .returned (.string A) ∧ Below w.heap.size w w' := by
  by_cases h : x < 0
  · obtain ⟨m, hm⟩ : ∃ m : Nat, -x = (m : Int) := ⟨x.natAbs, by omega⟩
    have hAA : A = ⟨#[45]⟩ ++ decT m := by
      have e : Lib.itoa x = 45 :: Lib.decDigits x.natAbs := if_pos h
      rw [← tx_of A, hA, e, ← tx_of (⟨#[45]⟩ ++ decT m), catL]
      unfold decT
      rw [tx_list, show x.natAbs = m from by omega]; rfl
    have H := hid (fun w => digitsN m (by omega) w)
    have zD : ((decT m).size : Int) ≤ 8388608 := by have := decT_size (n := m) (by omega); omega
    have hadd := addS hAA (by show (1 : Int) ≤ _; decide) zD
    have v0 : IntKind.i64.wrap (-x) = (m : Int) := by rw [hm]; exact IntWalk.i64_in _ (by omega)
    clear hAA hA zD
    go_enter Tryz.func36, Tryz.ntmps36
    go_wp2_with fail
    first
      | (refine (H.out _).mono ?_; rintro e w1 ⟨rfl, hb1⟩)
      | (rw [hm]; refine (H.out _).mono ?_; rintro e w1 ⟨rfl, hb1⟩)
    have HB := hid hb1
    clear hb1
    go_wp2
    go_ret
    exact ⟨rfl, HB.out⟩
  · obtain ⟨n, rfl⟩ := Int.eq_ofNat_of_zero_le (show 0 ≤ x by omega)
    have hAA : A = decT n := by
      have e : Lib.itoa (n : Int) = Lib.decDigits (n : Int).toNat := if_neg h
      rw [← tx_of A, hA, e]; rfl
    rw [hAA]
    exact digitsN n (by omega) w
theorem parseR_is (s : ByteArray) (w : World) (t : CkT) (n : Nat) (h : parseC s.data.toList = (t, n)) :
    Calls Tryz.prog 15 #[.string s] w fun e w' => e = .returned (.tuple #[.agg (rowC t), .int .i64 (n : Nat)]) ∧ Below w.heap.size w w' := by
  refine (parseR_any s w).mono ?_
  rintro e w' ⟨he, hb⟩
  rw [h] at he
  exact ⟨he, hb⟩
theorem textR_to {x : Int} {D : ByteArray} (h : DateTx x D) : ∃ o, ∀ w, Calls Tryz.prog 35 #[.int .i64 x] w fun e w' => e = .returned (.tuple #[.string D, .bool o]) ∧ Below w.heap.size w w' := by
  rcases h with ⟨h, rfl⟩ | ⟨n, rfl, hT⟩
  · refine ⟨false, fun w => (textR_no x h w).mono ?_⟩
    rintro e w' ⟨he, rfl⟩
    exact ⟨he, Below.refl _ _⟩
  · obtain ⟨hn, Y, M, K, W, DI, hT⟩ := hT
    exact ⟨true, fun w => textR_yes n hn Y M K W DI D hT w⟩
/-- The cookie in its block. -/
structure TR (w0 : World) (bt : Nat) (t : CkT) (w : World) : Prop where
  row : Blk w bt 24 (rowC t)
  below : Below w0.heap.size w0 w
theorem TR.go {w0 w w' : World} {bt : Nat} {t : CkT} (h : TR w0 bt t w) (hb : Below w.heap.size w w') : TR w0 bt t w' := ⟨h.row.keep hb, below_chain h.below hb⟩
/-- A text, one part longer if it stands. -/
def moreT (b : Bool) (S X : ByteArray) : ByteArray := if b = true then S ++ X else S
theorem moreT_list (b : Bool) (S X : ByteArray) : (moreT b S X).data.toList = S.data.toList ++ if b = true then X.data.toList else [] := by
  cases b
  · simp [moreT]
  · simp [moreT, ByteArray.data_append]
theorem moreT_size (b : Bool) (S X : ByteArray) : (moreT b S X).size ≤ S.size + X.size := by
  cases b
  · simp [moreT]
  · show (S ++ X).size ≤ _; rw [catZ]; omega
def siteT (k : Nat) : ByteArray := ⟨#[59, 32]⟩ ++ sT k
theorem refT_text {t : CkT} {S0 S1 S2 S3 S4 S5 S6 S7 N1 D A : ByteArray} (hN1 : N1 = tx t.name ++ ⟨#[61]⟩) (h0 : S0 = N1 ++ tx t.value) (h1 : S1 = moreT t.hasExp S0 (⟨#[59, 32, 69, 120, 112, 105, 114, 101, 115, 61]⟩ ++ D)) (h2 : S2 = moreT t.hasAge S1 (⟨#[59, 32, 77, 97, 120, 45, 65, 103, 101, 61]⟩ ++ A))
    (h3 : S3 = moreT (decide (t.domain ≠ [])) S2 (⟨#[59, 32, 68, 111, 109, 97, 105, 110, 61]⟩ ++ tx t.domain)) (h4 : S4 = moreT (decide (t.path ≠ [])) S3 (⟨#[59, 32, 80, 97, 116, 104, 61]⟩ ++ tx t.path)) (h5 : S5 = moreT t.secure S4 ⟨#[59, 32, 83, 101, 99, 117, 114, 101]⟩) (h6 : S6 = moreT t.hidden S5 ⟨#[59, 32, 72, 116, 116, 112, 79, 110, 108, 121]⟩)
    (h7 : S7 = moreT (decide (1 ≤ t.site ∧ t.site ≤ 3)) S6 (siteT t.site)) : S7.data.toList = textC t D.data.toList A.data.toList := by
  rw [h7, moreT_list, h6, moreT_list, h5, moreT_list, h4, moreT_list, h3, moreT_list, h2, moreT_list, h1, moreT_list, h0, catL, hN1, catL]
  simp only [catL, tx_list]
  unfold textC partsC headC siteT
  rw [catL]
  simp only [List.flatMap_append]
  have e : (if decide (1 ≤ t.site ∧ t.site ≤ 3) = true then (⟨#[59, 32]⟩ : ByteArray).data.toList ++ (sT t.site).data.toList else []) = ((if t.site = 1 then [[83, 97, 109, 101, 83, 105, 116, 101] ++ 61 :: [83, 116, 114, 105, 99, 116]] else if t.site = 2 then [[83, 97, 109, 101, 83, 105, 116, 101] ++ 61 :: [76, 97, 120]] else if t.site = 3 then [[83, 97, 109, 101, 83, 105, 116, 101] ++ 61 :: [78, 111, 110, 101]] else []).flatMap fun p => (59 : UInt8) :: 32 :: p) := by
    by_cases k1 : t.site = 1
    · rw [k1]; rfl
    · by_cases k2 : t.site = 2
      · rw [k2]; rfl
      · by_cases k3 : t.site = 3
        · rw [k3]; rfl
        · rw [if_neg (by simp; omega), if_neg k1, if_neg k2, if_neg k3]; rfl
  rw [e]
  have f : ∀ (b : Prop) [Decidable b] (X : List UInt8), ((if b then [X] else []).flatMap fun p => (59 : UInt8) :: 32 :: p) = if b then 59 :: 32 :: X else [] := by
    intro b _ X
    split <;> simp
  simp only [f]
  simp
set_option maxHeartbeats 4000000 in
set_option maxRecDepth 100000 in
theorem textR_any (t : CkT) (ht : WfC t) (hz : t.name.length + t.value.length + t.domain.length + t.path.length ≤ 4194304) (D A : ByteArray) (hD : DateTx t.exp D) (hA : A.data.toList = Lib.itoa t.age) (w : World) :
    Calls Tryz.prog 19 #[.agg (rowC t)] w (TextR t D A w) := by
  obtain ⟨C, hC⟩ : ∃ C, C = rowC t := ⟨_, rfl⟩
  rw [← hC]
  have hbox : Blk (w.alloc (.cells C 24)) w.heap.size 24 (rowC t) := by rw [hC]; exact Blk.first w _ _
  have W0 := hid (show TR w w.heap.size t (w.alloc (.cells C 24)) from ⟨hbox, (Below.refl _ _).alloc (Nat.le_refl _) _⟩)
  clear hbox
  have b1 := (wf_bounds ht.age).1
  have b2 := (wf_bounds ht.age).2
  have hmin : IntKind.i64.min = -9223372036854775808 := rfl
  have hmax : IntKind.i64.max = 9223372036854775807 := rfl
  rw [hmin] at b1
  rw [hmax] at b2
  clear hmin hmax
  by_cases hage : t.age < -2147483647 ∨ t.age > 2147483647
  · have hno := hid (show ¬ parseC (textC t D.data.toList A.data.toList) = (t, 0) from fun h => by have := (goodC_of h).age1; omega)
    clear hD hA hz ht hC
    go_enter Tryz.func19, Tryz.ntmps19
    go_upto_region 1 with fail
    generalize w.alloc _ = w1 at *
    have c6 : w1.cell? ⟨w.heap.size, 6, none⟩ = some (.int .i64 t.age) := W0.out.row.cell rfl
    rcases hage with h | h
    all_goals
      go_wp2
      go_ret2
      exact ⟨ret_valH (by rw [if_neg hno.out]; rfl), W0.out.below⟩
  · have a1 : ¬ t.age < -2147483647 := fun h => hage (.inl h)
    have a2 : ¬ t.age > 2147483647 := fun h => hage (.inr h)
    obtain ⟨o, hTx⟩ := textR_to hD
    have hDl := dateTx_len hD
    have hAl : A.size ≤ 20 := by rw [Lib.size_eq, hA]; exact itoa_len b1 b2
    have HI := hid (fun w => digitsI t.age (by omega) (by omega) A hA w)
    have HTx := hid hTx
    have zz : (tx t.name).size + (tx t.value).size + (tx t.domain).size + (tx t.path).size ≤ 4194304 := by rw [tx_size, tx_size, tx_size, tx_size]; exact hz
    obtain ⟨N1, hN1⟩ : ∃ X, X = tx t.name ++ ⟨#[61]⟩ := ⟨_, rfl⟩
    have zN1 : N1.size = (tx t.name).size + 1 := by rw [hN1, catZ]; rfl
    obtain ⟨S0, hS0⟩ : ∃ X, X = N1 ++ tx t.value := ⟨_, rfl⟩
    have z0 : S0.size = (tx t.name).size + 1 + (tx t.value).size := by rw [hS0, catZ, zN1]
    have p1 := addS hN1 (by omega) (by show (1 : Int) ≤ _; decide)
    have p2 := addS hS0 (by omega) (by omega)
    have HS0 := hid hS0
    have HN1 := hid hN1
    have Hht := hid ht
    clear hTx hD hA hz ht hS0 hN1 hC hage
    go_enter Tryz.func19, Tryz.ntmps19

    go_upto_region 1 with fail
    generalize w.alloc _ = w1 at *
    obtain ⟨bt, hbt⟩ : ∃ bt, bt = w.heap.size := ⟨_, rfl⟩
    rw [← hbt] at W0 ⊢
    clear hbt
    have c6 : w1.cell? ⟨bt, 6, none⟩ = some (.int .i64 t.age) := W0.out.row.cell rfl
    have c0 : w1.cell? ⟨bt, 0, none⟩ = some (.string (tx t.name)) := W0.out.row.cell rfl
    have c1 : w1.cell? ⟨bt, 1, none⟩ = some (.string (tx t.value)) := W0.out.row.cell rfl
    have c5 : w1.cell? ⟨bt, 5, none⟩ = some (.bool t.hasExp) := W0.out.row.cell rfl
    go_upto_if 24 with fail
    clear c6 c0 c1 c5 p1 p2
    obtain ⟨S1, hS1⟩ : ∃ X, X = moreT t.hasExp S0 (⟨#[59, 32, 69, 120, 112, 105, 114, 101, 115, 61]⟩ ++ D) := ⟨_, rfl⟩
    have z1 : S1.size ≤ S0.size + 39 := by rw [hS1]; have := moreT_size t.hasExp S0 (⟨#[59, 32, 69, 120, 112, 105, 114, 101, 115, 61]⟩ ++ D); rw [catZ] at this; have e : (⟨#[59, 32, 69, 120, 112, 105, 114, 101, 115, 61]⟩ : ByteArray).size = 10 := rfl; omega
    have HS1 := hid hS1
    go_cut [4] (fun va wx => va = .string S1 ∧ TR w bt t wx)
    case first =>
      cases hx : t.hasExp with
      | false =>
        have e := hid (show S1 = S0 by rw [hS1, hx]; rfl)
        clear hS1
        go_wp2
        go_meet
        exact ⟨by rw [e.out], W0.out⟩
      | true =>
        obtain ⟨X1, hX1⟩ : ∃ X, X = S0 ++ ⟨#[59, 32, 69, 120, 112, 105, 114, 101, 115, 61]⟩ := ⟨_, rfl⟩
        have zX : X1.size = S0.size + 10 := by rw [hX1, catZ]; rfl
        have e : S1 = X1 ++ D := by rw [hS1, hx, hX1, moreT, if_pos rfl, ByteArray.append_assoc]
        have q1 := addS hX1 (by omega) (by show (10 : Int) ≤ _; decide)
        have q2 := addS e (by omega) (by omega)
        have c4 : w1.cell? ⟨bt, 4, none⟩ = some (.int .i64 t.exp) := W0.out.row.cell rfl
        clear hS1 hX1 e hx
        go_wp2_with fail
        refine (HTx.out _).mono ?_
        rintro e w2 ⟨rfl, hb2⟩
        have W2 := hid (W0.out.go hb2)
        clear hb2 c4
        go_wp2
        go_meet
        exact ⟨rfl, W2.out⟩
    case rest =>
      obtain ⟨rfl, hT1⟩ := hcut
      have W1 := hid hT1
      clear hT1 hS1 W0
      generalize wc = v2 at *
      have c7 : v2.cell? ⟨bt, 7, none⟩ = some (.bool t.hasAge) := W1.out.row.cell rfl
      go_upto_if 36 with fail
      obtain ⟨S2, hS2⟩ : ∃ X, X = moreT (t.hasAge) S1 (⟨#[59, 32, 77, 97, 120, 45, 65, 103, 101, 61]⟩ ++ A) := ⟨_, rfl⟩
      have z2 : S2.size ≤ S1.size + (10 + 20) := by rw [hS2]; have := moreT_size (t.hasAge) S1 (⟨#[59, 32, 77, 97, 120, 45, 65, 103, 101, 61]⟩ ++ A); rw [catZ] at this; have e : (⟨#[59, 32, 77, 97, 120, 45, 65, 103, 101, 61]⟩ : ByteArray).size = 10 := rfl; omega
      have HS2 := hid hS2
      go_cut [4] (fun va wx => va = .string S2 ∧ TR w bt t wx)
      case first =>
        cases hx : t.hasAge with
        | false =>
          have e := hid (show S2 = S1 by rw [hS2, hx]; rfl)
          clear hS2
          go_wp2
          go_meet
          exact ⟨by rw [e.out], W1.out⟩
        | true =>
          obtain ⟨X1, hX1⟩ : ∃ X, X = S1 ++ ⟨#[59, 32, 77, 97, 120, 45, 65, 103, 101, 61]⟩ := ⟨_, rfl⟩
          have zX : X1.size = S1.size + 10 := by rw [hX1, catZ]; rfl
          have e : S2 = X1 ++ A := by rw [hS2, hx, hX1, moreT, if_pos rfl, ByteArray.append_assoc]
          have q1 := addS hX1 (by omega) (by show (10 : Int) ≤ _; decide)
          have q2 := addS e (by omega) (by omega)
          have c6 : v2.cell? ⟨bt, 6, none⟩ = some (.int .i64 t.age) := W1.out.row.cell rfl
          clear hS2 hX1 e hx
          go_wp2_with fail
          refine (HI.out _).mono ?_
          rintro e w2 ⟨rfl, hb2⟩
          have W2 := hid (W1.out.go hb2)
          clear hb2 c6
          go_wp2
          go_meet
          exact ⟨rfl, W2.out⟩
      case rest =>
        obtain ⟨rfl, hT2⟩ := hcut
        have W2 := hid hT2
        clear hT2 hS2 W1 c7
        obtain ⟨bd, hbd⟩ : ∃ b, b = decide (t.domain ≠ []) := ⟨_, rfl⟩
        have ee := isEmpty_tx hbd
        have Hbd := hid hbd
        clear hbd
        generalize wc = v3 at *
        have c2 : v3.cell? ⟨bt, 2, none⟩ = some (.string (tx t.domain)) := W2.out.row.cell rfl
        go_upto_if 45 with fail
        obtain ⟨S3, hS3⟩ : ∃ X, X = moreT (bd) S2 (⟨#[59, 32, 68, 111, 109, 97, 105, 110, 61]⟩ ++ tx t.domain) := ⟨_, rfl⟩
        have z3 : S3.size ≤ S2.size + (9 + (tx t.domain).size) := by rw [hS3]; have := moreT_size (bd) S2 (⟨#[59, 32, 68, 111, 109, 97, 105, 110, 61]⟩ ++ tx t.domain); rw [catZ] at this; have e : (⟨#[59, 32, 68, 111, 109, 97, 105, 110, 61]⟩ : ByteArray).size = 9 := rfl; omega
        have HS3 := hid hS3
        go_cut [4] (fun va wx => va = .string S3 ∧ TR w bt t wx)
        case first =>
          cases hx : bd with
          | false =>
            rw [hx] at ee
            have e := hid (show S3 = S2 by rw [hS3, hx]; rfl)
            clear hS3
            go_wp2
            go_meet
            exact ⟨by rw [e.out], W2.out⟩
          | true =>
            rw [hx] at ee
            obtain ⟨X1, hX1⟩ : ∃ X, X = S2 ++ ⟨#[59, 32, 68, 111, 109, 97, 105, 110, 61]⟩ := ⟨_, rfl⟩
            have zX : X1.size = S2.size + 9 := by rw [hX1, catZ]; rfl
            have e : S3 = X1 ++ tx t.domain := by rw [hS3, hx, hX1, moreT, if_pos rfl, ByteArray.append_assoc]
            have q1 := addS hX1 (by omega) (by show (9 : Int) ≤ _; decide)
            have q2 := addS e (by omega) (by omega)
            clear hS3 hX1 e hx
            go_wp2
            go_meet
            exact ⟨rfl, W2.out⟩
        case rest =>
          obtain ⟨rfl, hT3⟩ := hcut
          have W3 := hid hT3
          clear hT3 hS3 W2 c2 ee
          obtain ⟨bp, hbp⟩ : ∃ b, b = decide (t.path ≠ []) := ⟨_, rfl⟩
          have ee := isEmpty_tx hbp
          have Hbp := hid hbp
          clear hbp
          generalize wc = v4 at *
          have c3 : v4.cell? ⟨bt, 3, none⟩ = some (.string (tx t.path)) := W3.out.row.cell rfl
          go_upto_if 53 with fail
          obtain ⟨S4, hS4⟩ : ∃ X, X = moreT (bp) S3 (⟨#[59, 32, 80, 97, 116, 104, 61]⟩ ++ tx t.path) := ⟨_, rfl⟩
          have z4 : S4.size ≤ S3.size + (7 + (tx t.path).size) := by rw [hS4]; have := moreT_size (bp) S3 (⟨#[59, 32, 80, 97, 116, 104, 61]⟩ ++ tx t.path); rw [catZ] at this; have e : (⟨#[59, 32, 80, 97, 116, 104, 61]⟩ : ByteArray).size = 7 := rfl; omega
          have HS4 := hid hS4
          go_cut [4] (fun va wx => va = .string S4 ∧ TR w bt t wx)
          case first =>
            cases hx : bp with
            | false =>
              rw [hx] at ee
              have e := hid (show S4 = S3 by rw [hS4, hx]; rfl)
              clear hS4
              go_wp2
              go_meet
              exact ⟨by rw [e.out], W3.out⟩
            | true =>
              rw [hx] at ee
              obtain ⟨X1, hX1⟩ : ∃ X, X = S3 ++ ⟨#[59, 32, 80, 97, 116, 104, 61]⟩ := ⟨_, rfl⟩
              have zX : X1.size = S3.size + 7 := by rw [hX1, catZ]; rfl
              have e : S4 = X1 ++ tx t.path := by rw [hS4, hx, hX1, moreT, if_pos rfl, ByteArray.append_assoc]
              have q1 := addS hX1 (by omega) (by show (7 : Int) ≤ _; decide)
              have q2 := addS e (by omega) (by omega)
              clear hS4 hX1 e hx
              go_wp2
              go_meet
              exact ⟨rfl, W3.out⟩
          case rest =>
            obtain ⟨rfl, hT4⟩ := hcut
            have W4 := hid hT4
            clear hT4 hS4 W3 c3 ee
            generalize wc = v5 at *
            have c8 : v5.cell? ⟨bt, 8, none⟩ = some (.bool t.secure) := W4.out.row.cell rfl
            go_upto_if 60 with fail
            obtain ⟨S5, hS5⟩ : ∃ X, X = moreT (t.secure) S4 (⟨#[59, 32, 83, 101, 99, 117, 114, 101]⟩) := ⟨_, rfl⟩
            have z5 : S5.size ≤ S4.size + 8 := by rw [hS5]; have := moreT_size (t.secure) S4 ⟨#[59, 32, 83, 101, 99, 117, 114, 101]⟩; have e : (⟨#[59, 32, 83, 101, 99, 117, 114, 101]⟩ : ByteArray).size = 8 := rfl; omega
            have HS5 := hid hS5
            go_cut [4] (fun va wx => va = .string S5 ∧ TR w bt t wx)
            case first =>
              cases hx : t.secure with
              | false =>
                have e := hid (show S5 = S4 by rw [hS5, hx]; rfl)
                clear hS5
                go_wp2
                go_meet
                exact ⟨by rw [e.out], W4.out⟩
              | true =>
                have e : S5 = S4 ++ ⟨#[59, 32, 83, 101, 99, 117, 114, 101]⟩ := by rw [hS5, hx]; rfl
                have q2 := addS e (by omega) (by show (8 : Int) ≤ _; decide)
                clear hS5 e hx
                go_wp2
                go_meet
                exact ⟨rfl, W4.out⟩
            case rest =>
              obtain ⟨rfl, hT5⟩ := hcut
              have W5 := hid hT5
              clear hT5 hS5 W4 c8
              generalize wc = v6 at *
              have c9 : v6.cell? ⟨bt, 9, none⟩ = some (.bool t.hidden) := W5.out.row.cell rfl
              go_upto_if 64 with fail
              obtain ⟨S6, hS6⟩ : ∃ X, X = moreT (t.hidden) S5 (⟨#[59, 32, 72, 116, 116, 112, 79, 110, 108, 121]⟩) := ⟨_, rfl⟩
              have z6 : S6.size ≤ S5.size + 10 := by rw [hS6]; have := moreT_size (t.hidden) S5 ⟨#[59, 32, 72, 116, 116, 112, 79, 110, 108, 121]⟩; have e : (⟨#[59, 32, 72, 116, 116, 112, 79, 110, 108, 121]⟩ : ByteArray).size = 10 := rfl; omega
              have HS6 := hid hS6
              go_cut [4] (fun va wx => va = .string S6 ∧ TR w bt t wx)
              case first =>
                cases hx : t.hidden with
                | false =>
                  have e := hid (show S6 = S5 by rw [hS6, hx]; rfl)
                  clear hS6
                  go_wp2
                  go_meet
                  exact ⟨by rw [e.out], W5.out⟩
                | true =>
                  have e : S6 = S5 ++ ⟨#[59, 32, 72, 116, 116, 112, 79, 110, 108, 121]⟩ := by rw [hS6, hx]; rfl
                  have q2 := addS e (by omega) (by show (10 : Int) ≤ _; decide)
                  clear hS6 e hx
                  go_wp2
                  go_meet
                  exact ⟨rfl, W5.out⟩
              case rest =>
                obtain ⟨rfl, hT6⟩ := hcut
                have W6 := hid hT6
                clear hT6 hS6 W5 c9
                generalize wc = v7 at *
                have c10 : v7.cell? ⟨bt, 10, none⟩ = some (.int .u8 (t.site : Nat)) := W6.out.row.cell rfl
                have hst := Hht.out.site
                obtain ⟨S7, hS7⟩ : ∃ X, X = moreT (decide (1 ≤ t.site ∧ t.site ≤ 3)) S6 (siteT t.site) := ⟨_, rfl⟩
                have zs : (siteT t.site).size ≤ 17 := by
                  have : (sT t.site).size ≤ 15 := by
                    unfold sT
                    split
                    · decide
                    · split <;> decide
                  unfold siteT
                  rw [catZ]
                  have e : (⟨#[59, 32]⟩ : ByteArray).size = 2 := rfl
                  omega
                have HS7 := hid hS7
                go_upto_block 0 with fail
                go_cut [4] (fun va wx => va = .string S7 ∧ TR w bt t wx)
                case first =>
                  have hk : t.site = 1 ∨ t.site = 2 ∨ t.site = 3 ∨ ¬ (1 ≤ t.site ∧ t.site ≤ 3) := by omega
                  rcases hk with hx | hx | hx | hx
                  · have e : S7 = S6 ++ ⟨#[59, 32, 83, 97, 109, 101, 83, 105, 116, 101, 61, 83, 116, 114, 105, 99, 116]⟩ := by rw [hS7, hx]; rfl
                    have q2 := addS e (by omega) (by show (17 : Int) ≤ _; decide)
                    have i1 : ((t.site : Int) == 1) = true := by rw [hx]; rfl
                    have i2 : ((t.site : Int) == 2) = false := by rw [hx]; rfl
                    have i3 : ((t.site : Int) == 3) = false := by rw [hx]; rfl
                    clear hS7 e hx
                    go_wp2
                    go_meet
                    exact ⟨rfl, W6.out⟩
                  · have e : S7 = S6 ++ ⟨#[59, 32, 83, 97, 109, 101, 83, 105, 116, 101, 61, 76, 97, 120]⟩ := by rw [hS7, hx]; rfl
                    have q2 := addS e (by omega) (by show (14 : Int) ≤ _; decide)
                    have i1 : ((t.site : Int) == 1) = false := by rw [hx]; rfl
                    have i2 : ((t.site : Int) == 2) = true := by rw [hx]; rfl
                    have i3 : ((t.site : Int) == 3) = false := by rw [hx]; rfl
                    clear hS7 e hx
                    go_wp2
                    go_meet
                    exact ⟨rfl, W6.out⟩
                  · have e : S7 = S6 ++ ⟨#[59, 32, 83, 97, 109, 101, 83, 105, 116, 101, 61, 78, 111, 110, 101]⟩ := by rw [hS7, hx]; rfl
                    have q2 := addS e (by omega) (by show (15 : Int) ≤ _; decide)
                    have i1 : ((t.site : Int) == 1) = false := by rw [hx]; rfl
                    have i2 : ((t.site : Int) == 2) = false := by rw [hx]; rfl
                    have i3 : ((t.site : Int) == 3) = true := by rw [hx]; rfl
                    clear hS7 e hx
                    go_wp2
                    go_meet
                    exact ⟨rfl, W6.out⟩
                  · have e := hid (show S7 = S6 by rw [hS7, decide_eq_false hx]; rfl)
                    have i1 : ((t.site : Int) == 1) = false := by rw [beq_eq_false_iff_ne]; omega
                    have i2 : ((t.site : Int) == 2) = false := by rw [beq_eq_false_iff_ne]; omega
                    have i3 : ((t.site : Int) == 3) = false := by rw [beq_eq_false_iff_ne]; omega
                    clear hS7 hx
                    go_wp2
                    go_meet
                    exact ⟨by rw [e.out], W6.out⟩
                case rest =>
                  obtain ⟨rfl, hT7⟩ := hcut
                  have W7 := hid hT7
                  clear hT7 W6 c10 hst zs hS7
                  generalize wc = v8 at *
                  have g3 := HS3.out
                  rw [Hbd.out] at g3
                  have g4 := HS4.out
                  rw [Hbp.out] at g4
                  have hl := refT_text (t := t) (D := D) (A := A) HN1.out HS0.out HS1.out HS2.out g3 g4 HS5.out HS6.out HS7.out
                  clear g3 g4
                  obtain ⟨u, n, hp⟩ : ∃ u n, parseC S7.data.toList = (u, n) := ⟨_, _, rfl⟩
                  have HP := hid (fun w => parseR_is S7 w u n hp)
                  have hwu := wf_parse hp
                  rw [hl] at hp
                  have Hp := hid hp
                  have HS := hid (show S7 = tx (textC t D.data.toList A.data.toList) by rw [← hl, tx_of])
                  clear hl hp
                  go_wp2_with fail
                  refine (HP.out _).mono ?_
                  rintro e wk ⟨rfl, hbk⟩
                  have Wk := hid (W7.out.go hbk)
                  clear hbk
                  go_upto_region 25 with (refine wpList_store_row rfl 24 _ _ rfl wk.heap.size (rowC u) rfl rfl _ _ (heap_alloc_new wk _) (infoTd u) rfl (rowC_one u) ?_)
                  have hu1 := laid_rowT wk #[.string ⟨#[]⟩, .string ⟨#[]⟩, .string ⟨#[]⟩, .string ⟨#[]⟩, .int .i64 0, .bool false, .int .i64 0, .bool false, .bool false, .bool false, .int .u8 0] (rowC u) 24
                  have Wm := hid (Wk.out.go (laid_belowT wk #[.string ⟨#[]⟩, .string ⟨#[]⟩, .string ⟨#[]⟩, .string ⟨#[]⟩, .int .i64 0, .bool false, .int .i64 0, .bool false, .bool false, .bool false, .int .u8 0] (rowC u) 24))
                  have Hu1 := hid hu1
                  clear hu1
                  generalize World.setRow _ wk.heap.size (rowC u) = wm at *
                  have r1 := Hu1.out
                  have r2 := Wm.out.row
                  by_cases hn : n = 0
                  · subst hn
                    by_cases hut : u = t
                    · have Hq := hid (ck_neq u t hwu Hht.out false (decide_eq_true hut))
                      have q := Hq.out
                      have Hut := hid hut
                      clear hut
                      go_wp2_with (first
                        | (refine load_ckG (by rfl) _ rfl wk.heap.size rfl u r1 ?_)
                        | (refine load_ckG (by rfl) _ rfl bt rfl t r2 ?_))
                      go_ret2
                      exact ⟨ret_valH (by rw [if_pos (by rw [Hp.out, Hut.out]), ← HS.out]; rfl), Wm.out.below⟩
                    · have Hq := hid (ck_neq u t hwu Hht.out true (decide_eq_false hut))
                      have q := Hq.out
                      have Hut := hid hut
                      clear hut
                      go_wp2_with (first
                        | (refine load_ckG (by rfl) _ rfl wk.heap.size rfl u r1 ?_)
                        | (refine load_ckG (by rfl) _ rfl bt rfl t r2 ?_))
                      go_ret2
                      exact ⟨ret_valH (by rw [if_neg (by rw [Hp.out]; intro e; exact Hut.out (by injection e))]; rfl), Wm.out.below⟩
                  · have hn0 : ((n : Int) == 0) = false := by rw [beq_eq_false_iff_ne]; omega
                    have hn1 : ((n : Int) != 0) = true := by rw [bne, hn0]; rfl
                    have Hn := hid hn
                    clear hn r1 r2
                    go_wp2
                    go_ret2
                    exact ⟨ret_valH (by rw [if_neg (by rw [Hp.out]; intro e; exact Hn.out (by injection e))]; rfl), Wm.out.below⟩
end Go.Proofs.YthfndlphhgchnaaGreatDoor
/- Walk: chapter 10's size of a cookie; and the bound on the cookie's texts. -/
namespace Go.Proofs.YthfndlphhgchnaaGreatDoor
open Go.RowKit Go.Lib Go.Proofs.Foot

def sizeC (t : CkT) : Nat := t.name.length + t.value.length + t.domain.length + t.path.length
/-- A cookie whose texts are no longer than any text that can be. -/
structure ReachC (t : CkT) : Prop where
  name : t.name.length ≤ 140737488351232
  value : t.value.length ≤ 140737488351232
  domain : t.domain.length ≤ 140737488351232
  path : t.path.length ≤ 140737488351232
set_option maxHeartbeats 1000000 in
set_option maxRecDepth 100000 in
theorem size_any (t : CkT) (hr : ReachC t) (w : World) :
    Calls Tryz.prog 17 #[.agg (rowC t)] w fun e w' => e = .returned (.int .i64 (sizeC t : Nat)) ∧ Below w.heap.size w w' := by
  obtain ⟨C, hC⟩ : ∃ C, C = rowC t := ⟨_, rfl⟩
  rw [← hC]
  have W0 := hid ((Cks.start w).box hC)
  have r := W0.out.at (g := w.heap.size) (t := t) (by simp)
  have hz : sizeC t = (tx t.name).size + (tx t.value).size + (tx t.domain).size + (tx t.path).size := by rw [tx_size, tx_size, tx_size, tx_size]; rfl
  have z1 : (tx t.name).size ≤ 140737488351232 := by rw [tx_size]; exact hr.name
  have z2 : (tx t.value).size ≤ 140737488351232 := by rw [tx_size]; exact hr.value
  have z3 : (tx t.domain).size ≤ 140737488351232 := by rw [tx_size]; exact hr.domain
  have z4 : (tx t.path).size ≤ 140737488351232 := by rw [tx_size]; exact hr.path
  have v1 : IntKind.i64.wrap (((tx t.name).size : Int) + (tx t.value).size) = ((tx t.name).size : Int) + (tx t.value).size := IntWalk.i64_in _ (by omega)
  have v2 : IntKind.i64.wrap (((tx t.name).size : Int) + (tx t.value).size + (tx t.domain).size) = ((tx t.name).size : Int) + (tx t.value).size + (tx t.domain).size := IntWalk.i64_in _ (by omega)
  have v3 : IntKind.i64.wrap (((tx t.name).size : Int) + (tx t.value).size + (tx t.domain).size + (tx t.path).size) = ((tx t.name).size : Int) + (tx t.value).size + (tx t.domain).size + (tx t.path).size := IntWalk.i64_in _ (by omega)
  have hfin := hid (show ((tx t.name).size : Int) + (tx t.value).size + (tx t.domain).size + (tx t.path).size = (sizeC t : Nat) by rw [hz]; push_cast; rfl)
  have hblk : Blk (w.alloc (.cells C 24)) w.heap.size 24 (rowC t) := by rw [hC]; exact Blk.first w _ _
  clear hz hr hC r
  go_enter Tryz.func17, Tryz.ntmps17
  go_upto_region 1 with fail
  generalize w.alloc _ = w1 at *
  have c0 : w1.cell? ⟨w.heap.size, 0, none⟩ = some (.string (tx t.name)) := hblk.cell rfl
  have c1 : w1.cell? ⟨w.heap.size, 1, none⟩ = some (.string (tx t.value)) := hblk.cell rfl
  have c2 : w1.cell? ⟨w.heap.size, 2, none⟩ = some (.string (tx t.domain)) := hblk.cell rfl
  have c3 : w1.cell? ⟨w.heap.size, 3, none⟩ = some (.string (tx t.path)) := hblk.cell rfl
  clear hblk
  go_wp2
  go_ret
  exact ⟨congrArg (fun x => Ending.returned (.int .i64 x)) hfin.out, W0.out.below⟩
/-- A cookie out of its cells. -/
def toC (n v d p : ByteArray) (x : Int) (hx : Bool) (a : Int) (ha s h : Bool) (k : Int) : CkT := ⟨n.data.toList, v.data.toList, d.data.toList, p.data.toList, x, hx, a, ha, s, h, k.toNat⟩
theorem toC_row {n v d p : ByteArray} {x : Int} {hx : Bool} {a : Int} {ha s h : Bool} {k : Int} (hk : (Lit.int .u8 k).wf = true) :
    (#[.string n, .string v, .string d, .string p, .int .i64 x, .bool hx, .int .i64 a, .bool ha, .bool s, .bool h, .int .u8 k] : Array Value) = rowC (toC n v d p x hx a ha s h k) := by
  have h0 := (wf_bounds hk).1
  have e0 : IntKind.u8.min = 0 := rfl
  rw [e0] at h0
  have e : ((k.toNat : Nat) : Int) = k := by omega
  unfold rowC toC
  simp only [tx_of, e]
theorem toC_wf {n v d p : ByteArray} {x : Int} {hx : Bool} {a : Int} {ha s h : Bool} {k : Int} (zn : n.size ≤ 140737488351232) (zv : v.size ≤ 140737488351232) (zd : d.size ≤ 140737488351232) (zp : p.size ≤ 140737488351232)
    (h1 : (Lit.int .i64 x).wf = true) (h2 : (Lit.int .i64 a).wf = true) (hk : (Lit.int .u8 k).wf = true) : WfC (toC n v d p x hx a ha s h k) ∧ ReachC (toC n v d p x hx a ha s h k) := by
  have h0 := (wf_bounds hk).1
  have h3 := (wf_bounds hk).2
  have e0 : IntKind.u8.min = 0 := rfl
  have e1 : IntKind.u8.max = 255 := rfl
  rw [e0] at h0
  rw [e1] at h3
  rw [Lib.size_eq] at zn zv zd zp
  exact ⟨⟨by show n.data.toList.length ≤ _; unfold maxLen; omega, by show v.data.toList.length ≤ _; unfold maxLen; omega, by show d.data.toList.length ≤ _; unfold maxLen; omega, by show p.data.toList.length ≤ _; unfold maxLen; omega, h1, h2, by show k.toNat < 256; omega⟩, ⟨zn, zv, zd, zp⟩⟩
end Go.Proofs.YthfndlphhgchnaaGreatDoor
/- Walk of the law SetcookieTexts: Text of setcookie and of the reference agree. -/
namespace Go.Proofs.YthfndlphhgchnaaGreatDoor
open Go.RowKit Go.Lib Go.Proofs.Foot

set_option maxHeartbeats 1000000 in
set_option maxRecDepth 100000 in
theorem texts_told (t : CkT) (ht : WfC t) (hr : ReachC t) (w : World) (G : Good w) :
    Calls Tryz.prog 6 #[.agg (rowC t)] w fun e w' => e = .returned (.bool true) ∧ Below w.heap.size w w' := by
  have HG := hid G
  have z : sizeC t ≤ 1125899906842624 := by have := hr.name; have := hr.value; have := hr.domain; have := hr.path; unfold sizeC; omega
  have HS := hid (fun w => size_any t hr w)
  have W0 := hid ((Cks.start w).box (t := t) rfl)
  have hr1 : (w.alloc (.cells (rowC t) 24)).heap[w.heap.size]? = some (.cells (rowC t) 24 (0, 0)) := W0.out.at (by simp)
  have hi := infoTd t
  cases hb : beyond [sizeC t] with
  | true =>
    clear ht G hr
    generalize rowC t = C at *
    go_enter Tryz.func6, Tryz.ntmps6
    go_upto_region 1 with fail
    generalize w.alloc _ = w1 at *
    go_wp2_with (refine wpList_load_row rfl 24 _ rfl w.heap.size rfl _ _ _ _ hr1 Tryz.underlying24 rfl hi ?_)
    refine (HS.out _).mono ?_
    rintro e w2 ⟨rfl, hb2⟩
    have W2 := hid (W0.out.go hb2)
    clear hb2 hr1
    go_wp2_with fail
    refine (beyondW _ _ z).mono ?_
    rintro e w3 ⟨rfl, rfl⟩
    have W3 := hid (W2.out.alloc (.cells #[.int .i64 (sizeC t : Nat)] 3))
    rw [hb]
    go_wp2
    go_ret
    exact ⟨rfl, W3.out.below⟩
  | false =>
    have hle := beyond_le (zs := [sizeC t]) (by rw [hb]; decide)
    have hs : sizeC t ≤ 1048576 := by simpa using hle
    obtain ⟨D, hD⟩ := dateTx_ex t.exp
    obtain ⟨A, hA⟩ : ∃ A : ByteArray, A.data.toList = Lib.itoa t.age := ⟨tx (Lib.itoa t.age), tx_list _⟩
    have HA := hid (fun w (G : Good w) => textA_any t ht (by unfold sizeC at hs; omega) D A hD hA w G)
    have HR := hid (fun w => textR_any t ht (by unfold sizeC at hs; omega) D A hD hA w)
    have hx : ∃ (S : ByteArray) (n : Int), (if parseC (textC t D.data.toList A.data.toList) = (t, 0) then (.tuple #[.string (tx (textC t D.data.toList A.data.toList)), .int .i64 0] : Value) else .tuple #[.string ⟨#[]⟩, .int .i64 1]) = .tuple #[.string S, .int .i64 n] := by split <;> exact ⟨_, _, rfl⟩
    obtain ⟨S, n, hx⟩ := hx
    unfold TextR at HA HR
    rw [hx] at HA HR
    clear ht G hr hle hs hD hA hx
    generalize hC : rowC t = C at *
    have HC := hid hC
    clear hC
    go_enter Tryz.func6, Tryz.ntmps6
    go_upto_region 1 with fail
    generalize w.alloc _ = w1 at *
    go_wp2_with (refine wpList_load_row rfl 24 _ rfl w.heap.size rfl _ _ _ _ hr1 Tryz.underlying24 rfl hi ?_)
    refine (HS.out _).mono ?_
    rintro e w2 ⟨rfl, hb2⟩
    have W2 := hid (W0.out.go hb2)
    clear hb2 hr1
    go_wp2_with fail
    refine (beyondW _ _ z).mono ?_
    rintro e w3 ⟨rfl, rfl⟩
    have W3 := hid (W2.out.alloc (.cells #[.int .i64 (sizeC t : Nat)] 3))
    rw [hb]
    generalize w2.alloc _ = w3 at *
    have hr3 := W3.out.at (g := w.heap.size) (t := t) (by simp)
    rw [HC.out] at hr3
    go_wp2_with (refine wpList_load_row rfl 24 _ rfl w.heap.size rfl _ _ _ _ hr3 Tryz.underlying24 rfl hi ?_)
    refine (HA.out _ (HG.out.below W3.out.below)).mono ?_
    rintro e w4 ⟨rfl, hb4⟩
    have W4 := hid (W3.out.go hb4)
    clear hb4 hr3
    have hr4 := W4.out.at (g := w.heap.size) (t := t) (by simp)
    rw [HC.out] at hr4
    go_wp2_with (refine wpList_load_row rfl 24 _ rfl w.heap.size rfl _ _ _ _ hr4 Tryz.underlying24 rfl hi ?_)
    refine (HR.out _).mono ?_
    rintro e w5 ⟨rfl, hb5⟩
    have W5 := hid (W4.out.go hb5)
    clear hb5 hr4
    go_wp2
    go_ret
    exact ⟨rfl, W5.out.below⟩
theorem setcookieTexts_walk (x0 : ByteArray) (_w0 : x0.size ≤ maxLen) (z0 : x0.size ≤ 140737488351232) (x1 : ByteArray) (_w1 : x1.size ≤ maxLen) (z1 : x1.size ≤ 140737488351232) (x2 : ByteArray) (_w2 : x2.size ≤ maxLen) (z2 : x2.size ≤ 140737488351232) (x3 : ByteArray) (_w3 : x3.size ≤ maxLen) (z3 : x3.size ≤ 140737488351232)
    (x4 : Int) (w4 : (Lit.int .i64 x4).wf = true) (x5 : Bool) (x6 : Int) (w6 : (Lit.int .i64 x6).wf = true) (x7 x8 x9 : Bool) (x10 : Int) (w10 : (Lit.int .u8 x10).wf = true) (w : World) (hL : laidMetH Tryz.prog Rows.setcookieTextsRow.laid w) (hsh : w.ShapedOpen Tryz.prog) :
    Calls Tryz.prog 6 #[.agg #[.string x0, .string x1, .string x2, .string x3, .int .i64 x4, .bool x5, .int .i64 x6, .bool x7, .bool x8, .bool x9, .int .u8 x10]] w fun e w' => e = .returned (.bool true) ∧ Below w.heap.size w w' := by
  have G := good_of hL (by kernel_rfl) (by kernel_rfl) (by kernel_rfl) hsh
  obtain ⟨h1, h2⟩ := toC_wf (s := x8) (h := x9) (hx := x5) (ha := x7) z0 z1 z2 z3 w4 w6 w10
  rw [toC_row w10]
  exact texts_told _ h1 h2 w G
end Go.Proofs.YthfndlphhgchnaaGreatDoor
