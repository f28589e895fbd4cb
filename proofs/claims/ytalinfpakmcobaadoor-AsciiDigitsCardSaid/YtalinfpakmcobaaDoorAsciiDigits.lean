/- Walk of the law AsciiDigits: the digits of a number tell it, noughts ahead or not. -/
import Derived.Test.YtalinfpakmcobaaDoorAlv1
import Derived.Test.YtalinfpakmcobaaDoorRows
import Derived.IntWalk
import Derived.Lib.ItoaLen
namespace Go.Proofs.YtalinfpakmcobaaDoor
open Go.RowKit Go.Lib Go.Proofs.Foot

/-- One digit as a text. -/
theorem cat_list (s t : ByteArray) : (s ++ t).data.toList = s.data.toList ++ t.data.toList := by simp [ByteArray.data_append]
theorem cat_size (s t : ByteArray) : (s ++ t).size = s.size + t.size := by rw [Lib.size_eq, cat_list, List.length_append, ← Lib.size_eq, ← Lib.size_eq]
theorem nd_le {n : Nat} (h : n < 18446744073709551616) : Lib.nDigits n ≤ 21 := by
  have := Lib.nDigits_le20 n h
  omega
def tenT : ByteArray := ⟨#[48, 49, 50, 51, 52, 53, 54, 55, 56, 57]⟩
theorem ten_at (d : Nat) (h : d < 10) (a b : Nat) (ha : a = d) (hb : b = d + 1) : (tenT.extract a b).data.toList = [UInt8.ofNat (48 + d)] := by
  rw [ha, hb]
  have : ∀ d < 10, (tenT.extract d (d + 1)).data.toList = [UInt8.ofNat (48 + d)] := by decide +kernel
  exact this d h
/-- A bound that no walk looks into. -/
def U64 : Int := 18446744073709551616
theorem dec_lt {n : Nat} (h : n < 10) : Lib.decDigits n = [UInt8.ofNat (48 + n % 10)] := by rw [Lib.decDigits, dif_pos h, Nat.mod_eq_of_lt h]
theorem dec_ge {n : Nat} (h : ¬ n < 10) : Lib.decDigits n = Lib.decDigits (n / 10) ++ [UInt8.ofNat (48 + n % 10)] := by rw [Lib.decDigits, dif_neg h]

set_option maxHeartbeats 1000000 in
set_option maxRecDepth 100000 in
theorem digits_any (n : Nat) (hn : (n : Int) < U64) (w : World) :
    Calls Tryd.prog 24 #[.int .u64 n] w fun e w' => e = .returned (.string ⟨(Lib.decDigits n).toArray⟩) ∧ w = w' := by
  have hU : U64 = 18446744073709551616 := rfl
  have hn' : n < 18446744073709551616 := by omega
  obtain ⟨d, hd⟩ : ∃ d : Nat, (n : Int) % 10 = (d : Int) := ⟨n % 10, by omega⟩
  have hd10 : d < 10 := by omega
  obtain ⟨DT, hDT⟩ : ∃ A : ByteArray, A = tenT.extract (d : Int).toNat ((d : Int) + 1).toNat := ⟨_, rfl⟩
  have lDT : DT.data.toList = [UInt8.ofNat (48 + d)] := by rw [hDT]; exact ten_at d hd10 _ _ (by omega) (by omega)
  have sl : ∀ V, (Instr.slice 9 (.string ⟨#[48, 49, 50, 51, 52, 53, 54, 55, 56, 57]⟩) (some (.int .u64 (d : Int))) (some (.int .u64 ((d : Int) + 1))) none).run Tryd.prog V = .ok (.string DT) V := fun V => by
    rw [hDT]; exact run_slice_string V _ _ _ _ _ _ Tryd.underlying9 (by omega) (by omega) (by show (d : Int) + 1 ≤ 10; omega)
  have H0 : Hid (∃ tail, DT.data.toList = UInt8.ofNat (48 + n % 10) :: tail ∧ Lib.decDigits n = Lib.decDigits n ++ tail) := hid ⟨[], by rw [lDT, show n % 10 = d from by omega], by simp⟩
  have hz1 : DT.size = 1 := by rw [Lib.size_eq, lDT]; rfl
  have Hz1 := hid hz1
  have HN := hid hn'
  clear hn hU hn' hDT lDT hz1
  go_enter Tryd.func24, Tryd.ntmps24
  go_wp2_with fail
  go_loop [0, 3] (fun nn ss => ∃ (m : Nat) (T : ByteArray), nn = .int .u64 m ∧ ss = .string T ∧ Hid (m ≤ n ∧ 9 * T.size + m ≤ n + 9 ∧ ∃ tail, T.data.toList = UInt8.ofNat (48 + m % 10) :: tail ∧ Lib.decDigits n = Lib.decDigits m ++ tail)) (fun nn _ => (RowKit.intOf nn).toNat)
  case atStart => exact ⟨n, DT, rfl, rfl, hid ⟨Nat.le_refl _, by rw [Hz1.out]; omega, H0.out⟩⟩
  case round =>
    obtain ⟨m, T, rfl, rfl, hh⟩ := hrel
    obtain ⟨hmn, hb, tail, hT, hdec⟩ := hh.out
    have hTz : T.size ≤ 4611686018427387904 := by have := HN.out; omega
    have Hb := hid hb
    have HT := hid hT
    have Hdec := hid hdec
    have hmU : m < 18446744073709551616 := by have := HN.out; omega
    have HmU := hid hmU
    have Hmn := hid hmn
    clear hh hb hT hdec hmU hd sl hmn
    by_cases h10 : m < 10
    · have hge : ¬ (m : Int) ≥ 10 := by omega
      have Hfin : Hid (T = ⟨(Lib.decDigits n).toArray⟩) := hid (by
        have e : T.data.toList = Lib.decDigits n := by rw [Hdec.out, dec_lt h10, HT.out]; simp
        rw [← e])
      go_wp2
      go_ret
      exact ⟨ret_val' (by rw [← Hfin.out]; rfl), rfl⟩
    · have hge : (m : Int) ≥ 10 := by omega
      obtain ⟨q, hq⟩ : ∃ q : Nat, (m : Int) / 10 = (q : Int) := ⟨m / 10, by omega⟩
      obtain ⟨e, he⟩ : ∃ e : Nat, (q : Int) % 10 = (e : Int) := ⟨q % 10, by omega⟩
      have he10 : e < 10 := by omega
      obtain ⟨ET, hET⟩ : ∃ A : ByteArray, A = tenT.extract (e : Int).toNat ((e : Int) + 1).toNat := ⟨_, rfl⟩
      have lET : ET.data.toList = [UInt8.ofNat (48 + e)] := by rw [hET]; exact ten_at e he10 _ _ (by omega) (by omega)
      have sl : ∀ V, (Instr.slice 9 (.string ⟨#[48, 49, 50, 51, 52, 53, 54, 55, 56, 57]⟩) (some (.int .u64 (e : Int))) (some (.int .u64 ((e : Int) + 1))) none).run Tryd.prog V = .ok (.string ET) V := fun V => by
        rw [hET]; exact run_slice_string V _ _ _ _ _ _ Tryd.underlying9 (by omega) (by omega) (by show (e : Int) + 1 ≤ 10; omega)
      have hez : ET.size = 1 := by rw [Lib.size_eq, lET]; rfl
      have Hrel : Hid (q ≤ n ∧ 9 * (ET ++ T).size + q ≤ n + 9 ∧ ∃ tail, (ET ++ T).data.toList = UInt8.ofNat (48 + q % 10) :: tail ∧ Lib.decDigits n = Lib.decDigits q ++ tail) := hid (by
        have hb := Hb.out
        have hmn := Hmn.out
        refine ⟨by omega, by rw [cat_size, hez]; omega, T.data.toList, ?_, ?_⟩
        · rw [cat_list, lET, show q % 10 = e from by omega]; rfl
        · rw [Hdec.out, dec_ge h10, HT.out, show m / 10 = q from by omega]; simp)
      have hqm : q < m := by omega
      have w1 : IntKind.u64.wrap (q : Int) = (q : Int) := IntWalk.u64_in _ (by have := HmU.out; omega)
      have w2 : IntKind.u64.wrap ((e : Int) + 1) = (e : Int) + 1 := IntWalk.u64_in _ (by omega)
      have w3 : (q : Int).tmod 10 = (e : Int) := by rw [Int.tmod_eq_emod_of_nonneg (by omega)]; exact he
      clear hET lET
      go_wp2
      go_round
      case rel => exact ⟨q, ET ++ T, rfl, rfl, Hrel⟩
      case measure => simp [RowKit.intOf]; omega

theorem numB_noughts {k n : Nat} {most : Int} {l : List UInt8} (hl : l = List.replicate k 48 ++ Lib.decDigits n) : numB l most = (decide (l.length ≤ 18) && decide ((n : Int) ≤ most)) ∧ digV 0 l = n := by
  subst hl
  have hv : digV 0 (List.replicate k 48 ++ Lib.decDigits n) = n := by rw [digV_noughts, digV_decDigits]
  refine ⟨?_, hv⟩
  unfold numB
  rw [hv, decide_eq_true (noughts_ne k n), List.all_eq_true.2 (noughts_all k n)]
  simp

set_option maxHeartbeats 4000000 in
set_option maxRecDepth 100000 in
theorem asciiDigits_walk (x : Int) (wx : (Lit.int .u64 x).wf = true) (y : Int) (wy : (Lit.int .u64 y).wf = true) (v : Int) (wv : (Lit.int .u8 v).wf = true) (w : World) (_hL : laidMetH Tryd.prog Rows.asciiDigitsRow.laid w) (hsh : w.ShapedOpen Tryd.prog) :
    Calls Tryd.prog 9 #[.int .u64 x, .int .u64 y, .int .u8 v] w fun e w' => e = .returned (.bool true) ∧ Below w.heap.size w w' := by
  have hmin : IntKind.u64.min = 0 := rfl
  have hmax : IntKind.u64.max = 18446744073709551615 := rfl
  have hx := wf_bounds wx
  have hy := wf_bounds wy
  obtain ⟨c, rfl⟩ := u8_of wv
  obtain ⟨n, rfl⟩ := Int.eq_ofNat_of_zero_le (show 0 ≤ x by omega)
  obtain ⟨mo, rfl⟩ := Int.eq_ofNat_of_zero_le (show 0 ≤ y by omega)
  have hU : U64 = 18446744073709551616 := rfl
  have HD := hid (fun w => digits_any n (by omega) w)
  obtain ⟨m, hm⟩ : ∃ m : Nat, (mo : Int) % 1152921504606846976 = (m : Int) := ⟨mo % 1152921504606846976, by omega⟩
  have hm60 : m < 1152921504606846976 := by omega
  have hnU : (n : Int) ≤ 18446744073709551615 := by omega
  have hnoU : (mo : Int) ≤ 18446744073709551615 := by omega
  obtain ⟨T0, hT0⟩ : ∃ T : ByteArray, Lib.decDigits n = T.data.toList := ⟨⟨(Lib.decDigits n).toArray⟩, by simp⟩
  have hT0e : (⟨(Lib.decDigits n).toArray⟩ : ByteArray) = T0 := by rw [hT0]
  rw [hT0e] at HD
  have hlen : T0.size ≤ 21 := by
    rw [Lib.size_eq, ← hT0, Lib.decDigits_length]
    exact nd_le (by omega)
  have G := hid hsh
  have HT0 := hid hT0
  have hc20 : (c.toNat : Int) % 20 < 20 := by omega
  have c256 := c.toNat_lt
  clear _hL hsh wx wy wv hx hy hmin hmax hU hT0 hT0e
  go_enter Tryd.func9, Tryd.ntmps9
  go_wp2_with fail
  refine (HD.out _).mono ?_
  rintro e w' ⟨rfl, rfl⟩
  go_wp2_with fail
  go_loop [8, 9] (fun ss i => ∃ (k : Nat) (T : ByteArray), k ≤ c.toNat % 20 ∧ i = .int .i64 k ∧ ss = .string T ∧ Hid (T.data.toList = List.replicate k 48 ++ Lib.decDigits n)) (fun _ i => c.toNat % 20 - (RowKit.intOf i).toNat)
  case atStart => exact ⟨0, T0, Nat.zero_le _, rfl, rfl, hid (by rw [← HT0.out]; rfl)⟩
  case round =>
    obtain ⟨k, T, hk, rfl, rfl, hT⟩ := hrel
    have q0 : (c.toNat : Int).tmod 20 = (c.toNat : Int) % 20 := Int.tmod_eq_emod_of_nonneg (by omega)
    have hTz : T.size ≤ 60 := by
      rw [Lib.size_eq, hT.out, List.length_append, List.length_replicate, HT0.out, ← Lib.size_eq]; omega
    by_cases hlt : (k : Int) < (c.toNat : Int) % 20
    · have hz1 : (⟨#[48]⟩ : ByteArray).size = 1 := rfl
      have Hn : Hid ((⟨#[48]⟩ ++ T : ByteArray).data.toList = List.replicate (k + 1) 48 ++ Lib.decDigits n) := hid (by
        rw [cat_list, hT.out]; rfl)
      clear hT
      go_wp2
      go_round
      case rel => exact ⟨k + 1, _, by omega, by go_num, rfl, Hn⟩
      case measure => simp [RowKit.intOf]; omega
    · obtain ⟨hnum, hval⟩ := numB_noughts (most := (m : Int)) hT.out
      rw [← Lib.size_eq] at hnum
      have Hval := hid hval
      clear hT hval
      by_cases h18 : T.size ≤ 18
      · have d18 : decide (T.size ≤ 18) = true := decide_eq_true h18
        by_cases hle : n ≤ m
        · have dle : decide (n ≤ m) = true := decide_eq_true hle
          have Hnum : Hid (numB T.data.toList m = true) := hid (by rw [hnum, d18, decide_eq_true (show (n : Int) ≤ m by omega)]; rfl)
          have hn60 : n < 1152921504606846976 := by omega
          have wn : IntKind.i64.wrap (n : Int) = (n : Int) := IntWalk.i64_in _ (by omega)
          clear hnum
          go_wp2_with fail
          refine (num_yes _ T m n (by omega) Hnum.out (by rw [Hval.out])).mono ?_
          rintro e w3 ⟨rfl, hb3⟩
          have B3 := hid hb3
          clear hb3
          go_wp2_with fail
          refine (alive_any _ (good_below G.out B3.out)).mono ?_
          rintro e w4 ⟨rfl, hb4⟩
          have B4 := hid (below_chain B3.out hb4)
          clear hb4
          go_wp2
          go_ret
          exact ⟨rfl, B4.out⟩
        · have dle : decide (n ≤ m) = false := decide_eq_false hle
          have Hnum : Hid (numB T.data.toList m = false) := hid (by rw [hnum, d18, decide_eq_false (show ¬ (n : Int) ≤ m by omega)]; rfl)
          clear hnum
          go_wp2_with fail
          refine (num_no _ T m (by omega) Hnum.out).mono ?_
          rintro e w3 ⟨rfl, hb3⟩
          have B3 := hid hb3
          clear hb3
          go_wp2_with fail
          refine (alive_any _ (good_below G.out B3.out)).mono ?_
          rintro e w4 ⟨rfl, hb4⟩
          have B4 := hid (below_chain B3.out hb4)
          clear hb4
          go_wp2
          go_ret
          exact ⟨rfl, B4.out⟩
      · have d18 : decide (T.size ≤ 18) = false := decide_eq_false h18
        have Hnum : Hid (numB T.data.toList m = false) := hid (by rw [hnum, d18]; rfl)
        clear hnum
        go_wp2_with fail
        refine (num_no _ T m (by omega) Hnum.out).mono ?_
        rintro e w3 ⟨rfl, hb3⟩
        have B3 := hid hb3
        clear hb3
        go_wp2_with fail
        refine (alive_any _ (good_below G.out B3.out)).mono ?_
        rintro e w4 ⟨rfl, hb4⟩
        have B4 := hid (below_chain B3.out hb4)
        clear hb4
        go_wp2
        go_ret
        exact ⟨rfl, B4.out⟩
end Go.Proofs.YtalinfpakmcobaaDoor
