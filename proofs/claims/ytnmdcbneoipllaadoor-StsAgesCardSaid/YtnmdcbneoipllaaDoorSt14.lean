/- Walk: footmanlaw11's digits. -/
import Derived.Test.YtnmdcbneoipllaaDoorSt13
import Derived.Test.YtnmdcbneoipllaaDoorSt22
namespace Go.Proofs.YtnmdcbneoipllaaDoor
open Go.RowKit Go.Lib Go.Proofs.Foot

theorem cat_z (s t : ByteArray) : (s ++ t).size = s.size + t.size := by rw [Lib.size_eq, cat_l, List.length_append, ← Lib.size_eq, ← Lib.size_eq]
/-- A bound that no walk looks into. -/
def U64 : Int := 18446744073709551616
theorem dec_lt {n : Nat} (h : n < 10) : Lib.decDigits n = [UInt8.ofNat (48 + n % 10)] := by rw [Lib.decDigits, dif_pos h, Nat.mod_eq_of_lt h]
theorem dec_ge {n : Nat} (h : ¬ n < 10) : Lib.decDigits n = Lib.decDigits (n / 10) ++ [UInt8.ofNat (48 + n % 10)] := by rw [Lib.decDigits, dif_neg h]

set_option maxHeartbeats 1000000 in
set_option maxRecDepth 100000 in
theorem digits_any (n : Nat) (hn : (n : Int) < U64) (w : World) :
    Calls Tryd.prog 16 #[.int .u64 n] w fun e w' => e = .returned (.string ⟨(Lib.decDigits n).toArray⟩) ∧ w = w' := by
  have hU : U64 = 18446744073709551616 := rfl
  have hn' : n < 18446744073709551616 := by omega
  obtain ⟨d, hd⟩ : ∃ d : Nat, (n : Int) % 10 = (d : Int) := ⟨n % 10, by omega⟩
  have hd10 : d < 10 := by omega
  obtain ⟨DT, hDT⟩ : ∃ A : ByteArray, A = tenT.extract (d : Int).toNat ((d : Int) + 1).toNat := ⟨_, rfl⟩
  have lDT : DT.data.toList = [UInt8.ofNat (48 + d)] := by rw [hDT]; exact ten_at d hd10 _ _ (by omega) (by omega)
  have sl : ∀ V, (Instr.slice 9 (.string ⟨#[48, 49, 50, 51, 52, 53, 54, 55, 56, 57]⟩) (some (.int .u64 (d : Int))) (some (.int .u64 ((d : Int) + 1))) none).run Tryd.prog V = .ok (.string DT) V := fun V => by
    rw [hDT]; exact run_slice_string V _ _ _ _ _ _ Tryd.underlying9 (by omega) (by omega) (by show (d : Int) + 1 ≤ 10; omega)
  have H0 : Hid (∃ tail, DT.data.toList = UInt8.ofNat (48 + n % 10) :: tail ∧ Lib.decDigits n = Lib.decDigits n ++ tail) := hid ⟨[], by rw [lDT, show n % 10 = d from by omega], by simp⟩
  have hz1 : DT.size = 1 := by rw [Lib.size_eq, lDT]; rfl
  have Hz1 := hid hz1
  have HN := hid hn'
  clear hn hU hn' hDT lDT hz1
  go_enter Tryd.func16, Tryd.ntmps16
  go_wp2_with fail
  go_loop [0, 3] (fun nn ss => ∃ (m : Nat) (T : ByteArray), nn = .int .u64 m ∧ ss = .string T ∧ Hid (m ≤ n ∧ 9 * T.size + m ≤ n + 9 ∧ ∃ tail, T.data.toList = UInt8.ofNat (48 + m % 10) :: tail ∧ Lib.decDigits n = Lib.decDigits m ++ tail)) (fun nn _ => (RowKit.intOf nn).toNat)
  case atStart => exact ⟨n, DT, rfl, rfl, hid ⟨Nat.le_refl _, by rw [Hz1.out]; omega, H0.out⟩⟩
  case round =>
    obtain ⟨m, T, rfl, rfl, hh⟩ := hrel
    obtain ⟨hmn, hb, tail, hT, hdec⟩ := hh.out
    have hTz : T.size ≤ 4611686018427387904 := by have := HN.out; omega
    have Hb := hid hb
    have HT := hid hT
    have Hdec := hid hdec
    have hmU : m < 18446744073709551616 := by have := HN.out; omega
    have HmU := hid hmU
    have Hmn := hid hmn
    clear hh hb hT hdec hmU hd sl hmn
    by_cases h10 : m < 10
    · have hge : ¬ (m : Int) ≥ 10 := by omega
      have Hfin : Hid (T = ⟨(Lib.decDigits n).toArray⟩) := hid (by
        have e : T.data.toList = Lib.decDigits n := by rw [Hdec.out, dec_lt h10, HT.out]; simp
        rw [← e])
      go_wp2
      go_ret
      exact ⟨ret_val (by rw [← Hfin.out]; rfl), rfl⟩
    · have hge : (m : Int) ≥ 10 := by omega
      obtain ⟨q, hq⟩ : ∃ q : Nat, (m : Int) / 10 = (q : Int) := ⟨m / 10, by omega⟩
      obtain ⟨e, he⟩ : ∃ e : Nat, (q : Int) % 10 = (e : Int) := ⟨q % 10, by omega⟩
      have he10 : e < 10 := by omega
      obtain ⟨ET, hET⟩ : ∃ A : ByteArray, A = tenT.extract (e : Int).toNat ((e : Int) + 1).toNat := ⟨_, rfl⟩
      have lET : ET.data.toList = [UInt8.ofNat (48 + e)] := by rw [hET]; exact ten_at e he10 _ _ (by omega) (by omega)
      have sl : ∀ V, (Instr.slice 9 (.string ⟨#[48, 49, 50, 51, 52, 53, 54, 55, 56, 57]⟩) (some (.int .u64 (e : Int))) (some (.int .u64 ((e : Int) + 1))) none).run Tryd.prog V = .ok (.string ET) V := fun V => by
        rw [hET]; exact run_slice_string V _ _ _ _ _ _ Tryd.underlying9 (by omega) (by omega) (by show (e : Int) + 1 ≤ 10; omega)
      have hez : ET.size = 1 := by rw [Lib.size_eq, lET]; rfl
      have Hrel : Hid (q ≤ n ∧ 9 * (ET ++ T).size + q ≤ n + 9 ∧ ∃ tail, (ET ++ T).data.toList = UInt8.ofNat (48 + q % 10) :: tail ∧ Lib.decDigits n = Lib.decDigits q ++ tail) := hid (by
        have hb := Hb.out
        have hmn := Hmn.out
        refine ⟨by omega, by rw [cat_z, hez]; omega, T.data.toList, ?_, ?_⟩
        · rw [cat_l, lET, show q % 10 = e from by omega]; rfl
        · rw [Hdec.out, dec_ge h10, HT.out, show m / 10 = q from by omega]; simp)
      have hqm : q < m := by omega
      have w1 : IntKind.u64.wrap (q : Int) = (q : Int) := IntWalk.u64_in _ (by have := HmU.out; omega)
      have w2 : IntKind.u64.wrap ((e : Int) + 1) = (e : Int) + 1 := IntWalk.u64_in _ (by omega)
      have w3 : (q : Int).tmod 10 = (e : Int) := by rw [Int.tmod_eq_emod_of_nonneg (by omega)]; exact he
      clear hET lET
      go_wp2
      go_round
      case rel => exact ⟨q, ET ++ T, rfl, rfl, Hrel⟩
      case measure => simp [RowKit.intOf]; omega

end Go.Proofs.YtnmdcbneoipllaaDoor
