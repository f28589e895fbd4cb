/- Walk: footmanlaw04's digits, by the bases 8, 10 and 16. -/
import Derived.Test.YtiookngmgednjaaDoorAb2
import Derived.Deep.RegionHeld3
namespace Go.Proofs.YtiookngmgednjaaDoor
open Go.RowKit Go.Lib Go.Proofs.Foot

theorem u32_slice (d : Nat) (h : d < 16) (V : World) : (Instr.slice 9 (.string ⟨#[48, 49, 50, 51, 52, 53, 54, 55, 56, 57, 97, 98, 99, 100, 101, 102]⟩) (some (.int .u32 d)) (some (.int .u32 ((d : Int) + 1))) none).run Tryd.prog V = .ok (.string ⟨#[hx d]⟩) V := by
  have e := dig16_one d h
  have : (Instr.slice 9 (.string dig16) (some (.int .u32 d)) (some (.int .u32 ((d : Int) + 1))) none).run Tryd.prog V = .ok (.string (dig16.extract d (d + 1))) V := run_slice_string V _ _ _ _ _ _ Tryd.underlying9 (by omega) (by omega) (by show (d : Int) + 1 ≤ 16; omega)
  rw [e] at this
  exact this
theorem baseD_le {b : Nat} (hb : 2 ≤ b) : ∀ (k n : Nat), 1 ≤ k → n < 2 ^ k → (baseD b n).length ≤ k := by
  intro k
  induction k with
  | zero => intro n h _; omega
  | succ k ih =>
    intro n _ hn
    by_cases h : n < b
    · rw [baseD, dif_pos (.inl h)]; simp
    · have hk : 1 ≤ k := by
        rcases Nat.eq_zero_or_pos k with rfl | h0
        · simp at hn; omega
        · exact h0
      have hd : n / b < 2 ^ k := by
        have h1 : n / b ≤ n / 2 := Nat.div_le_div_left hb (by omega)
        rw [Nat.pow_succ] at hn
        omega
      rw [baseD, dif_neg (by omega), List.length_append]
      have := ih (n / b) hk hd
      simp; omega
theorem baseT_32 {b n : Nat} (hb : 2 ≤ b) (hn : n < 4294967296) : (baseT b n).size ≤ 32 := by
  have := baseD_le hb 32 n (by omega) (by rw [show (2 : Nat) ^ 32 = 4294967296 from rfl]; exact hn)
  rw [Lib.size_eq, baseT]; simpa using this
set_option maxHeartbeats 1000000 in
set_option maxRecDepth 100000 in
theorem dig8_any (n : Nat) (hn : n < 4294967296) (w : World) :
    Calls Tryd.prog 20 #[.int .u32 n, .int .u32 8] w fun e w' => e = .returned (.string (baseT 8 n)) ∧ Below w.heap.size w w' := by
  obtain ⟨d, hd⟩ : ∃ d : Nat, (n : Int) % 8 = (d : Int) := ⟨n % 8, by omega⟩
  have hd10 : d < 8 := by omega
  obtain ⟨DT, hDT⟩ : ∃ A : ByteArray, A = ⟨#[hx d]⟩ := ⟨_, rfl⟩
  have lDT : DT.data.toList = [hx d] := by rw [hDT]
  have sl : ∀ V, (Instr.slice 9 (.string ⟨#[48, 49, 50, 51, 52, 53, 54, 55, 56, 57, 97, 98, 99, 100, 101, 102]⟩) (some (.int .u32 (d : Int))) (some (.int .u32 ((d : Int) + 1))) none).run Tryd.prog V = .ok (.string DT) V := fun V => by
    rw [hDT]; exact u32_slice d (by omega) V
  have H0 : Hid (∃ tail, DT.data.toList = hx (n % 8) :: tail ∧ baseD 8 n = baseD 8 n ++ tail) := hid ⟨[], by rw [lDT, show n % 8 = d from by omega], by simp⟩
  have hz1 : DT.size = 1 := by rw [Lib.size_eq, lDT]; rfl
  have Hz1 := hid hz1
  have HN := hid hn
  have v1 : IntKind.u32.wrap ((d : Int) + 1) = (d : Int) + 1 := by rw [show IntKind.u32.wrap ((d : Int) + 1) = ((d : Int) + 1) % 4294967296 from rfl]; omega
  have v3 : (n : Int).tmod 8 = (d : Int) := by rw [Int.tmod_eq_emod_of_nonneg (by omega)]; exact hd
  clear hn hDT lDT hz1
  go_enter Tryd.func20, Tryd.ntmps20
  go_wp2_with fail
  go_region_held3 (fun W => Below w.heap.size w W) (exact (Below.refl _ _).drew) (fail)
  rename_i w0 hH
  have B0 := hid hH
  clear hH
  go_wp2_with fail
  go_loopw [0, 5] (fun nn ss wr => ∃ (m : Nat) (T : ByteArray), nn = .int .u32 m ∧ ss = .string T ∧ Hid (Below w.heap.size w wr ∧ m ≤ n ∧ 7 * T.size + m ≤ n + 7 ∧ ∃ tail, T.data.toList = hx (m % 8) :: tail ∧ baseD 8 n = baseD 8 m ++ tail)) (fun nn _ _ => (RowKit.intOf nn).toNat)
  case atStart => exact ⟨n, DT, rfl, rfl, hid ⟨B0.out, Nat.le_refl _, by rw [Hz1.out]; omega, H0.out⟩⟩
  case round =>
    obtain ⟨m, T, rfl, rfl, hh⟩ := hrel
    obtain ⟨hbl, hmn, hb, tail, hT, hdec⟩ := hh.out
    have Bl := hid hbl
    have hTz : T.size ≤ 32 := by
      rw [Lib.size_eq]
      have h1 := congrArg List.length hdec
      have h2 := baseD_le (b := 8) (by omega) 32 n (by omega) (by rw [show (2 : Nat) ^ 32 = 4294967296 from rfl]; exact HN.out)
      have h3 := congrArg List.length hT
      have h4 : 1 ≤ (baseD 8 m).length := by cases hl : baseD 8 m with | nil => exact absurd hl (baseD_ne _ _) | cons a r => simp
      rw [List.length_append] at h1
      rw [List.length_cons] at h3
      omega
    have Hb := hid hb
    have HT := hid hT
    have Hdec := hid hdec
    have hmU : m < 4294967296 := by have := HN.out; omega
    have HmU := hid hmU
    have Hmn := hid hmn
    clear hh hb hT hdec hmU hd sl hmn v1 v3 hbl
    by_cases h10 : m < 8
    · have hge : ¬ (m : Int) ≥ 8 := by omega
      have Hfin : Hid (T = baseT 8 n) := hid (by
        have e : T.data.toList = baseD 8 n := by rw [Hdec.out, HT.out, baseD, dif_pos (.inl h10), Nat.mod_eq_of_lt h10]; simp
        exact bytes_ext (by rw [e, baseT]))
      go_wp2
      go_ret
      exact ⟨ret_val (by rw [← Hfin.out]; rfl), Bl.out⟩
    · have hge : (m : Int) ≥ 8 := by omega
      obtain ⟨q, hq⟩ : ∃ q : Nat, (m : Int) / 8 = (q : Int) := ⟨m / 8, by omega⟩
      obtain ⟨e, he⟩ : ∃ e : Nat, (q : Int) % 8 = (e : Int) := ⟨q % 8, by omega⟩
      have he10 : e < 8 := by omega
      obtain ⟨ET, hET⟩ : ∃ A : ByteArray, A = ⟨#[hx e]⟩ := ⟨_, rfl⟩
      have lET : ET.data.toList = [hx e] := by rw [hET]
      have sl : ∀ V, (Instr.slice 9 (.string ⟨#[48, 49, 50, 51, 52, 53, 54, 55, 56, 57, 97, 98, 99, 100, 101, 102]⟩) (some (.int .u32 (e : Int))) (some (.int .u32 ((e : Int) + 1))) none).run Tryd.prog V = .ok (.string ET) V := fun V => by
        rw [hET]; exact u32_slice e (by omega) V
      have hez : ET.size = 1 := by rw [Lib.size_eq, lET]; rfl
      have Hrel : Hid (q ≤ n ∧ 7 * (ET ++ T).size + q ≤ n + 7 ∧ ∃ tail, (ET ++ T).data.toList = hx (q % 8) :: tail ∧ baseD 8 n = baseD 8 q ++ tail) := hid (by
        have hb := Hb.out
        have hmn := Hmn.out
        refine ⟨by omega, by rw [catZ, hez]; omega, T.data.toList, ?_, ?_⟩
        · rw [catL, lET, show q % 8 = e from by omega]; rfl
        · rw [Hdec.out, baseD, dif_neg (by omega), HT.out, show m / 8 = q from by omega]; simp)
      have hqm : q < m := by omega
      have w1 : IntKind.u32.wrap (q : Int) = (q : Int) := by rw [show IntKind.u32.wrap (q : Int) = (q : Int) % 4294967296 from rfl]; have := HmU.out; omega
      have w2 : IntKind.u32.wrap ((e : Int) + 1) = (e : Int) + 1 := by rw [show IntKind.u32.wrap ((e : Int) + 1) = ((e : Int) + 1) % 4294967296 from rfl]; omega
      have w3 : (q : Int).tmod 8 = (e : Int) := by rw [Int.tmod_eq_emod_of_nonneg (by omega)]; exact he
      clear hET lET
      have a1 : ∀ V, (Op.stringOp .add ET T).run Tryd.prog V = .ok (.string (ET ++ T)) V := fun V => run_string_add V _ _ (by omega) (by omega)
      go_wp2_with fail
      go_region_held3 (fun W => Below w.heap.size w W) (exact Bl.out.drew) (fail)
      rename_i w5 hH
      have B5 := hid hH
      clear hH
      go_wp2
      exact ⟨⟨q, ET ++ T, rfl, rfl, hid ⟨B5.out, Hrel.out⟩⟩, by simp only [RowKit.intOf]; omega⟩
set_option maxHeartbeats 1000000 in
set_option maxRecDepth 100000 in
theorem dig10_any (n : Nat) (hn : n < 4294967296) (w : World) :
    Calls Tryd.prog 20 #[.int .u32 n, .int .u32 10] w fun e w' => e = .returned (.string (baseT 10 n)) ∧ Below w.heap.size w w' := by
  obtain ⟨d, hd⟩ : ∃ d : Nat, (n : Int) % 10 = (d : Int) := ⟨n % 10, by omega⟩
  have hd10 : d < 10 := by omega
  obtain ⟨DT, hDT⟩ : ∃ A : ByteArray, A = ⟨#[hx d]⟩ := ⟨_, rfl⟩
  have lDT : DT.data.toList = [hx d] := by rw [hDT]
  have sl : ∀ V, (Instr.slice 9 (.string ⟨#[48, 49, 50, 51, 52, 53, 54, 55, 56, 57, 97, 98, 99, 100, 101, 102]⟩) (some (.int .u32 (d : Int))) (some (.int .u32 ((d : Int) + 1))) none).run Tryd.prog V = .ok (.string DT) V := fun V => by
    rw [hDT]; exact u32_slice d (by omega) V
  have H0 : Hid (∃ tail, DT.data.toList = hx (n % 10) :: tail ∧ baseD 10 n = baseD 10 n ++ tail) := hid ⟨[], by rw [lDT, show n % 10 = d from by omega], by simp⟩
  have hz1 : DT.size = 1 := by rw [Lib.size_eq, lDT]; rfl
  have Hz1 := hid hz1
  have HN := hid hn
  have v1 : IntKind.u32.wrap ((d : Int) + 1) = (d : Int) + 1 := by rw [show IntKind.u32.wrap ((d : Int) + 1) = ((d : Int) + 1) % 4294967296 from rfl]; omega
  have v3 : (n : Int).tmod 10 = (d : Int) := by rw [Int.tmod_eq_emod_of_nonneg (by omega)]; exact hd
  clear hn hDT lDT hz1
  go_enter Tryd.func20, Tryd.ntmps20
  go_wp2_with fail
  go_region_held3 (fun W => Below w.heap.size w W) (exact (Below.refl _ _).drew) (fail)
  rename_i w0 hH
  have B0 := hid hH
  clear hH
  go_wp2_with fail
  go_loopw [0, 5] (fun nn ss wr => ∃ (m : Nat) (T : ByteArray), nn = .int .u32 m ∧ ss = .string T ∧ Hid (Below w.heap.size w wr ∧ m ≤ n ∧ 9 * T.size + m ≤ n + 9 ∧ ∃ tail, T.data.toList = hx (m % 10) :: tail ∧ baseD 10 n = baseD 10 m ++ tail)) (fun nn _ _ => (RowKit.intOf nn).toNat)
  case atStart => exact ⟨n, DT, rfl, rfl, hid ⟨B0.out, Nat.le_refl _, by rw [Hz1.out]; omega, H0.out⟩⟩
  case round =>
    obtain ⟨m, T, rfl, rfl, hh⟩ := hrel
    obtain ⟨hbl, hmn, hb, tail, hT, hdec⟩ := hh.out
    have Bl := hid hbl
    have hTz : T.size ≤ 32 := by
      rw [Lib.size_eq]
      have h1 := congrArg List.length hdec
      have h2 := baseD_le (b := 10) (by omega) 32 n (by omega) (by rw [show (2 : Nat) ^ 32 = 4294967296 from rfl]; exact HN.out)
      have h3 := congrArg List.length hT
      have h4 : 1 ≤ (baseD 10 m).length := by cases hl : baseD 10 m with | nil => exact absurd hl (baseD_ne _ _) | cons a r => simp
      rw [List.length_append] at h1
      rw [List.length_cons] at h3
      omega
    have Hb := hid hb
    have HT := hid hT
    have Hdec := hid hdec
    have hmU : m < 4294967296 := by have := HN.out; omega
    have HmU := hid hmU
    have Hmn := hid hmn
    clear hh hb hT hdec hmU hd sl hmn v1 v3 hbl
    by_cases h10 : m < 10
    · have hge : ¬ (m : Int) ≥ 10 := by omega
      have Hfin : Hid (T = baseT 10 n) := hid (by
        have e : T.data.toList = baseD 10 n := by rw [Hdec.out, HT.out, baseD, dif_pos (.inl h10), Nat.mod_eq_of_lt h10]; simp
        exact bytes_ext (by rw [e, baseT]))
      go_wp2
      go_ret
      exact ⟨ret_val (by rw [← Hfin.out]; rfl), Bl.out⟩
    · have hge : (m : Int) ≥ 10 := by omega
      obtain ⟨q, hq⟩ : ∃ q : Nat, (m : Int) / 10 = (q : Int) := ⟨m / 10, by omega⟩
      obtain ⟨e, he⟩ : ∃ e : Nat, (q : Int) % 10 = (e : Int) := ⟨q % 10, by omega⟩
      have he10 : e < 10 := by omega
      obtain ⟨ET, hET⟩ : ∃ A : ByteArray, A = ⟨#[hx e]⟩ := ⟨_, rfl⟩
      have lET : ET.data.toList = [hx e] := by rw [hET]
      have sl : ∀ V, (Instr.slice 9 (.string ⟨#[48, 49, 50, 51, 52, 53, 54, 55, 56, 57, 97, 98, 99, 100, 101, 102]⟩) (some (.int .u32 (e : Int))) (some (.int .u32 ((e : Int) + 1))) none).run Tryd.prog V = .ok (.string ET) V := fun V => by
        rw [hET]; exact u32_slice e (by omega) V
      have hez : ET.size = 1 := by rw [Lib.size_eq, lET]; rfl
      have Hrel : Hid (q ≤ n ∧ 9 * (ET ++ T).size + q ≤ n + 9 ∧ ∃ tail, (ET ++ T).data.toList = hx (q % 10) :: tail ∧ baseD 10 n = baseD 10 q ++ tail) := hid (by
        have hb := Hb.out
        have hmn := Hmn.out
        refine ⟨by omega, by rw [catZ, hez]; omega, T.data.toList, ?_, ?_⟩
        · rw [catL, lET, show q % 10 = e from by omega]; rfl
        · rw [Hdec.out, baseD, dif_neg (by omega), HT.out, show m / 10 = q from by omega]; simp)
      have hqm : q < m := by omega
      have w1 : IntKind.u32.wrap (q : Int) = (q : Int) := by rw [show IntKind.u32.wrap (q : Int) = (q : Int) % 4294967296 from rfl]; have := HmU.out; omega
      have w2 : IntKind.u32.wrap ((e : Int) + 1) = (e : Int) + 1 := by rw [show IntKind.u32.wrap ((e : Int) + 1) = ((e : Int) + 1) % 4294967296 from rfl]; omega
      have w3 : (q : Int).tmod 10 = (e : Int) := by rw [Int.tmod_eq_emod_of_nonneg (by omega)]; exact he
      clear hET lET
      have a1 : ∀ V, (Op.stringOp .add ET T).run Tryd.prog V = .ok (.string (ET ++ T)) V := fun V => run_string_add V _ _ (by omega) (by omega)
      go_wp2_with fail
      go_region_held3 (fun W => Below w.heap.size w W) (exact Bl.out.drew) (fail)
      rename_i w5 hH
      have B5 := hid hH
      clear hH
      go_wp2
      exact ⟨⟨q, ET ++ T, rfl, rfl, hid ⟨B5.out, Hrel.out⟩⟩, by simp only [RowKit.intOf]; omega⟩
set_option maxHeartbeats 1000000 in
set_option maxRecDepth 100000 in
theorem dig16_any (n : Nat) (hn : n < 4294967296) (w : World) :
    Calls Tryd.prog 20 #[.int .u32 n, .int .u32 16] w fun e w' => e = .returned (.string (baseT 16 n)) ∧ Below w.heap.size w w' := by
  obtain ⟨d, hd⟩ : ∃ d : Nat, (n : Int) % 16 = (d : Int) := ⟨n % 16, by omega⟩
  have hd10 : d < 16 := by omega
  obtain ⟨DT, hDT⟩ : ∃ A : ByteArray, A = ⟨#[hx d]⟩ := ⟨_, rfl⟩
  have lDT : DT.data.toList = [hx d] := by rw [hDT]
  have sl : ∀ V, (Instr.slice 9 (.string ⟨#[48, 49, 50, 51, 52, 53, 54, 55, 56, 57, 97, 98, 99, 100, 101, 102]⟩) (some (.int .u32 (d : Int))) (some (.int .u32 ((d : Int) + 1))) none).run Tryd.prog V = .ok (.string DT) V := fun V => by
    rw [hDT]; exact u32_slice d (by omega) V
  have H0 : Hid (∃ tail, DT.data.toList = hx (n % 16) :: tail ∧ baseD 16 n = baseD 16 n ++ tail) := hid ⟨[], by rw [lDT, show n % 16 = d from by omega], by simp⟩
  have hz1 : DT.size = 1 := by rw [Lib.size_eq, lDT]; rfl
  have Hz1 := hid hz1
  have HN := hid hn
  have v1 : IntKind.u32.wrap ((d : Int) + 1) = (d : Int) + 1 := by rw [show IntKind.u32.wrap ((d : Int) + 1) = ((d : Int) + 1) % 4294967296 from rfl]; omega
  have v3 : (n : Int).tmod 16 = (d : Int) := by rw [Int.tmod_eq_emod_of_nonneg (by omega)]; exact hd
  clear hn hDT lDT hz1
  go_enter Tryd.func20, Tryd.ntmps20
  go_wp2_with fail
  go_region_held3 (fun W => Below w.heap.size w W) (exact (Below.refl _ _).drew) (fail)
  rename_i w0 hH
  have B0 := hid hH
  clear hH
  go_wp2_with fail
  go_loopw [0, 5] (fun nn ss wr => ∃ (m : Nat) (T : ByteArray), nn = .int .u32 m ∧ ss = .string T ∧ Hid (Below w.heap.size w wr ∧ m ≤ n ∧ 15 * T.size + m ≤ n + 15 ∧ ∃ tail, T.data.toList = hx (m % 16) :: tail ∧ baseD 16 n = baseD 16 m ++ tail)) (fun nn _ _ => (RowKit.intOf nn).toNat)
  case atStart => exact ⟨n, DT, rfl, rfl, hid ⟨B0.out, Nat.le_refl _, by rw [Hz1.out]; omega, H0.out⟩⟩
  case round =>
    obtain ⟨m, T, rfl, rfl, hh⟩ := hrel
    obtain ⟨hbl, hmn, hb, tail, hT, hdec⟩ := hh.out
    have Bl := hid hbl
    have hTz : T.size ≤ 32 := by
      rw [Lib.size_eq]
      have h1 := congrArg List.length hdec
      have h2 := baseD_le (b := 16) (by omega) 32 n (by omega) (by rw [show (2 : Nat) ^ 32 = 4294967296 from rfl]; exact HN.out)
      have h3 := congrArg List.length hT
      have h4 : 1 ≤ (baseD 16 m).length := by cases hl : baseD 16 m with | nil => exact absurd hl (baseD_ne _ _) | cons a r => simp
      rw [List.length_append] at h1
      rw [List.length_cons] at h3
      omega
    have Hb := hid hb
    have HT := hid hT
    have Hdec := hid hdec
    have hmU : m < 4294967296 := by have := HN.out; omega
    have HmU := hid hmU
    have Hmn := hid hmn
    clear hh hb hT hdec hmU hd sl hmn v1 v3 hbl
    by_cases h10 : m < 16
    · have hge : ¬ (m : Int) ≥ 16 := by omega
      have Hfin : Hid (T = baseT 16 n) := hid (by
        have e : T.data.toList = baseD 16 n := by rw [Hdec.out, HT.out, baseD, dif_pos (.inl h10), Nat.mod_eq_of_lt h10]; simp
        exact bytes_ext (by rw [e, baseT]))
      go_wp2
      go_ret
      exact ⟨ret_val (by rw [← Hfin.out]; rfl), Bl.out⟩
    · have hge : (m : Int) ≥ 16 := by omega
      obtain ⟨q, hq⟩ : ∃ q : Nat, (m : Int) / 16 = (q : Int) := ⟨m / 16, by omega⟩
      obtain ⟨e, he⟩ : ∃ e : Nat, (q : Int) % 16 = (e : Int) := ⟨q % 16, by omega⟩
      have he10 : e < 16 := by omega
      obtain ⟨ET, hET⟩ : ∃ A : ByteArray, A = ⟨#[hx e]⟩ := ⟨_, rfl⟩
      have lET : ET.data.toList = [hx e] := by rw [hET]
      have sl : ∀ V, (Instr.slice 9 (.string ⟨#[48, 49, 50, 51, 52, 53, 54, 55, 56, 57, 97, 98, 99, 100, 101, 102]⟩) (some (.int .u32 (e : Int))) (some (.int .u32 ((e : Int) + 1))) none).run Tryd.prog V = .ok (.string ET) V := fun V => by
        rw [hET]; exact u32_slice e (by omega) V
      have hez : ET.size = 1 := by rw [Lib.size_eq, lET]; rfl
      have Hrel : Hid (q ≤ n ∧ 15 * (ET ++ T).size + q ≤ n + 15 ∧ ∃ tail, (ET ++ T).data.toList = hx (q % 16) :: tail ∧ baseD 16 n = baseD 16 q ++ tail) := hid (by
        have hb := Hb.out
        have hmn := Hmn.out
        refine ⟨by omega, by rw [catZ, hez]; omega, T.data.toList, ?_, ?_⟩
        · rw [catL, lET, show q % 16 = e from by omega]; rfl
        · rw [Hdec.out, baseD, dif_neg (by omega), HT.out, show m / 16 = q from by omega]; simp)
      have hqm : q < m := by omega
      have w1 : IntKind.u32.wrap (q : Int) = (q : Int) := by rw [show IntKind.u32.wrap (q : Int) = (q : Int) % 4294967296 from rfl]; have := HmU.out; omega
      have w2 : IntKind.u32.wrap ((e : Int) + 1) = (e : Int) + 1 := by rw [show IntKind.u32.wrap ((e : Int) + 1) = ((e : Int) + 1) % 4294967296 from rfl]; omega
      have w3 : (q : Int).tmod 16 = (e : Int) := by rw [Int.tmod_eq_emod_of_nonneg (by omega)]; exact he
      clear hET lET
      have a1 : ∀ V, (Op.stringOp .add ET T).run Tryd.prog V = .ok (.string (ET ++ T)) V := fun V => run_string_add V _ _ (by omega) (by omega)
      go_wp2_with fail
      go_region_held3 (fun W => Below w.heap.size w W) (exact Bl.out.drew) (fail)
      rename_i w5 hH
      have B5 := hid hH
      clear hH
      go_wp2
      exact ⟨⟨q, ET ++ T, rfl, rfl, hid ⟨B5.out, Hrel.out⟩⟩, by simp only [RowKit.intOf]; omega⟩
end Go.Proofs.YtiookngmgednjaaDoor
