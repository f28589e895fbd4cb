/- Walks: footmanref04.Digits at base 10 and 16. -/
import Derived.Test.YtiookngmgednjaaDoorAd1
import Derived.Lib.ItoaNum
import Derived.Deep.QuietTactic
import Derived.BigQuiet
import Derived.Deep.RegionHeld3
namespace Go.Proofs.YtiookngmgednjaaDoor
open Go.RowKit Go.Lib

def dig16 : ByteArray := ⟨#[48, 49, 50, 51, 52, 53, 54, 55, 56, 57, 97, 98, 99, 100, 101, 102]⟩
theorem dig16_one (d : Nat) (h : d < 16) : dig16.extract d (d + 1) = ⟨#[hx d]⟩ := by
  have : ∀ d < 16, (dig16.extract d (d + 1)).data.toList = [hx d] := by decide +kernel
  apply bytes_ext; rw [this d h]
theorem dig_slice (d : Nat) (h : d < 16) (V : World) : (Instr.slice 9 (.string dig16) (some (.int .i64 d)) (some (.int .i64 ((d : Int) + 1))) none).run Tryd.prog V = .ok (.string ⟨#[hx d]⟩) V := by
  have e := dig16_one d h
  have : (Instr.slice 9 (.string dig16) (some (.int .i64 d)) (some (.int .i64 ((d : Int) + 1))) none).run Tryd.prog V = .ok (.string (dig16.extract d (d + 1))) V := run_slice_string V _ _ _ _ _ _ Tryd.underlying9 (by omega) (by omega) (by show (d : Int) + 1 ≤ 16; omega)
  rw [this, e]
/-- A number by a base. -/
def baseD (b n : Nat) : List UInt8 := if _h : n < b ∨ b < 2 then [hx n] else baseD b (n / b) ++ [hx (n % b)]
termination_by n
decreasing_by
  exact Nat.div_lt_self (by omega) (by omega)
def baseT (b n : Nat) : ByteArray := ⟨(baseD b n).toArray⟩
theorem baseT_lt {b n : Nat} (h : n < b) : baseT b n = ⟨#[hx n]⟩ := by rw [baseT, baseD, dif_pos (.inl h)]
theorem baseT_ge {b n : Nat} (h : ¬ n < b) (hb : 2 ≤ b) : baseT b n = baseT b (n / b) ++ ⟨#[hx (n % b)]⟩ := by
  apply bytes_ext
  rw [baseT, baseD, dif_neg (by omega), baseT, cat_l]
theorem baseD_len (b n : Nat) : (baseD b n).length ≤ n + 1 := by
  induction n using Nat.strongRecOn with
  | _ n ih =>
    by_cases h : n < b ∨ b < 2
    · rw [baseD, dif_pos h]; simp
    · have hlt : n / b < n := Nat.div_lt_self (by omega) (by omega)
      have := ih (n / b) hlt
      rw [baseD, dif_neg h, List.length_append]
      simp; omega
theorem baseT_size (b n : Nat) : (baseT b n).size ≤ n + 1 := by rw [Lib.size_eq, baseT]; simpa using baseD_len b n
theorem baseD_16 (n : Nat) : baseD 16 n = hexD n := by
  induction n using Nat.strongRecOn with
  | _ n ih =>
    by_cases h : n < 16
    · rw [baseD, dif_pos (.inl h), hexD_lt h]
    · rw [baseD, dif_neg (by omega), hexD_ge h, ih (n / 16) (by omega)]
theorem baseD_10 (n : Nat) : baseD 10 n = Lib.decDigits n := by
  have hd : ∀ d < 10, hx d = UInt8.ofNat (48 + d) := by decide
  induction n using Nat.strongRecOn with
  | _ n ih =>
    by_cases h : n < 10
    · rw [baseD, dif_pos (.inl h), Lib.decDigits, dif_pos h, hd n h]
    · rw [baseD, dif_neg (by omega), Lib.decDigits, dif_neg h, ih (n / 10) (by omega), hd _ (by omega)]
set_option maxHeartbeats 2000000 in
set_option maxRecDepth 100000 in
theorem refDigits10 (n : Nat) (hn : n < 65536) (w : World) :
    Calls Tryd.prog 24 #[.int .i64 n, .int .i64 10] w fun e w' => e = .returned (.string (baseT 10 n)) ∧ Below w.heap.size w w' := by
  induction n using Nat.strongRecOn generalizing w with
  | _ n ih =>
    have IH := hid ih
    clear ih
    by_cases h : n < 10
    · have h1 : (n : Int) < 10 := by omega
      have hs := fun V => dig_slice n (by omega) V
      unfold dig16 at hs
      go_enter Tryd.func24, Tryd.ntmps24
      go_wp2
      go_ret
      exact ⟨ret_val (by rw [baseT_lt h]; rfl), Below.refl _ _⟩
    · have h1 : ¬ (n : Int) < 10 := by omega
      have Hfin := hid (baseT_ge h (by decide))
      have H1 := hid (fun w => IH.out (n / 10) (Nat.div_lt_self (by omega) (by omega)) (Nat.lt_of_le_of_lt (Nat.div_le_self _ _) hn) w)
      have hmn : n / 10 ≤ n := Nat.div_le_self _ _
      have hr16 : n % 10 < 16 := by omega
      have t1 : (n : Int).tdiv 10 = ((n / 10 : Nat) : Int) := rfl
      have t2 : (n : Int).tmod 10 = ((n % 10 : Nat) : Int) := rfl
      have u1 : (n : Int) / 10 = ((n / 10 : Nat) : Int) := rfl
      have u2 : (n : Int) % 10 = ((n % 10 : Nat) : Int) := rfl
      generalize n / 10 = m at *
      generalize n % 10 = r at *
      have hs := fun V => dig_slice r hr16 V
      unfold dig16 at hs
      have v0 : IntKind.i64.wrap (m : Int) = (m : Int) := IntWalk.i64_in _ (by omega)
      have v1 : IntKind.i64.wrap ((r : Int) + 1) = (r : Int) + 1 := IntWalk.i64_in _ (by omega)
      have v2 : IntKind.i64.wrap (r : Int) = (r : Int) := IntWalk.i64_in _ (by omega)
      have zD : ((baseT 10 m).size : Int) ≤ 8388608 := by have := baseT_size 10 m; omega
      have zQ : ((⟨#[hx r]⟩ : ByteArray).size : Int) ≤ 8388608 := by show (1 : Int) ≤ 8388608; omega
      have hadd : ∀ V, (Op.stringOp .add (baseT 10 m) ⟨#[hx r]⟩).run Tryd.prog V = .ok (.string (baseT 10 m ++ ⟨#[hx r]⟩)) V := fun V => run_string_add V _ _ zD zQ
      clear IH zD zQ
      go_enter Tryd.func24, Tryd.ntmps24
      go_wp2_with fail
      go_region_held3 (fun w' => Below w.heap.size w w') (first
          | exact below_chain ‹_› ‹_›
          | exact (Below.refl _ _).drew)
        (first
          | (go_at_call 24; refine (H1.out _).mono ?_; rintro e w1 ⟨rfl, hb1⟩))
      rename_i hH
      have HB := hid hH
      clear hH hs hadd
      go_wp2
      go_ret
      exact ⟨ret_val (by rw [Hfin.out]; rfl), HB.out⟩
set_option maxHeartbeats 2000000 in
set_option maxRecDepth 100000 in
theorem refDigits16 (n : Nat) (hn : n < 65536) (w : World) :
    Calls Tryd.prog 24 #[.int .i64 n, .int .i64 16] w fun e w' => e = .returned (.string (baseT 16 n)) ∧ Below w.heap.size w w' := by
  induction n using Nat.strongRecOn generalizing w with
  | _ n ih =>
    have IH := hid ih
    clear ih
    by_cases h : n < 16
    · have h1 : (n : Int) < 16 := by omega
      have hs := fun V => dig_slice n (by omega) V
      unfold dig16 at hs
      go_enter Tryd.func24, Tryd.ntmps24
      go_wp2
      go_ret
      exact ⟨ret_val (by rw [baseT_lt h]; rfl), Below.refl _ _⟩
    · have h1 : ¬ (n : Int) < 16 := by omega
      have Hfin := hid (baseT_ge h (by decide))
      have H1 := hid (fun w => IH.out (n / 16) (Nat.div_lt_self (by omega) (by omega)) (Nat.lt_of_le_of_lt (Nat.div_le_self _ _) hn) w)
      have hmn : n / 16 ≤ n := Nat.div_le_self _ _
      have hr16 : n % 16 < 16 := by omega
      have t1 : (n : Int).tdiv 16 = ((n / 16 : Nat) : Int) := rfl
      have t2 : (n : Int).tmod 16 = ((n % 16 : Nat) : Int) := rfl
      have u1 : (n : Int) / 16 = ((n / 16 : Nat) : Int) := rfl
      have u2 : (n : Int) % 16 = ((n % 16 : Nat) : Int) := rfl
      generalize n / 16 = m at *
      generalize n % 16 = r at *
      have hs := fun V => dig_slice r hr16 V
      unfold dig16 at hs
      have v0 : IntKind.i64.wrap (m : Int) = (m : Int) := IntWalk.i64_in _ (by omega)
      have v1 : IntKind.i64.wrap ((r : Int) + 1) = (r : Int) + 1 := IntWalk.i64_in _ (by omega)
      have v2 : IntKind.i64.wrap (r : Int) = (r : Int) := IntWalk.i64_in _ (by omega)
      have zD : ((baseT 16 m).size : Int) ≤ 8388608 := by have := baseT_size 16 m; omega
      have zQ : ((⟨#[hx r]⟩ : ByteArray).size : Int) ≤ 8388608 := by show (1 : Int) ≤ 8388608; omega
      have hadd : ∀ V, (Op.stringOp .add (baseT 16 m) ⟨#[hx r]⟩).run Tryd.prog V = .ok (.string (baseT 16 m ++ ⟨#[hx r]⟩)) V := fun V => run_string_add V _ _ zD zQ
      clear IH zD zQ
      go_enter Tryd.func24, Tryd.ntmps24
      go_wp2_with fail
      go_region_held3 (fun w' => Below w.heap.size w w') (first
          | exact below_chain ‹_› ‹_›
          | exact (Below.refl _ _).drew)
        (first
          | (go_at_call 24; refine (H1.out _).mono ?_; rintro e w1 ⟨rfl, hb1⟩))
      rename_i hH
      have HB := hid hH
      clear hH hs hadd
      go_wp2
      go_ret
      exact ⟨ret_val (by rw [Hfin.out]; rfl), HB.out⟩
end Go.Proofs.YtiookngmgednjaaDoor
