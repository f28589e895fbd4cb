/- Walks: ascii's each, Lower. -/
import Derived.Test.YtnkfgedpdokcpaaDoorProg
import Derived.Test.YtnkfgedpdokcpaaDoorBase
import Derived.Test.YtnkfgedpdokcpaaDoorSpec01
namespace Go.Proofs.YtnkfgedpdokcpaaDoor
open Go.RowKit Go.Lib Go.Proofs.Foot

theorem low_bits (c : UInt8) (h : 65 ≤ c.toNat ∧ c.toNat ≤ 90) : bits .or .u8 (c.toNat : Int) 32 = ((c + 32).toNat : Int) := by
  have := all_u8 (fun c => !(decide (65 ≤ c.toNat ∧ c.toNat ≤ 90)) || decide (bits .or .u8 (c.toNat : Int) 32 = ((c + 32).toNat : Int))) (by decide +kernel) c
  simpa [h] using this
theorem ret_u8 {a b : UInt8} (h : a = b) : Ending.returned (.int .u8 a.toNat) = .returned (.int .u8 b.toNat) := by rw [h]

theorem lower1_any (c : UInt8) (w : World) :
    Calls Tryd.prog 57 #[.int .u8 c.toNat] w fun e w' => e = .returned (.int .u8 (lowB c).toNat) ∧ w = w' := by
  by_cases h : 65 ≤ c.toNat ∧ c.toNat ≤ 90
  · have hb := low_bits c h
    go_enter Tryd.func57, Tryd.ntmps57
    go_wp2
    go_ret
    refine ⟨ret_int ?_, rfl⟩
    rw [lowB_up h]; simp
  · have e := lowB_not h
    have H := hid e
    clear e
    by_cases h1 : 65 ≤ c.toNat
    · have h2 : ¬ c.toNat ≤ 90 := by omega
      go_enter Tryd.func57, Tryd.ntmps57
      go_wp2
      go_ret
      exact ⟨ret_int (by rw [H.out]), rfl⟩
    · go_enter Tryd.func57, Tryd.ntmps57
      go_wp2
      go_ret
      exact ⟨ret_int (by rw [H.out]), rfl⟩

theorem each_any (s : ByteArray) (w : World) (hs : s.size ≤ maxLen) :
    Calls Tryd.prog 56 #[.string s, .func (.func 57) #[] #[]] w fun e w' => e = .returned (.string ⟨(lower s.data.toList).toArray⟩) ∧ Below w.heap.size w w' := by
  unfold maxLen at hs
  go_enter Tryd.func56, Tryd.ntmps56
  go_wp2_with (refine wpList_string_bytes rfl 9 30 5 _ rfl s rfl Tryd.underlying9 Tryd.underlying30 Tryd.underlying5 w.heap.size rfl ?_; intro w2 cap hrow hb2 hz2 hcap)
  go_loopw [12, 6, 7] (fun i _ _ wr => ∃ k : Nat, k ≤ s.size ∧ i = .int .i64 k ∧ BRow wr w.heap.size 5 (upd lowB s.data.toList k) ∧ Below w.heap.size w wr) (fun i _ _ _ => s.size - (intOf i).toNat)
  case atStart => exact ⟨0, Nat.zero_le _, rfl, by rw [upd_zero]; exact hrow, hb2⟩
  case round =>
    obtain ⟨k, hk, rfl, hr, hb⟩ := hrel
    by_cases hlt : k < s.size
    · have hl : k < s.data.toList.length := by simpa using hlt
      have hl2 : k < (upd lowB s.data.toList k).length := by rw [upd_length]; exact hl
      obtain ⟨x, hx⟩ : ∃ x : UInt8, x = s.data.toList[k] := ⟨_, rfl⟩
      have e1 : (upd lowB s.data.toList k)[k] = x := by
        have h1 := upd_at lowB s.data.toList hl
        rw [List.getElem?_eq_getElem hl2] at h1
        rw [hx]; exact Option.some.inj h1
      have hc1 := hr.cell hl2
      rw [e1] at hc1
      have hf1 := hr.free hl2
      have R := hr.set (k := k) (lowB x)
      rw [show (upd lowB s.data.toList k).set k (lowB x) = upd lowB s.data.toList (k + 1) from by rw [upd_succ lowB _ hl, hx]] at R
      have HR := hid R
      have HB := hid (hb.setCell (p := ⟨w.heap.size, k, none⟩) (Nat.le_refl _) (.int .u8 (lowB x).toNat))
      clear R e1 hx hr hb
      go_wp2_with (go_at_call 57; refine (lower1_any _ _).mono ?_; rintro e w' ⟨rfl, rfl⟩)
      go_roundw
      case rel => exact ⟨k + 1, by omega, by go_num, HR.out, HB.out⟩
      case measure => simp [intOf]; omega
    · have e2 : upd lowB s.data.toList k = lower s.data.toList := upd_end _ _ (by simp; omega)
      rw [e2] at hr
      have HB := hid hb
      go_wp2_with (refine wpList_bytes_string rfl 30 9 5 _ rfl w.heap.size s.size cap rfl Tryd.underlying30 Tryd.underlying5 Tryd.underlying9 _ hr (by rw [lower_length]; simp) ?_)
      go_ret
      exact ⟨rfl, HB.out⟩

theorem lowerA_any (s : ByteArray) (w : World) (hs : s.size ≤ maxLen) :
    Calls Tryd.prog 46 #[.string s] w fun e w' => e = .returned (.string ⟨(lower s.data.toList).toArray⟩) ∧ Below w.heap.size w w' := by
  go_enter Tryd.func46, Tryd.ntmps46
  go_wp2_with (go_at_call 56; refine (each_any _ _ hs).mono ?_; rintro e w1 ⟨rfl, hb1⟩)
  go_ret
  exact ⟨rfl, hb1⟩

/-- Whether two texts are the same but for great and small letters. -/
def sameB (a b : List UInt8) : Bool := lower a == lower b
theorem sameB_len {a b : ByteArray} (h : ¬ a.size = b.size) : sameB a.data.toList b.data.toList = false := by
  unfold sameB
  rw [beq_eq_false_iff_ne]
  intro e
  have := congrArg List.length e
  rw [lower_length, lower_length] at this
  simp at this
  exact h this

end Go.Proofs.YtnkfgedpdokcpaaDoor
