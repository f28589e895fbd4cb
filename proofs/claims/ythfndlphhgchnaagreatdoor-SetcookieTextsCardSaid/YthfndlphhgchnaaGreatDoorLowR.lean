/- Walks: the reference's Lower and Same. -/
import Derived.Test.YthfndlphhgchnaaGreatDoorLowE
namespace Go.Proofs.YthfndlphhgchnaaGreatDoor
open Go.RowKit Go.Lib Go.Proofs.Foot

set_option maxRecDepth 100000 in
theorem lowerR_any (s : ByteArray) (w : World) (hs : s.size ≤ maxLen) :
    Calls Tryz.prog 49 #[.string s] w fun e w' => e = .returned (.string ⟨(lower s.data.toList).toArray⟩) ∧ Below w.heap.size w w' := by
  unfold maxLen at hs
  go_enter Tryz.func49, Tryz.ntmps49
  go_wp2_with (refine wpList_string_bytes rfl 9 52 5 _ rfl s rfl Tryz.underlying9 Tryz.underlying52 Tryz.underlying5 w.heap.size rfl ?_; intro w2 cap hrow hb2 hz2 hcap)
  go_loopw [4] (fun i wr => ∃ k : Nat, k ≤ s.size ∧ i = .int .i64 k ∧ BRow wr w.heap.size 5 (upd lowB s.data.toList k) ∧ Below w.heap.size w wr) (fun i _ => s.size - (intOf i).toNat)
  case atStart => exact ⟨0, Nat.zero_le _, rfl, by rw [upd_zero]; exact hrow, hb2⟩
  case round =>
    obtain ⟨k, hk, rfl, hr, hb⟩ := hrel
    by_cases hlt : k < s.size
    · have hl : k < s.data.toList.length := by simpa using hlt
      have hl2 : k < (upd lowB s.data.toList k).length := by rw [upd_length]; exact hl
      obtain ⟨x, hx⟩ : ∃ x : UInt8, x = s.data.toList[k] := ⟨_, rfl⟩
      have e1 : (upd lowB s.data.toList k)[k] = x := by
        have h1 := upd_at lowB s.data.toList hl
        rw [List.getElem?_eq_getElem hl2] at h1
        rw [hx]; exact Option.some.inj h1
      have hc1 := hr.cell hl2
      rw [e1] at hc1
      have hf1 := hr.free hl2
      have hx256 : (x.toNat : Int) < 256 := by have := UInt8.toNat_lt x; omega
      by_cases h : 65 ≤ x.toNat ∧ x.toNat ≤ 90
      · have R := hr.set (k := k) (lowB x)
        rw [show (upd lowB s.data.toList k).set k (lowB x) = upd lowB s.data.toList (k + 1) from by rw [upd_succ lowB _ hl, hx], lowB_up h] at R
        have hadd : ((x + 32).toNat : Int) = (x.toNat : Int) + 32 := by
          have h1 : (x + 32).toNat = (x.toNat + 32) % 256 := by simp
          omega
        rw [hadd] at R
        have HR := hid R
        have HB := hid (hb.setCell (p := ⟨w.heap.size, k, none⟩) (Nat.le_refl _) (.int .u8 (x.toNat + 32)))
        clear R e1 hx hr hb hadd
        go_wp2
        go_roundw
        case rel => exact ⟨k + 1, by omega, by go_num, HR.out, HB.out⟩
        case measure => simp [intOf]; omega
      · have R : BRow wr w.heap.size 5 (upd lowB s.data.toList (k + 1)) := by
          rw [upd_succ lowB _ hl, ← hx, lowB_not h]
          have e3 : (upd lowB s.data.toList k).set k x = upd lowB s.data.toList k := by
            rw [← e1]; exact List.set_getElem_self hl2
          rw [e3]; exact hr
        have HR := hid R
        have HB := hid hb
        clear R e1 hx hr hb
        by_cases h1 : 65 ≤ x.toNat
        · have h2 : ¬ x.toNat ≤ 90 := by omega
          go_wp2
          go_roundw
          case rel => exact ⟨k + 1, by omega, by go_num, HR.out, HB.out⟩
          case measure => simp [intOf]; omega
        · go_wp2
          go_roundw
          case rel => exact ⟨k + 1, by omega, by go_num, HR.out, HB.out⟩
          case measure => simp [intOf]; omega
    · have e2 : upd lowB s.data.toList k = lower s.data.toList := upd_end _ _ (by simp; omega)
      rw [e2] at hr
      have HB := hid hb
      go_wp2_with (refine wpList_bytes_string rfl 52 9 5 _ rfl w.heap.size s.size cap rfl Tryz.underlying52 Tryz.underlying5 Tryz.underlying9 _ hr (by rw [lower_length]; simp) ?_)
      go_ret
      exact ⟨rfl, HB.out⟩

theorem sameR_any (s t : ByteArray) (w : World) (hs : s.size ≤ maxLen) (ht : t.size ≤ maxLen) :
    Calls Tryz.prog 124 #[.string s, .string t] w fun e w' => e = .returned (.bool (sameB s.data.toList t.data.toList)) ∧ Below w.heap.size w w' := by
  go_enter Tryz.func124, Tryz.ntmps124
  go_wp2_with fail
  refine (lowerR_any _ _ hs).mono ?_
  rintro e w1 ⟨rfl, hb1⟩
  go_wp2_with fail
  refine (lowerR_any _ _ ht).mono ?_
  rintro e w2 ⟨rfl, hb2⟩
  go_wp2
  go_ret
  exact ⟨ret_bool (by simp [sameB]), below_chain hb1 hb2⟩
end Go.Proofs.YthfndlphhgchnaaGreatDoor
