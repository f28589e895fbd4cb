/- Walk: the reference's Digit and Number. -/
import Derived.Test.YthfndlphhgchnaaGreatDoorNumV
namespace Go.Proofs.YthfndlphhgchnaaGreatDoor
open Go.RowKit Go.Lib Go.Proofs.Foot

theorem digitN_any (c : UInt8) (w : World) :
    Calls Tryz.prog 76 #[.int .u8 c.toNat] w fun e w' => e = .returned (.bool (digB c)) ∧ w = w' := by
  go_enter Tryz.func76, Tryz.ntmps76
  go_wp2
  all_goals go_ret
  · refine ⟨ret_bool ?_, rfl⟩
    by_cases h : c.toNat ≤ 57
    · rw [digB_true (by omega)]; simp; omega
    · rw [digB_false (by omega)]; simp; omega
  · exact ⟨ret_bool (digB_false (by omega)).symm, rfl⟩
theorem digit_is (c : UInt8) (b : Bool) (h : digB c = b) (w : World) : Calls Tryz.prog 76 #[.int .u8 c.toNat] w fun e w' => e = .returned (.bool b) ∧ w = w' := by
  rw [← h]; exact digitN_any c w

set_option maxHeartbeats 1000000 in
set_option maxRecDepth 100000 in
theorem numberR_any (s : ByteArray) (most : Int) (w : World) (hs : s.size ≤ 16777216) :
    Calls Tryz.prog 123 #[.string s, .int .i64 most] w fun e w' => e = .returned (numV s.data.toList most) ∧ w = w' := by
  have hsl : s.data.toList.length = s.size := (Lib.size_eq s).symm
  by_cases h0 : s.size < 1
  · have H := hid (numV_no (l := s.data.toList) (most := most) (by
      rintro ⟨⟨⟨h, _⟩, _⟩, _⟩
      exact h (List.eq_nil_of_length_eq_zero (by omega))))
    clear hsl
    go_enter Tryz.func123, Tryz.ntmps123
    go_wp2
    go_ret2
    exact ⟨ret_val' H.out.symm, rfl⟩
  · by_cases h18 : s.size > 18
    · have H := hid (numV_no (l := s.data.toList) (most := most) (by rintro ⟨⟨⟨_, h⟩, _⟩, _⟩; omega))
      clear hsl
      go_enter Tryz.func123, Tryz.ntmps123
      go_wp2
      go_ret2
      exact ⟨ret_val' H.out.symm, rfl⟩
    · have hne : s.data.toList ≠ [] := fun e => by rw [e] at hsl; simp at hsl; omega
      have Hne := hid hne
      have Hsl := hid hsl
      clear hne hsl
      go_enter Tryz.func123, Tryz.ntmps123
      go_wp2
      go_loop [6, 7] (fun n i => ∃ k : Nat, k ≤ s.size ∧ i = .int .i64 k ∧ n = .int .i64 (digV 0 (s.data.toList.take k)) ∧ Hid (∀ c ∈ s.data.toList.take k, digB c = true)) (fun _ i => s.size - (RowKit.intOf i).toNat)
      case atStart => exact ⟨0, Nat.zero_le _, rfl, by rw [List.take_zero, digV_nil]; rfl, hid (by simp)⟩
      case round =>
        obtain ⟨k, hk, rfl, rfl, hall⟩ := hrel
        by_cases hlt : k < s.size
        · obtain ⟨c, hc⟩ : ∃ c, s[k]'hlt = c := ⟨_, rfl⟩
          have hl : k < s.data.toList.length := by rw [Hsl.out]; exact hlt
          have hcl : s.data.toList[k]'hl = c := hc
          have hsn := digV_snoc hl
          rw [hcl] at hsn
          have hv : digV 0 (s.data.toList.take k) < 100000000000000000 := by
            have h1 := digV_lt _ hall.out 0 1 (by decide)
            have h2 : (10 : Nat) ^ (s.data.toList.take k).length ≤ 10 ^ 17 := Nat.pow_le_pow_right (by decide) (by simp; omega)
            have e : (10 : Nat) ^ 17 = 100000000000000000 := rfl
            rw [e] at h2
            omega
          cases hdg : digB c with
          | true =>
            have h48 := (digB_iff _).1 hdg
            obtain ⟨c0, c1⟩ := h48
            have Hall : Hid (∀ d ∈ s.data.toList.take (k + 1), digB d = true) := by
              refine hid fun d hd => ?_
              rw [List.take_add_one, List.getElem?_eq_getElem hl, Option.toList_some, hcl] at hd
              rcases List.mem_append.1 hd with h | h
              · exact hall.out d h
              · rw [List.mem_singleton.1 h]; exact hdg
            have Hsn := hid hsn
            have Hdg := hid hdg
            obtain ⟨v, hvv⟩ : ∃ v, v = digV 0 (s.data.toList.take k) := ⟨_, rfl⟩
            rw [← hvv] at hv ⊢
            have Hvv := hid hvv
            clear hsn hcl hdg hall hvv hl
            go_wp2_with (go_at_call 76; refine (digit_is c true Hdg.out _).mono ?_; rintro e w1 ⟨rfl, rfl⟩)
            go_round
            case rel => exact ⟨k + 1, by omega, by go_num, by rw [Hsn.out, ← Hvv.out]; go_num, Hall⟩
            case measure => simp [RowKit.intOf]; omega
          | false =>
            have H := hid (numV_no (l := s.data.toList) (most := most) (by
              rintro ⟨⟨_, h⟩, _⟩
              have := h c (by rw [← hcl]; exact List.getElem_mem hl)
              rw [hdg] at this; cases this))
            have Hdg := hid hdg
            clear hsn hcl hdg hall hl hv
            go_wp2_with (go_at_call 76; refine (digit_is c false Hdg.out _).mono ?_; rintro e w1 ⟨rfl, rfl⟩)
            go_ret2
            exact ⟨ret_val' H.out.symm, rfl⟩
        · have e : s.data.toList.take k = s.data.toList := List.take_of_length_le (by rw [Hsl.out]; omega)
          rw [e] at hall ⊢
          clear e
          by_cases hm : (digV 0 s.data.toList : Int) ≤ most
          · have H := hid (numV_yes (most := most) Hne.out (by rw [Hsl.out]; omega) hall.out hm)
            obtain ⟨v, hv⟩ : ∃ v, v = digV 0 s.data.toList := ⟨_, rfl⟩
            rw [← hv] at hm H ⊢
            have hgt : ¬ ((v : Int) > most) := by omega
            clear hv hall
            go_wp2
            go_ret2
            exact ⟨ret_val' H.out.symm, rfl⟩
          · have H := hid (numV_no (l := s.data.toList) (most := most) (fun h => hm h.2))
            obtain ⟨v, hv⟩ : ∃ v, v = digV 0 s.data.toList := ⟨_, rfl⟩
            rw [← hv] at hm ⊢
            have hgt : (v : Int) > most := by omega
            clear hv hall hm
            go_wp2
            go_ret2
            exact ⟨ret_val' H.out.symm, rfl⟩
end Go.Proofs.YthfndlphhgchnaaGreatDoor
