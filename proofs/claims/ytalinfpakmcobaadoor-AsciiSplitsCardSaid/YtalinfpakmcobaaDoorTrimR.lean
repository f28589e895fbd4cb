/- Walk: the reference's Trim. -/
import Derived.Test.YtalinfpakmcobaaDoorTrim
namespace Go.Proofs.YtalinfpakmcobaaDoor
open Go.RowKit Go.Lib Go.Proofs.Foot

theorem ret_val {a b : Value} (h : a = b) : Ending.returned a = .returned b := by rw [h]
def strLen (v : Value) : Nat := match v with | .string t => t.size | _ => 0
theorem ext_tail (t : ByteArray) (h : 0 < t.size) : t.data.toList = t[0]'h :: (t.extract 1 t.size).data.toList := by
  rw [extract_eq]
  have hl : 0 < t.data.toList.length := by rw [← Lib.size_eq]; exact h
  have e : t.data.toList = t.data.toList[0]'hl :: t.data.toList.drop 1 := by rw [← List.drop_eq_getElem_cons hl]; rfl
  have e2 : (t.data.toList.drop 1).take (t.size - 1) = t.data.toList.drop 1 := List.take_of_length_le (by rw [List.length_drop, ← Lib.size_eq]; omega)
  rw [e2]; exact e
theorem ext_init (t : ByteArray) (h : t.size - 1 < t.size) : t.data.toList = (t.extract 0 (t.size - 1)).data.toList ++ [t[t.size - 1]'h] := by
  rw [extract_eq]
  have hl : t.size - 1 < t.data.toList.length := by rw [← Lib.size_eq]; exact h
  have e := List.take_append_drop (t.size - 1) t.data.toList
  rw [List.drop_eq_getElem_cons hl, List.drop_eq_nil_of_le (by rw [← Lib.size_eq]; omega)] at e
  show _ = (t.data.toList.drop 0).take (t.size - 1 - 0) ++ [t.data.toList[t.size - 1]'hl]
  simp only [List.drop_zero, Nat.sub_zero]
  exact e.symm
theorem bytes_mk (t : ByteArray) : (⟨t.data.toList.toArray⟩ : ByteArray) = t := by cases t; simp

set_option maxRecDepth 100000 in
theorem trimR_any (s : ByteArray) (w : World) (hs : s.size ≤ 16777216) :
    Calls Tryd.prog 13 #[.string s] w fun e w' => e = .returned (.string ⟨(trim s.data.toList).toArray⟩) ∧ w = w' := by
  go_enter Tryd.func13, Tryd.ntmps13
  go_wp2
  go_loop [0] (fun x => ∃ t : ByteArray, x = .string t ∧ t.size ≤ s.size ∧ Hid (trimL t.data.toList = trimL s.data.toList)) (fun x => strLen x)
  case atStart => exact ⟨s, rfl, Nat.le_refl _, hid rfl⟩
  case round =>
    obtain ⟨t, rfl, hts, ht⟩ := hrel
    by_cases hgo : ∃ h : 0 < t.size, blankB (t[0]'h) = true
    · obtain ⟨h0, hb⟩ := hgo
      obtain ⟨c, hc⟩ : ∃ c, t[0]'h0 = c := ⟨_, rfl⟩
      rw [hc] at hb
      have hx := ext_tail t h0
      rw [hc] at hx
      have Ht : Hid (trimL (t.extract 1 t.size).data.toList = trimL s.data.toList) := by
        rw [← ht.out, hx, trimL_yes hb]; exact hid rfl
      have hsz : (t.extract 1 t.size).size = t.size - 1 := by
        have := congrArg List.length hx
        rw [List.length_cons, ← Lib.size_eq, ← Lib.size_eq] at this; omega
      have Hsz := hid hsz
      have HB : Hid (∀ w, Calls Tryd.prog 27 #[.int .u8 c.toNat] w fun e w' => e = .returned (.bool true) ∧ w = w') := hid (fun w => by have := blankR_any c w; rw [hb] at this; exact this)
      clear hx hsz hb
      go_wp2_with (go_at_call 27; refine (HB.out _).mono ?_; rintro e w1 ⟨rfl, rfl⟩)
      go_round
      case rel => exact ⟨_, rfl, by have := Hsz.out; omega, Ht⟩
      case measure => have := Hsz.out; simp only [strLen]; omega
    · have Hl : Hid (t.data.toList = trimL s.data.toList) := by
        rw [← ht.out]
        by_cases h0 : 0 < t.size
        · have hb : blankB (t[0]'h0) = false := by
            cases hb : blankB (t[0]'h0) with
            | true => exact absurd ⟨h0, hb⟩ hgo
            | false => rfl
          have hx := ext_tail t h0
          rw [hx, trimL_no hb]; exact hid rfl
        · have e : t.data.toList = [] := List.eq_nil_of_length_eq_zero (by rw [← Lib.size_eq]; omega)
          rw [e]; exact hid rfl
      by_cases h0 : 0 < t.size
      · obtain ⟨c, hc⟩ : ∃ c, t[0]'h0 = c := ⟨_, rfl⟩
        have hb : blankB c = false := by
          cases hb : blankB c with
          | true => exact absurd ⟨h0, by rw [hc]; exact hb⟩ hgo
          | false => rfl
        have HB : Hid (∀ w, Calls Tryd.prog 27 #[.int .u8 c.toNat] w fun e w' => e = .returned (.bool false) ∧ w = w') := hid (fun w => by have := blankR_any c w; rw [hb] at this; exact this)
        clear hb hgo
        go_wp2_with (go_at_call 27; refine (HB.out _).mono ?_; rintro e w1 ⟨rfl, rfl⟩)
        go_loop [0] (fun x => ∃ u : ByteArray, x = .string u ∧ u.size ≤ s.size ∧ Hid (trimE u.data.toList = trimE (trimL s.data.toList))) (fun x => strLen x)
        case atStart => exact ⟨t, rfl, hts, hid (by rw [Hl.out])⟩
        case round =>
          obtain ⟨u, rfl, hus, hu⟩ := hrel
          by_cases hgo : ∃ h : u.size - 1 < u.size, blankB (u[u.size - 1]'h) = true
          · obtain ⟨h1, hb⟩ := hgo
            obtain ⟨d, hd⟩ : ∃ d, u[u.size - 1]'h1 = d := ⟨_, rfl⟩
            rw [hd] at hb
            have hx := ext_init u h1
            rw [hd] at hx
            have h0 : 0 < u.size := by omega
            have Ht : Hid (trimE (u.extract 0 (u.size - 1)).data.toList = trimE (trimL s.data.toList)) := by
              rw [← hu.out, hx, trimE_yes hb]; exact hid rfl
            have hsz : (u.extract 0 (u.size - 1)).size = u.size - 1 := by
              have := congrArg List.length hx
              rw [List.length_append, ← Lib.size_eq, ← Lib.size_eq, List.length_singleton] at this; omega
            have Hsz := hid hsz
            have HB2 : Hid (∀ w, Calls Tryd.prog 27 #[.int .u8 d.toNat] w fun e w' => e = .returned (.bool true) ∧ w = w') := hid (fun w => by have := blankR_any d w; rw [hb] at this; exact this)
            clear hx hsz hb
            go_wp2_with (go_at_call 27; refine (HB2.out _).mono ?_; rintro e w1 ⟨rfl, rfl⟩)
            go_round
            case rel => exact ⟨_, rfl, by have := Hsz.out; omega, Ht⟩
            case measure => have := Hsz.out; simp only [strLen]; omega
          · have Hf : Hid (u.data.toList = trimE (trimL s.data.toList)) := by
              rw [← hu.out]
              by_cases h0 : 0 < u.size
              · have h1 : u.size - 1 < u.size := by omega
                have hb : blankB (u[u.size - 1]'h1) = false := by
                  cases hb : blankB (u[u.size - 1]'h1) with
                  | true => exact absurd ⟨h1, hb⟩ hgo
                  | false => rfl
                have hx := ext_init u h1
                rw [hx, trimE_no hb]; exact hid rfl
              · have e : u.data.toList = [] := List.eq_nil_of_length_eq_zero (by rw [← Lib.size_eq]; omega)
                rw [e]; exact hid rfl
            have Hr : Hid (u = ⟨(trim s.data.toList).toArray⟩) := by
              refine hid ?_
              show u = ⟨(trimE (trimL s.data.toList)).toArray⟩
              rw [← Hf.out, bytes_mk]
            by_cases h0 : 0 < u.size
            · have h1 : u.size - 1 < u.size := by omega
              obtain ⟨d, hd⟩ : ∃ d, u[u.size - 1]'h1 = d := ⟨_, rfl⟩
              have hb : blankB d = false := by
                cases hb : blankB d with
                | true => exact absurd ⟨h1, by rw [hd]; exact hb⟩ hgo
                | false => rfl
              have HB2 : Hid (∀ w, Calls Tryd.prog 27 #[.int .u8 d.toNat] w fun e w' => e = .returned (.bool false) ∧ w = w') := hid (fun w => by have := blankR_any d w; rw [hb] at this; exact this)
              clear hb hgo
              go_wp2_with (go_at_call 27; refine (HB2.out _).mono ?_; rintro e w1 ⟨rfl, rfl⟩)
              go_ret
              exact ⟨ret_val (congrArg Value.string Hr.out), rfl⟩
            · clear hgo
              go_wp2
              go_ret
              exact ⟨ret_val (congrArg Value.string Hr.out), rfl⟩
      · clear hgo
        go_wp2
        go_loop [0] (fun x => ∃ u : ByteArray, x = .string u ∧ u.size ≤ s.size ∧ Hid (trimE u.data.toList = trimE (trimL s.data.toList))) (fun x => strLen x)
        case atStart => exact ⟨t, rfl, hts, hid (by rw [Hl.out])⟩
        case round =>
          obtain ⟨u, rfl, hus, hu⟩ := hrel
          by_cases hgo : ∃ h : u.size - 1 < u.size, blankB (u[u.size - 1]'h) = true
          · obtain ⟨h1, hb⟩ := hgo
            obtain ⟨d, hd⟩ : ∃ d, u[u.size - 1]'h1 = d := ⟨_, rfl⟩
            rw [hd] at hb
            have hx := ext_init u h1
            rw [hd] at hx
            have h0 : 0 < u.size := by omega
            have Ht : Hid (trimE (u.extract 0 (u.size - 1)).data.toList = trimE (trimL s.data.toList)) := by
              rw [← hu.out, hx, trimE_yes hb]; exact hid rfl
            have hsz : (u.extract 0 (u.size - 1)).size = u.size - 1 := by
              have := congrArg List.length hx
              rw [List.length_append, ← Lib.size_eq, ← Lib.size_eq, List.length_singleton] at this; omega
            have Hsz := hid hsz
            have HB2 : Hid (∀ w, Calls Tryd.prog 27 #[.int .u8 d.toNat] w fun e w' => e = .returned (.bool true) ∧ w = w') := hid (fun w => by have := blankR_any d w; rw [hb] at this; exact this)
            clear hx hsz hb
            go_wp2_with (go_at_call 27; refine (HB2.out _).mono ?_; rintro e w1 ⟨rfl, rfl⟩)
            go_round
            case rel => exact ⟨_, rfl, by have := Hsz.out; omega, Ht⟩
            case measure => have := Hsz.out; simp only [strLen]; omega
          · have Hf : Hid (u.data.toList = trimE (trimL s.data.toList)) := by
              rw [← hu.out]
              by_cases h0 : 0 < u.size
              · have h1 : u.size - 1 < u.size := by omega
                have hb : blankB (u[u.size - 1]'h1) = false := by
                  cases hb : blankB (u[u.size - 1]'h1) with
                  | true => exact absurd ⟨h1, hb⟩ hgo
                  | false => rfl
                have hx := ext_init u h1
                rw [hx, trimE_no hb]; exact hid rfl
              · have e : u.data.toList = [] := List.eq_nil_of_length_eq_zero (by rw [← Lib.size_eq]; omega)
                rw [e]; exact hid rfl
            have Hr : Hid (u = ⟨(trim s.data.toList).toArray⟩) := by
              refine hid ?_
              show u = ⟨(trimE (trimL s.data.toList)).toArray⟩
              rw [← Hf.out, bytes_mk]
            by_cases h0 : 0 < u.size
            · have h1 : u.size - 1 < u.size := by omega
              obtain ⟨d, hd⟩ : ∃ d, u[u.size - 1]'h1 = d := ⟨_, rfl⟩
              have hb : blankB d = false := by
                cases hb : blankB d with
                | true => exact absurd ⟨h1, by rw [hd]; exact hb⟩ hgo
                | false => rfl
              have HB2 : Hid (∀ w, Calls Tryd.prog 27 #[.int .u8 d.toNat] w fun e w' => e = .returned (.bool false) ∧ w = w') := hid (fun w => by have := blankR_any d w; rw [hb] at this; exact this)
              clear hb hgo
              go_wp2_with (go_at_call 27; refine (HB2.out _).mono ?_; rintro e w1 ⟨rfl, rfl⟩)
              go_ret
              exact ⟨ret_val (congrArg Value.string Hr.out), rfl⟩
            · clear hgo
              go_wp2
              go_ret
              exact ⟨ret_val (congrArg Value.string Hr.out), rfl⟩
end Go.Proofs.YtalinfpakmcobaaDoor
