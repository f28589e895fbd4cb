/- Walk: ascii's Number. -/
import Derived.Test.YtalinfpakmcobaaDoorShelf
import Derived.Test.YtalinfpakmcobaaDoorBase
import Derived.Test.YtalinfpakmcobaaDoorSpec01c
import Derived.Test.YtalinfpakmcobaaDoorNumV
import Derived.Shelf.Strings.SlTrimAscii
namespace Go.Proofs.YtalinfpakmcobaaDoor
open Go.RowKit Go.Lib Go.Proofs.Foot

theorem trimD (s : ByteArray) (hs : s.size ≤ 16777216) (w : World) (T : ByteArray) (hT : Lib.trimS s.data.toList digitsL = T.data.toList) :
    Calls Tryd.prog 26 #[.string s, .string ⟨#[48, 49, 50, 51, 52, 53, 54, 55, 56, 57]⟩] w fun e w' => e = .returned (.string T) ∧ Below w.heap.size w w' := by
  have h := Any.strings_Trim_laid Tryd.lays160 (by kernel_rfl) s ⟨#[48, 49, 50, 51, 52, 53, 54, 55, 56, 57]⟩ w (by omega) (by decide) (by
    intro j b hb
    have hm : b ∈ digitsL := List.mem_of_getElem? hb
    simp only [digitsL, List.mem_cons, List.mem_nil_iff, or_false] at hm
    rcases hm with rfl | rfl | rfl | rfl | rfl | rfl | rfl | rfl | rfl | rfl <;> decide)
  have e : Lib.trimS s.data.toList (⟨#[48, 49, 50, 51, 52, 53, 54, 55, 56, 57]⟩ : ByteArray).data.toList = T.data.toList := hT
  rw [e] at h
  exact h

set_option maxRecDepth 100000 in
theorem numberA_any (s : ByteArray) (most : Int) (w : World) (hs : s.size ≤ 16777216) :
    Calls Tryd.prog 19 #[.string s, .int .i64 most] w fun e w' => e = .returned (numV s.data.toList most) ∧ Below w.heap.size w w' := by
  have hsl : s.data.toList.length = s.size := (Lib.size_eq s).symm
  by_cases h0 : s.size = 0
  · obtain rfl : s = ⟨#[]⟩ := by
      have e : s.data.toList = [] := List.eq_nil_of_length_eq_zero (by omega)
      cases s; simp at e; rw [e]
    have H := hid (numV_no (l := []) (most := most) (by simp))
    clear hsl h0 hs
    go_enter Tryd.func19, Tryd.ntmps19
    go_wp2
    go_ret2
    exact ⟨ret_val' H.out.symm, Below.refl _ _⟩
  · have hemp : s.toList.isEmpty = false := by
      rw [← decide_eq_emptyBytes]
      exact decide_eq_false (fun h => h0 (by rw [h]; rfl))
    by_cases h18 : s.size > 18
    · have H := hid (numV_no (l := s.data.toList) (most := most) (by rintro ⟨⟨⟨_, h⟩, _⟩, _⟩; omega))
      clear hsl
      go_enter Tryd.func19, Tryd.ntmps19
      go_wp2
      go_ret2
      exact ⟨ret_val' H.out.symm, Below.refl _ _⟩
    · have hne : s.data.toList ≠ [] := fun e => by rw [e] at hsl; exact h0 hsl.symm
      rcases all_or digB s.data.toList with hd | hd
      · have HT := hid (trimD s hs · ⟨#[]⟩ (trimD_all hd))
        have hat := atoi_digs hne hd (by omega)
        have hbd := digV_bd hd (by omega)
        have HA := hid (Tryd.strconv_Atoi_ok s (by omega) _ hat)
        by_cases hm : (digV 0 s.data.toList : Int) ≤ most
        · have H := hid (numV_yes (most := most) hne (by omega) hd hm)
          obtain ⟨v, hv⟩ : ∃ v, v = digV 0 s.data.toList := ⟨_, rfl⟩
          rw [← hv] at hbd hm HA H
          have hgt : ¬ ((v : Int) > most) := by omega
          clear hsl hne hd hat hv
          go_enter Tryd.func19, Tryd.ntmps19
          go_wp2_with (first
            | (go_at_call 26; refine (HT.out _).mono ?_; rintro e w1 ⟨rfl, hb1⟩)
            | (go_at_call 54; refine (HA.out _).mono ?_; rintro e w2 ⟨rfl, hw2⟩))
          go_ret2
          refine ⟨ret_val' H.out.symm, ?_⟩
          rcases hw2 with rfl | ⟨t, rfl⟩
          · exact hb1
          · exact below_chain hb1 (Lib.bytesWorld_below _ _ t)
        · have H := hid (numV_no (l := s.data.toList) (most := most) (fun h => hm h.2))
          obtain ⟨v, hv⟩ : ∃ v, v = digV 0 s.data.toList := ⟨_, rfl⟩
          rw [← hv] at hbd hm HA
          have hgt : (v : Int) > most := by omega
          clear hsl hne hd hat hv hm
          go_enter Tryd.func19, Tryd.ntmps19
          go_wp2_with (first
            | (go_at_call 26; refine (HT.out _).mono ?_; rintro e w1 ⟨rfl, hb1⟩)
            | (go_at_call 54; refine (HA.out _).mono ?_; rintro e w2 ⟨rfl, hw2⟩))
          go_ret2
          refine ⟨ret_val' H.out.symm, ?_⟩
          rcases hw2 with rfl | ⟨t, rfl⟩
          · exact hb1
          · exact below_chain hb1 (Lib.bytesWorld_below _ _ t)
      · have H := hid (numV_no (l := s.data.toList) (most := most) (by
          rintro ⟨⟨_, h⟩, _⟩
          obtain ⟨c, hc, hp⟩ := hd
          rw [h c hc] at hp; cases hp))
        obtain ⟨T, hT⟩ : ∃ T : ByteArray, Lib.trimS s.data.toList digitsL = T.data.toList := ⟨⟨(Lib.trimS s.data.toList digitsL).toArray⟩, by simp⟩
        have hTe : T.toList.isEmpty = false := by
          rw [← decide_eq_emptyBytes]
          refine decide_eq_false (fun h => trimD_some hd ?_)
          rw [hT, h]; rfl
        have HT := hid (trimD s hs · T hT)
        clear hsl hne hd hT
        go_enter Tryd.func19, Tryd.ntmps19
        go_wp2_with (go_at_call 26; refine (HT.out _).mono ?_; rintro e w1 ⟨rfl, hb1⟩)
        go_ret2
        exact ⟨ret_val' H.out.symm, hb1⟩
end Go.Proofs.YtalinfpakmcobaaDoor
