/- Walk: the reference's named. -/
import Derived.Test.YthfndlphhgchnaaGreatDoorRk2
import Derived.Test.YthfndlphhgchnaaGreatDoorLowR
import Derived.IntWalk
namespace Go.Proofs.YthfndlphhgchnaaGreatDoor
open Go.RowKit Go.Lib Go.Proofs.Foot

def monthsR : ByteArray := ⟨#[74, 97, 110, 70, 101, 98, 77, 97, 114, 65, 112, 114, 77, 97, 121, 74, 117, 110, 74, 117, 108, 65, 117, 103, 83, 101, 112, 79, 99, 116, 78, 111, 118, 68, 101, 99]⟩
theorem months_at (j : Nat) (hj : j < 12) (a b : Nat) (ha : a = 3 * j) (hb : b = 3 * j + 3) : lower (monthsR.extract a b).data.toList = monthNames.getD j [] := by
  subst ha hb
  have : ∀ j < 12, lower (monthsR.extract (3 * j) (3 * j + 3)).data.toList = monthNames.getD j [] := by decide +kernel
  exact this j hj
theorem names_len (j : Nat) (hj : j < 12) : (monthNames.getD j []).length = 3 := by
  have : ∀ j < 12, (monthNames.getD j []).length = 3 := by decide +kernel
  exact this j hj
theorem monthOf_name (j : Nat) (hj : j < 12) : monthOf (monthNames.getD j []) = j + 1 := by
  have : ∀ j < 12, monthOf (monthNames.getD j []) = j + 1 := by decide +kernel
  exact this j hj
theorem monthOf_none {t : List UInt8} (h : ∀ j < 12, monthNames.getD j [] ≠ t) : monthOf t = 0 := by
  unfold monthOf
  cases hi : monthNames.idxOf? t with
  | none => rfl
  | some i =>
    obtain ⟨hlt, he, _⟩ := List.idxOf?_eq_some_iff.1 hi
    have := h i hlt
    rw [List.getD, List.getElem?_eq_getElem hlt, Option.getD_some] at this
    exact absurd he this
theorem take_lowR (s : ByteArray) (h : 3 ≤ s.size) : (lower (s.extract 0 3).data.toList).length = 3 ∧ monthP s.data.toList = monthOf (lower (s.extract 0 3).data.toList) := by
  have e : (s.extract 0 3).data.toList = s.data.toList.take 3 := by rw [extract_eq]; rfl
  have hl : 3 ≤ s.data.toList.length := by rw [← Lib.size_eq]; exact h
  rw [e]
  refine ⟨by rw [lower_length, List.length_take]; omega, ?_⟩
  unfold monthP; rw [if_pos hl]
theorem ext_leR (s : ByteArray) (a b : Nat) : (s.extract a b).size ≤ s.size := by
  rw [Lib.size_eq, extract_eq, List.length_take, List.length_drop, Lib.size_eq s]; omega
theorem sameR_is (s t : ByteArray) (w : World) (hs : s.size ≤ 16777216) (ht : t.size ≤ 16777216) (b : Bool) (hb : sameB s.data.toList t.data.toList = b) :
    Calls Tryz.prog 124 #[.string s, .string t] w fun e w' => e = .returned (.bool b) ∧ Below w.heap.size w w' := by
  rw [← hb]; exact sameR_any s t w (by unfold maxLen; omega) (by unfold maxLen; omega)

set_option maxHeartbeats 4000000 in
set_option maxRecDepth 100000 in
theorem namedR_any (s : ByteArray) (hs : s.size ≤ 16777216) (w : World) :
    Calls Tryz.prog 99 #[.string s] w fun e w' => e = .returned (.int .i64 (monthP s.data.toList)) ∧ Below w.heap.size w w' := by
  by_cases h3 : s.size < 3
  · have h0 : monthP s.data.toList = 0 := by unfold monthP; rw [if_neg (by rw [← Lib.size_eq]; omega)]
    have H0 := hid h0
    clear h0
    have h3' : decide (3 ≤ s.size) = false := decide_eq_false (by omega)
    go_enter Tryz.func99, Tryz.ntmps99
    go_wp2
    refine wp_loop_rounds 1 ?_
    rw [rounds_succ]
    go_wp2
    go_ret
    exact ⟨ret_int (by rw [H0.out]; rfl), Below.refl _ _⟩
  · go_enter Tryz.func99, Tryz.ntmps99
    go_wp2
    go_loopw [3] (fun m wr => ∃ k : Nat, 1 ≤ k ∧ k ≤ 13 ∧ m = .int .i64 k ∧ Hid (Below w.heap.size w wr ∧ ∀ j < k - 1, monthNames.getD j [] ≠ lower (s.extract 0 3).data.toList)) (fun m _ => 13 - (RowKit.intOf m).toNat)
    case atStart => exact ⟨1, by omega, by omega, rfl, hid ⟨Below.refl _ _, (fun j hj => by omega)⟩⟩
    case round =>
      obtain ⟨k, hk1, hk, rfl, hh⟩ := hrel
      by_cases hk12 : k ≤ 12
      · have q1 : IntKind.i64.wrap (3 * (k : Int)) = 3 * (k : Int) := IntWalk.i64_in _ (by omega)
        have q2 : IntKind.i64.wrap (3 * (k : Int) - 3) = 3 * (k : Int) - 3 := IntWalk.i64_in _ (by omega)
        obtain ⟨NM, hNM⟩ : ∃ NM : ByteArray, NM = monthsR.extract (3 * (k : Int) - 3).toNat (3 * (k : Int)).toNat := ⟨_, rfl⟩
        have hsl : ∀ W, (Instr.slice 9 (.string ⟨#[74, 97, 110, 70, 101, 98, 77, 97, 114, 65, 112, 114, 77, 97, 121, 74, 117, 110, 74, 117, 108, 65, 117, 103, 83, 101, 112, 79, 99, 116, 78, 111, 118, 68, 101, 99]⟩) (some (.int .i64 (3 * (k : Int) - 3))) (some (.int .i64 (3 * (k : Int)))) none).run Tryz.prog W = .ok (.string NM) W := fun W => by
          rw [hNM]
          exact run_slice_string W _ _ _ _ _ _ Tryz.underlying9 (by omega) (by omega) (by show 3 * (k : Int) ≤ 36; omega)
        have hlow : lower NM.data.toList = monthNames.getD (k - 1) [] := by
          rw [hNM]; exact months_at (k - 1) (by omega) _ _ (by omega) (by omega)
        have hnz : NM.size ≤ 16777216 := by
          have := congrArg List.length hlow
          rw [lower_length, ← Lib.size_eq, names_len _ (by omega)] at this; omega
        have hname := monthOf_name (k - 1) (by omega)
        have hmp := (take_lowR s (by omega)).2
        have hext := ext_leR s 0 3
        obtain ⟨hbel, hno⟩ := hh.out
        have Hbel := hid hbel
        by_cases ht : lower (s.extract 0 3).data.toList = monthNames.getD (k - 1) []
        · have Hsame : Hid (sameB (s.extract 0 3).data.toList NM.data.toList = true) := hid (by unfold sameB; rw [ht, hlow]; simp)
          have Hfin : Hid (monthP s.data.toList = k) := hid (by rw [hmp, ht, hname]; omega)
          have HS := hid (fun w => sameR_is (s.extract 0 3) NM w (by omega) hnz true Hsame.out)
          clear hh hbel hno hNM hlow hname hmp ht hext hnz
          go_wp2_with fail
          go_region_with (go_at_call 124; refine (HS.out _).mono ?_; rintro e w5 ⟨rfl, hb5⟩)
          all_goals have Hb5 := hid (below_chain Hbel.out ((Below.refl _ wr).drew.trans hb5))
          all_goals clear hb5
          all_goals go_wp2
          all_goals go_ret
          all_goals exact ⟨ret_int (by rw [Hfin.out]), Hb5.out⟩
        · have Hsame : Hid (sameB (s.extract 0 3).data.toList NM.data.toList = false) := hid (by unfold sameB; rw [hlow, beq_eq_false_iff_ne]; exact ht)
          have Hno : Hid (∀ j < k + 1 - 1, monthNames.getD j [] ≠ lower (s.extract 0 3).data.toList) := hid (fun j hj => by
            by_cases hj2 : j = k - 1
            · rw [hj2]; exact fun h => ht h.symm
            · exact hno j (by omega))
          have HS := hid (fun w => sameR_is (s.extract 0 3) NM w (by omega) hnz false Hsame.out)
          clear hh hbel hno hNM hlow hname hmp ht hext hnz
          go_wp2_with fail
          go_region_with (go_at_call 124; refine (HS.out _).mono ?_; rintro e w5 ⟨rfl, hb5⟩)
          all_goals have Hb5 := hid (below_chain Hbel.out ((Below.refl _ wr).drew.trans hb5))
          all_goals clear hb5
          all_goals clear q1 q2 hsl
          all_goals go_wp2
          all_goals go_roundw
          all_goals first
            | exact ⟨k + 1, by omega, by omega, by go_num, hid ⟨Hb5.out, Hno.out⟩⟩
            | (simp [RowKit.intOf]; omega)
      · obtain rfl : k = 13 := by omega
        obtain ⟨hbel, hno⟩ := hh.out
        have hmp := (take_lowR s (by omega)).2
        have H0 : Hid (monthP s.data.toList = 0) := hid (by
          rw [hmp]; exact monthOf_none (fun j hj => (hno j (by omega))))
        have Hbel := hid hbel
        clear hh hbel hno hmp
        go_wp2
        go_ret
        exact ⟨ret_int (by rw [H0.out]; rfl), Hbel.out⟩
end Go.Proofs.YthfndlphhgchnaaGreatDoor
