/- Walk: dates' named. -/
import Derived.Test.YtnkfgedpdokcpaaDoorCk2
import Derived.Test.YtnkfgedpdokcpaaDoorLowE
namespace Go.Proofs.YtnkfgedpdokcpaaDoor
open Go.RowKit Go.Lib Go.Proofs.Foot

def monthsText : ByteArray := ⟨#[74, 97, 110, 70, 101, 98, 77, 97, 114, 65, 112, 114, 77, 97, 121, 74, 117, 110, 74, 117, 108, 65, 117, 103, 83, 101, 112, 79, 99, 116, 78, 111, 118, 68, 101, 99]⟩
theorem lower_months : lower monthsText.data.toList = monthsLow := by decide +kernel
theorem low_months (w : World) : Calls Tryd.prog 46 #[.string ⟨#[74, 97, 110, 70, 101, 98, 77, 97, 114, 65, 112, 114, 77, 97, 121, 74, 117, 110, 74, 117, 108, 65, 117, 103, 83, 101, 112, 79, 99, 116, 78, 111, 118, 68, 101, 99]⟩] w fun e w' => e = .returned (.string ⟨monthsLow.toArray⟩) ∧ Below w.heap.size w w' := by
  have h := lowerA_any monthsText w (by decide)
  rw [lower_months] at h; exact h
theorem take_low (s : ByteArray) (h : 3 ≤ s.size) : (lower (s.extract 0 3).data.toList).length = 3 ∧ monthP s.data.toList = monthOf (lower (s.extract 0 3).data.toList) := by
  have e : (s.extract 0 3).data.toList = s.data.toList.take 3 := by rw [extract_eq]; rfl
  have hl : 3 ≤ s.data.toList.length := by rw [← Lib.size_eq]; exact h
  rw [e]
  refine ⟨by rw [lower_length, List.length_take]; omega, ?_⟩
  unfold monthP; rw [if_pos hl]

theorem indexA (s t : ByteArray) (w : World) (hw : w.ShapedOpen Tryd.prog) (hs : s.size < 4294967281) (v : Int) (hv : Lib.index s.data.toList t.data.toList = v) :
    Calls Tryd.prog 45 #[.string s, .string t] w fun e w' => e = .returned (.int .i64 v) ∧ w = w' := by
  refine (Tryd.strings_Index_shaped s t w hw hs).mono ?_
  rintro e w' ⟨he, rfl⟩
  exact ⟨by rw [he, hv], rfl⟩

set_option maxHeartbeats 1000000 in
set_option maxRecDepth 100000 in
theorem named_any (B g : Nat) (h i x k m y : Nat) (t0 t1 t2 t3 : Bool) (s : ByteArray) (hs : s.size ≤ 16777216) (w : World) (hB : B ≤ g) (hg : Blk w g 44 (row10 h i x k m y t0 t1 t2 t3)) (G : Good w) (o : Bool) (M : Nat) (hM : (o = true ∧ M = monthP s.data.toList ∧ M ≠ 0) ∨ (o = false ∧ M = m ∧ monthP s.data.toList = 0)) :
    Calls Tryd.prog 34 #[.pointer (some ⟨g, 0, none⟩), .string s] w (RuleR B g o (row10 h i x k M y t0 t1 t2 t3) w) := by
  have hlt := hg.lt
  by_cases h3 : s.size < 3
  · have h0 : monthP s.data.toList = 0 := by unfold monthP; rw [if_neg (by rw [← Lib.size_eq]; omega)]
    rcases hM with ⟨_, h1, h2⟩ | ⟨rfl, rfl, _⟩
    · exact absurd (h1.trans h0) h2
    · have Hg := hid hg
      clear hg h0
      go_enter Tryd.func34, Tryd.ntmps34
      go_wp2
      go_ret
      exact ⟨rfl, Hg.out, Below.refl _ _⟩
  · obtain ⟨hl3, hmp⟩ := take_low s (by omega)
    have hidx := months_index hl3
    obtain ⟨T, hT⟩ : ∃ T : ByteArray, lower (s.extract 0 3).data.toList = T.data.toList := ⟨⟨(lower (s.extract 0 3).data.toList).toArray⟩, by simp⟩
    have HL := hid (fun w => lowerA_any (s.extract 0 3) w (by
      have e : (s.extract 0 3).size = 3 := by rw [Lib.size_eq, ← lower_length]; exact hl3
      rw [e]; unfold maxLen; omega))
    rw [hT] at hidx hmp HL
    obtain ⟨v, hv⟩ : ∃ v, Lib.index monthsLow T.data.toList = v := ⟨_, rfl⟩
    have hle := monthP_le s.data.toList
    rw [hv] at hidx
    rw [hmp] at hM hle
    have HX := hid (fun w2 (hw : Below w.heap.size w w2) => indexA ⟨monthsLow.toArray⟩ T w2 (G.below hw).1 (by decide +kernel) v (by simpa using hv))
    have Hg := hid hg
    have hBw : B ≤ w.heap.size := Nat.le_trans hB (Nat.le_of_lt hlt)
    clear hT hl3 hg G hv hmp
    obtain ⟨q, hq⟩ : ∃ q, q = monthOf T.data.toList := ⟨_, rfl⟩
    rw [← hq] at hidx hM hle
    clear hq
    go_enter Tryd.func34, Tryd.ntmps34
    go_wp2_with fail
    go_region_with (first
      | (go_at_call_of 46 (s.extract 0 3); refine (HL.out _).mono ?_; rintro e w1 ⟨rfl, hb1⟩)
      | (go_at_call 46; refine (low_months _).mono ?_; rintro e w2 ⟨rfl, hb2⟩)
      | (go_at_call 45; refine (HX.out _ (by first | exact below_chain ((Below.refl _ w).drew.trans hb1) hb2 | exact below_chain ((Below.refl _ w).drew.trans hb2) hb1)).mono ?_; rintro e w3 ⟨rfl, rfl⟩))
    have hf : Below w.heap.size w w1 := by first | exact below_chain ((Below.refl _ w).drew.trans hb2) hb1 | exact below_chain ((Below.refl _ w).drew.trans hb1) hb2
    have Hg1 := hid (Hg.out.keep hf)
    have c4 : w1.cell? ⟨g, 4, none⟩ = some (.int .i64 m) := Hg1.out.cell rfl
    have f4 := Hg1.out.free 4
    have HB1 := hid (hf.mono hBw)
    clear hb1 hb2 hf
    rcases hM with ⟨rfl, rfl, hne⟩ | ⟨rfl, rfl, rfl⟩
    · rcases hidx with ⟨h0, _⟩ | ⟨_, hv⟩
      · exact absurd h0 hne
      · have v0 : 0 ≤ v := by omega
        have v33 : v ≤ 33 := by omega
        have v3 : (v % 3 != 0) = false := by rw [bne_eq_false_iff_eq]; omega
        have vq : v / 3 + 1 = (M : Int) := by omega
        have Hvq := hid vq
        clear vq hv
        go_wp2
        go_ret
        exact ⟨rfl, (Hg1.out.put 4 _).eq (by rw [Hvq.out]; rfl), HB1.out.setCell hB _⟩
    · rcases hidx with ⟨_, h0⟩ | ⟨h0, _⟩
      · by_cases hn : v < 0
        · clear h0
          go_wp2
          go_ret
          exact ⟨rfl, Hg1.out, HB1.out⟩
        · have v0 : 0 ≤ v := by omega
          have v3 : (v % 3 != 0) = true := by rw [bne_iff_ne]; omega
          clear h0
          go_wp2
          go_ret
          exact ⟨rfl, Hg1.out, HB1.out⟩
      · exact absurd rfl h0
end Go.Proofs.YtnkfgedpdokcpaaDoor
