/- Walks: sts' reader: word. -/
import Derived.Test.YtnmdcbneoipllaaDoorSt2
import Derived.Test.YtnmdcbneoipllaaDoorIdx
import Derived.Test.YtnmdcbneoipllaaDoorAtok
import Derived.Test.YtnmdcbneoipllaaDoorLowE
namespace Go.Proofs.YtnmdcbneoipllaaDoor
open Go.RowKit Go.Lib Go.Proofs.Foot

/-- What the walks of word asked of a text before XIdx: nothing any more. -/
def Asc (_ : List UInt8) : Prop := True
theorem Asc.of_suffix {l r : List UInt8} (_h : Asc l) (_hs : ∃ p, l = p ++ r) : Asc r := by
  trivial
def stopL : List UInt8 := [61, 59, 34, 32, 9]
theorem index_word : ∀ l : List UInt8, (Lib.indexAny l stopL = -1 ∧ wordW l = l) ∨ Lib.indexAny l stopL = ((wordW l).length : Int)
  | [] => .inl ⟨rfl, rfl⟩
  | c :: l => by
    unfold wordW
    rw [Lib.indexAny, List.takeWhile_cons]
    cases hc : stopL.contains c with
    | true =>
      have : stopB c = true := hc
      rw [this]; exact .inr rfl
    | false =>
      have : stopB c = false := hc
      rw [this]
      rcases index_word l with ⟨h1, h2⟩ | h
      · rw [h1]
        left
        refine ⟨rfl, ?_⟩
        unfold wordW at h2
        simp [h2]
      · rw [h]
        right
        have e : (((wordW l).length : Int) == -1) = false := by rw [beq_eq_false_iff_ne]; omega
        rw [e]
        simp [wordW]
theorem index_any (s : ByteArray) (hs : s.size ≤ 16777216) (_ha : Asc s.data.toList) (w : World) (v : Int) (hv : Lib.indexAny s.data.toList stopL = v) :
    Calls Tryd.prog 39 #[.string s, .string ⟨#[61, 59, 34, 32, 9]⟩] w fun e w' => e = .returned (.int .i64 v) ∧ Below w.heap.size w w' := by
  have h := index_five s hs w
  have e : Lib.indexAny s.data.toList fiveL = v := hv
  rw [e] at h
  exact h
theorem token_is (s : ByteArray) (hs : s.size ≤ 16777216) (b : Bool) (hb : token s.data.toList = b) (w : World) :
    Calls Tryd.prog 19 #[.string s] w fun e w' => e = .returned (.bool b) ∧ Below w.heap.size w w' := by
  have := token_any s w (by unfold maxLen; omega)
  rw [hb] at this; exact this
theorem word_take (l : List UInt8) : l.take (wordW l).length = wordW l ∧ l.drop (wordW l).length = wordR l := by
  have h : wordW l ++ wordR l = l := List.takeWhile_append_dropWhile
  exact ⟨(congrArg (List.take (wordW l).length) h).symm.trans List.take_left, (congrArg (List.drop (wordW l).length) h).symm.trans List.drop_left⟩
/-- Both ways to the word's length, to one walk behind. -/
theorem word_any (g : Nat) (s : ByteArray) (hs : s.size ≤ 16777216) (ha : Asc s.data.toList) (w : World) (h : Rd w g s) :
    Calls Tryd.prog 26 #[.pointer (some ⟨g, 0, none⟩)] w fun e w' =>
      match wordS s.data.toList with
      | some (v, r) => ∃ V R : ByteArray, V.data.toList = v ∧ R.data.toList = r ∧ e = .returned (.string V) ∧ Rdd g w R w'
      | none => e = .panicked [pan] ∧ ∃ R, Rdd g w R w' := by
  obtain ⟨T, hT⟩ : ∃ T : ByteArray, trimL s.data.toList = T.data.toList := ⟨⟨(trimL s.data.toList).toArray⟩, by simp⟩
  have HB := hid (fun w h => blanks_any g s T hT w h)
  have hTs : T.size ≤ 16777216 := by
    have := trimL_len s.data.toList
    rw [hT, ← Lib.size_eq, ← Lib.size_eq] at this; omega
  have haT : Asc T.data.toList := ha.of_suffix ⟨s.data.toList.takeWhile blankB, by rw [← hT]; exact (List.takeWhile_append_dropWhile).symm⟩
  obtain ⟨n, hn⟩ : ∃ n : Nat, n = (wordW T.data.toList).length := ⟨_, rfl⟩
  have hnT : n ≤ T.size := by
    have := wordR_len T.data.toList
    rw [Lib.size_eq]; omega
  obtain ⟨V, hV⟩ : ∃ V, V = T.extract 0 n := ⟨_, rfl⟩
  obtain ⟨R, hR⟩ : ∃ R, R = T.extract n T.size := ⟨_, rfl⟩
  have lV : V.data.toList = wordW T.data.toList := by rw [hV, extract_eq, hn]; simp [(word_take T.data.toList).1]
  have lR : R.data.toList = wordR T.data.toList := by
    rw [hR, extract_eq, hn, (word_take T.data.toList).2, List.take_of_length_le]
    have := wordR_len T.data.toList
    rw [Lib.size_eq]; omega
  have hVs : V.size ≤ 16777216 := by rw [Lib.size_eq, lV, ← hn]; omega
  have slV : ∀ W, (Instr.slice 9 (.string T) none (some (.int .i64 (n : Int))) none).run Tryd.prog W = .ok (.string V) W := fun W => by
    rw [run_slice_string_to_if W _ _ _ _ Tryd.underlying9, hV]
    rw [if_pos (by omega)]; rfl
  have slR : ∀ W, (Instr.slice 9 (.string T) (some (.int .i64 (n : Int))) none none).run Tryd.prog W = .ok (.string R) W := fun W => by
    rw [run_slice_string_from_if W _ _ _ _ Tryd.underlying9, hR]
    rw [if_pos (by omega)]; rfl
  have HI : Hid (∃ v : Int, (v = n ∨ (v = -1 ∧ n = T.size)) ∧ ∀ w, Calls Tryd.prog 39 #[.string T, .string ⟨#[61, 59, 34, 32, 9]⟩] w fun e w' => e = .returned (.int .i64 v) ∧ Below w.heap.size w w') := by
    refine hid ?_
    rcases index_word T.data.toList with ⟨h1, h2⟩ | h1
    · exact ⟨-1, .inr ⟨rfl, by rw [hn, h2, Lib.size_eq]⟩, fun w => index_any T hTs haT w _ h1⟩
    · exact ⟨_, .inl (by rw [hn]), fun w => index_any T hTs haT w _ h1⟩
  have H := hid h
  clear h
  cases htk : token (wordW T.data.toList) with
  | true =>
    have e : wordS s.data.toList = some (wordW T.data.toList, wordR T.data.toList) := by unfold wordS; rw [hT, htk]; rfl
    rw [e]
    have HTk := hid (fun w => token_is V hVs true (by rw [lV]; exact htk) w)
    have LV := hid lV
    have LR := hid lR
    clear hT hs ha haT hV hR lV lR htk e hn
    obtain ⟨v, hv, hI⟩ := HI.out
    have HI2 := hid hI
    clear HI hI
    go_enter Tryd.func26, Tryd.ntmps26
    go_wp2_with fail
    refine (HB.out _ H.out).mono ?_
    rintro e w1 ⟨rfl, hr1⟩
    have c1 := hr1.1.cell
    have R1 := hid hr1
    clear hr1
    go_wp2_with fail
    refine (HI2.out _).mono ?_
    rintro e w2 ⟨rfl, hb2⟩
    have R2 := hid (R1.out.below hb2)
    have c2 := R2.out.1.cell
    have f2 := R2.out.1.free
    clear hb2
    rcases hv with rfl | ⟨rfl, rfl⟩
    · go_wp2_with fail
      refine (HTk.out _).mono ?_
      rintro e w3 ⟨rfl, hb3⟩
      have R3 := hid ((R2.out.set R).below hb3)
      clear hb3
      go_wp2_with fail
      refine (must_yes _).mono ?_
      rintro e w' ⟨rfl, rfl⟩
      go_wp2
      go_ret
      exact ⟨V, R, LV.out, LR.out, rfl, R3.out⟩
    · go_wp2_with fail
      refine (HTk.out _).mono ?_
      rintro e w3 ⟨rfl, hb3⟩
      have R3 := hid ((R2.out.set R).below hb3)
      clear hb3
      go_wp2_with fail
      refine (must_yes _).mono ?_
      rintro e w' ⟨rfl, rfl⟩
      go_wp2
      go_ret
      exact ⟨V, R, LV.out, LR.out, rfl, R3.out⟩
  | false =>
    have e : wordS s.data.toList = none := by unfold wordS; rw [hT, htk]; rfl
    rw [e]
    have HTk := hid (fun w => token_is V hVs false (by rw [lV]; exact htk) w)
    have LV := hid lV
    have LR := hid lR
    clear hT hs ha haT hV hR lV lR htk e hn
    obtain ⟨v, hv, hI⟩ := HI.out
    have HI2 := hid hI
    clear HI hI
    go_enter Tryd.func26, Tryd.ntmps26
    go_wp2_with fail
    refine (HB.out _ H.out).mono ?_
    rintro e w1 ⟨rfl, hr1⟩
    have c1 := hr1.1.cell
    have R1 := hid hr1
    clear hr1
    go_wp2_with fail
    refine (HI2.out _).mono ?_
    rintro e w2 ⟨rfl, hb2⟩
    have R2 := hid (R1.out.below hb2)
    have c2 := R2.out.1.cell
    have f2 := R2.out.1.free
    clear hb2
    rcases hv with rfl | ⟨rfl, rfl⟩
    · go_wp2_with fail
      refine (HTk.out _).mono ?_
      rintro e w3 ⟨rfl, hb3⟩
      have R3 := hid ((R2.out.set R).below hb3)
      clear hb3
      go_wp2_with fail
      refine (must_no _).mono ?_
      rintro e w' ⟨rfl, rfl⟩
      exact ⟨rfl, rfl, R, R3.out⟩
    · go_wp2_with fail
      refine (HTk.out _).mono ?_
      rintro e w3 ⟨rfl, hb3⟩
      have R3 := hid ((R2.out.set R).below hb3)
      clear hb3
      go_wp2_with fail
      refine (must_no _).mono ?_
      rintro e w' ⟨rfl, rfl⟩
      exact ⟨rfl, rfl, R, R3.out⟩
end Go.Proofs.YtnmdcbneoipllaaDoor
