/- Walks: setcookie's age and pair. -/
import Derived.Test.YthfndlphhgchnaaGreatDoorSc1
import Derived.Test.YthfndlphhgchnaaGreatDoorTrim
import Derived.Test.YthfndlphhgchnaaGreatDoorSpec01c
import Derived.Shelf.Strings.SlTrimAscii
namespace Go.Proofs.YthfndlphhgchnaaGreatDoor
open Go.RowKit Go.Lib Go.Proofs.Foot

theorem trimD (s : ByteArray) (hs : s.size ≤ 16777216) (w : World) (T : ByteArray) (hT : Lib.trimS s.data.toList digitsL = T.data.toList) :
    Calls Tryz.prog 37 #[.string s, .string ⟨#[48, 49, 50, 51, 52, 53, 54, 55, 56, 57]⟩] w fun e w' => e = .returned (.string T) ∧ Below w.heap.size w w' := by
  have h := Any.strings_Trim_laid Tryz.lays160 (by kernel_rfl) s ⟨#[48, 49, 50, 51, 52, 53, 54, 55, 56, 57]⟩ w (by omega) (by decide) (by
    intro j b hb
    have hm : b ∈ digitsL := List.mem_of_getElem? hb
    simp only [digitsL, List.mem_cons, List.mem_nil_iff, or_false] at hm
    rcases hm with rfl | rfl | rfl | rfl | rfl | rfl | rfl | rfl | rfl | rfl <;> decide)
  have e : Lib.trimS s.data.toList (⟨#[48, 49, 50, 51, 52, 53, 54, 55, 56, 57]⟩ : ByteArray).data.toList = T.data.toList := hT
  rw [e] at h
  exact h
/-- An age is told. -/
def ageT (t : CkT) (o : Option Int) : CkT := match o with | some x => { t with age := x, hasAge := true } | none => t
theorem empty_no {T : ByteArray} (h : T.data.toList ≠ []) : T.toList.isEmpty = false := by
  rw [← decide_eq_emptyBytes]
  exact decide_eq_false (fun e => h (by rw [e]; rfl))
theorem empty_is {T : ByteArray} (h : T.data.toList = []) : T = ⟨#[]⟩ := by cases T; simp at h; rw [h]
theorem bytes_neq {T s : ByteArray} (h : T.data.toList ≠ s.data.toList) : (T.toList == s.toList) = false := by
  rw [beq_eq_false_iff_ne]
  intro e
  exact h (by simpa [Lib.toList_data] using e)
set_option maxHeartbeats 1000000 in
set_option maxRecDepth 100000 in
theorem age_any (g : Nat) (t : CkT) (s : ByteArray) (hs : s.size ≤ 8000000) (w : World) (G : Good w) (hg : Blk w g 57 (rowC t)) :
    Calls Tryz.prog 40 #[.pointer (some ⟨g, 0, none⟩), .string s] w (SaysR g (ageT t (ageO s.data.toList)) w) := by
  obtain ⟨T, hT⟩ : ∃ T : ByteArray, offH 45 s.data.toList = T.data.toList := ⟨tx _, (tx_list _).symm⟩
  have hTs : T.size ≤ 8000000 := by have := offH_len 45 s.data.toList; rw [hT, ← Lib.size_eq, ← Lib.size_eq] at this; omega
  have H1 := hid (fun w => trimP s 45 w T hT)
  have Hg := hid hg
  by_cases hne : T.data.toList = []
  · obtain rfl := empty_is hne
    rw [ageO_no (.inl hT)]
    clear hg hT hTs hne G
    go_enter Tryz.func40, Tryz.ntmps40
    go_wp2_with (go_at_call 67; refine (H1.out _).mono ?_; rintro e w1 ⟨rfl, rfl⟩)
    go_end0
    exact ⟨rfl, Hg.out, grown_refl _ _⟩
  · have hemp := empty_no hne
    rcases all_or digB T.data.toList with hd | hd
    · have HT := hid (trimD T (by omega) · ⟨#[]⟩ (trimD_all hd))
      obtain ⟨u, hu⟩ : ∃ u : ByteArray, u = ⟨(Lib.trimLeftB T.data.toList 48).toArray⟩ := ⟨_, rfl⟩
      have HL := hid (fun w => Tryz.strings_TrimLeft_one T 48 (by decide) w)
      rw [← hu] at HL
      have hul : u.data.toList = T.data.toList.dropWhile (· == 48) := by rw [hu]; rfl
      have huz : u.size ≤ 8000000 := by
        have := (List.dropWhile_sublist (· == 48) (l := T.data.toList)).length_le
        rw [Lib.size_eq, hul]; rw [← Lib.size_eq] at this; omega
      obtain ⟨A, hA⟩ : ∃ A : ByteArray, A = ⟨#[48]⟩ ++ u := ⟨_, rfl⟩
      have hAl : A.data.toList = 48 :: T.data.toList.dropWhile (· == 48) := by rw [hA, ByteArray.data_append, Array.toList_append, hul]; rfl
      have hAz : A.size ≤ 16777216 := by rw [Lib.size_eq, hAl, ← hul, List.length_cons, ← Lib.size_eq]; omega
      have hAd : ∀ c ∈ A.data.toList, digB c = true := by rw [hAl]; exact dig_drop0 hd
      obtain ⟨av1, av2⟩ := atoi_val (l := A.data.toList) (by rw [hAl]; simp) hAd
      rw [hAl, digV_drop0, ← hAl] at av1 av2
      have HA := hid (fun w (G : Good w) => atoi_digits A w hAz hAd G)
      have hadd : ∀ V, (Op.stringOp .add ⟨#[48]⟩ u).run Tryz.prog V = .ok (.string A) V := fun V => by rw [hA]; exact run_string_add V _ _ (by decide) (by omega)
      obtain ⟨N, hN⟩ : ∃ N : Nat, N = digV 0 T.data.toList := ⟨_, rfl⟩
      rw [← hN] at av1 av2
      have Hav1 := hid av1
      have Hav2 := hid av2
      have hyes := ageO_yes (l := s.data.toList) (by rw [hT]; exact hne) (by rw [hT]; exact hd) (n := min maxN N) (by rw [hT, hN])
      obtain ⟨M, hM⟩ : ∃ M : Nat, M = min maxN N := ⟨_, rfl⟩
      rw [← hM] at hyes
      have hM2 : M ≤ 2147483647 := by rw [hM]; exact Nat.min_le_left _ _
      have HM0 := hid hM
      have Hyes := hid hyes
      have HG := hid G
      have hcmp : (s.data.toList.head? = some 45 ∧ (T.toList == s.toList) = false) ∨ (s.data.toList.head? ≠ some 45 ∧ T = s) := by
        rcases offH_ne (a := 45) (l := s.data.toList) with ⟨a, b⟩ | ⟨a, b⟩
        · exact .inl ⟨a, bytes_neq (by rw [← hT]; exact b)⟩
        · refine .inr ⟨a, ?_⟩
          rw [hT] at b
          exact (tx_of T).symm.trans ((congrArg tx b).trans (tx_of s))
      have Hcmp := hid hcmp
      clear hg hT hne hd hu hul hA hAl hAd av1 av2 hN G hcmp hyes hM
      go_enter Tryz.func40, Tryz.ntmps40
      go_wp2_with (first
        | (go_at_call 67; refine (H1.out _).mono ?_; rintro e w1 ⟨rfl, rfl⟩)
        | (go_at_call 37; refine (HT.out _).mono ?_; rintro e w1 ⟨rfl, hb1⟩)
        | (go_at_call 69; refine (HL.out _).mono ?_; rintro e w2 ⟨rfl, rfl⟩))
      refine (HA.out _ (HG.out.below hb1)).mono ?_
      rintro e w2 ⟨v, er, rfl, hr, hb2⟩
      have Hb := hid (below_chain hb1 hb2)
      have Hr := hid hr
      clear hr hb1 hb2 hadd
      have hM := HM0.out
      have hcase : (er = .nilIface ∧ v = (M : Nat) ∧ ¬ v > 2147483647) ∨ (er = .nilIface ∧ v > 2147483647 ∧ M = 2147483647) ∨ (∃ et ep, er = .iface et ep ∧ M = 2147483647) := by
        rcases Hr.out with ⟨h1, h2⟩ | ⟨⟨et, ep, h1⟩, h2⟩
        · have hv := Hav1.out v h2
          by_cases hgt : v > 2147483647
          · exact .inr (.inl ⟨h1, hgt, by rw [hM]; unfold maxN; omega⟩)
          · exact .inl ⟨h1, by rw [hM, hv]; unfold maxN; omega, hgt⟩
        · exact .inr (.inr ⟨et, ep, h1, by have := Hav2.out h2; rw [hM]; unfold maxN at *; omega⟩)
      have Hg1 := hid (Hg.out.keep Hb.out)
      have c6 : w2.cell? ⟨g, 6, none⟩ = some (.int .i64 t.age) := Hg1.out.cell rfl
      have f6 := Hg1.out.free 6
      have c7 : w2.cell? ⟨g, 7, none⟩ = some (.bool t.hasAge) := Hg1.out.cell rfl
      have f7 := Hg1.out.free 7
      have Hb1 := hid (grown_below Hb.out (some g))
      clear Hr Hav1 Hav2 hM
      rcases hcase with ⟨rfl, rfl, hgt⟩ | ⟨rfl, hgt, hMM⟩ | ⟨et, ep, rfl, hMM⟩
      · rcases Hcmp.out with ⟨a, b⟩ | ⟨a, rfl⟩
        · have Ha := hid a
          clear a
          go_wp2
          go_end0
          exact ⟨rfl, ((Hg1.out.put 6 _).put 7 _).eq (by rw [Hyes.out, if_pos Ha.out]; rfl), grown_set (grown_set Hb1.out _ _) _ _⟩
        · have Ha := hid a
          clear a
          go_wp2
          go_end0
          exact ⟨rfl, ((Hg1.out.put 6 _).put 7 _).eq (by rw [Hyes.out, if_neg Ha.out]; rfl), grown_set (grown_set Hb1.out _ _) _ _⟩
      · have HM := hid hMM
        clear hMM hM2
        rcases Hcmp.out with ⟨a, b⟩ | ⟨a, rfl⟩
        · have Ha := hid a
          clear a
          go_wp2
          go_end0
          exact ⟨rfl, ((Hg1.out.put 6 _).put 7 _).eq (by rw [Hyes.out, if_pos Ha.out, HM.out]; rfl), grown_set (grown_set Hb1.out _ _) _ _⟩
        · have Ha := hid a
          clear a
          go_wp2
          go_end0
          exact ⟨rfl, ((Hg1.out.put 6 _).put 7 _).eq (by rw [Hyes.out, if_neg Ha.out, HM.out]; rfl), grown_set (grown_set Hb1.out _ _) _ _⟩
      · have HM := hid hMM
        clear hMM hM2
        rcases Hcmp.out with ⟨a, b⟩ | ⟨a, rfl⟩
        · have Ha := hid a
          clear a
          go_wp2
          go_end0
          exact ⟨rfl, ((Hg1.out.put 6 _).put 7 _).eq (by rw [Hyes.out, if_pos Ha.out, HM.out]; rfl), grown_set (grown_set Hb1.out _ _) _ _⟩
        · have Ha := hid a
          clear a
          go_wp2
          go_end0
          exact ⟨rfl, ((Hg1.out.put 6 _).put 7 _).eq (by rw [Hyes.out, if_neg Ha.out, HM.out]; rfl), grown_set (grown_set Hb1.out _ _) _ _⟩
    · rw [ageO_no (.inr (by rw [hT]; exact hd))]
      obtain ⟨U, hU⟩ : ∃ U : ByteArray, Lib.trimS T.data.toList digitsL = U.data.toList := ⟨tx _, (tx_list _).symm⟩
      have hUe := empty_no (T := U) (by rw [← hU]; exact trimD_some hd)
      have HT := hid (trimD T (by omega) · U hU)
      clear hg hT hne hd hU G
      go_enter Tryz.func40, Tryz.ntmps40
      go_wp2_with (first
        | (go_at_call 67; refine (H1.out _).mono ?_; rintro e w1 ⟨rfl, rfl⟩)
        | (go_at_call 37; refine (HT.out _).mono ?_; rintro e w1 ⟨rfl, hb1⟩))
      go_end0
      exact ⟨rfl, Hg.out.keep hb1, grown_below hb1 _⟩
theorem befE_len (l : List UInt8) : (befE l).length ≤ l.length := (List.takeWhile_sublist _).length_le
theorem aftE_len (l : List UInt8) : (aftE l).length ≤ l.length := by
  unfold aftE
  have h1 := (List.dropWhile_sublist (· != (61 : UInt8)) (l := l)).length_le
  rw [List.length_drop]; omega
theorem pairA_any (s : ByteArray) (hs : s.size ≤ 16777216) (w : World) (hsh : w.ShapedOpen Tryz.prog) :
    Calls Tryz.prog 26 #[.string s] w fun e w' => e = .returned (.tuple #[.string (tx (nameP s.data.toList)), .string (tx (valP s.data.toList)), .bool (hasE s.data.toList)]) ∧ Below w.heap.size w w' := by
  obtain ⟨X, hX⟩ : ∃ X : ByteArray, befE s.data.toList = X.data.toList := ⟨tx _, (tx_list _).symm⟩
  obtain ⟨Y, hY⟩ : ∃ Y : ByteArray, aftE s.data.toList = Y.data.toList := ⟨tx _, (tx_list _).symm⟩
  have hXs : X.size ≤ 16777216 := by have := befE_len s.data.toList; rw [hX, ← Lib.size_eq, ← Lib.size_eq] at this; omega
  have hYs : Y.size ≤ 16777216 := by have := aftE_len s.data.toList; rw [hY, ← Lib.size_eq, ← Lib.size_eq] at this; omega
  have hc := Tryz.strings_Cut_shaped s ⟨#[61]⟩ w hsh (by omega)
  have he : Lib.cut s.data.toList (⟨#[61]⟩ : ByteArray).data.toList = (X.data.toList, Y.data.toList, hasE s.data.toList) := by
    have := cut_equals s.data.toList
    rw [hX, hY] at this; exact this
  rw [he] at hc
  have hc' : Calls Tryz.prog 25 #[.string s, .string ⟨#[61]⟩] w fun e w' => e = .returned (.tuple #[.string X, .string Y, .bool (hasE s.data.toList)]) ∧ Below w.heap.size w w' := by
    refine hc.mono ?_
    rintro e w' ⟨h1, n, rfl⟩
    refine ⟨h1.trans ?_, below_drewN (Below.refl _ _) n⟩
    rw [show (⟨X.data.toList.toArray⟩ : ByteArray) = X from tx_of X, show (⟨Y.data.toList.toArray⟩ : ByteArray) = Y from tx_of Y]
  have H := hid hc'
  have HX := hid (fun w => trimA_any X w hXs)
  have HY := hid (fun w => trimA_any Y w hYs)
  obtain ⟨N, hN⟩ : ∃ N : ByteArray, N = tx (nameP s.data.toList) := ⟨_, rfl⟩
  obtain ⟨V, hV⟩ : ∃ V : ByteArray, V = tx (valP s.data.toList) := ⟨_, rfl⟩
  rw [show (⟨(trim X.data.toList).toArray⟩ : ByteArray) = N from by rw [hN, nameP, hX]; rfl] at HX
  rw [show (⟨(trim Y.data.toList).toArray⟩ : ByteArray) = V from by rw [hV, valP, hY]; rfl] at HY
  rw [← hN, ← hV]
  clear hX hY hXs hYs hc he hc' hN hV
  go_enter Tryz.func26, Tryz.ntmps26
  go_wp2_with (go_at_call 25; refine (H.out).mono ?_; rintro e w0 ⟨rfl, hb0⟩)
  refine (HX.out _).mono ?_
  rintro e w1 ⟨rfl, hb1⟩
  have hb1 := below_chain hb0 hb1
  go_wp2_with fail
  refine (HY.out _).mono ?_
  rintro e w2 ⟨rfl, hb2⟩
  go_wp2
  go_ret3
  exact ⟨rfl, below_chain hb1 hb2⟩
end Go.Proofs.YthfndlphhgchnaaGreatDoor
