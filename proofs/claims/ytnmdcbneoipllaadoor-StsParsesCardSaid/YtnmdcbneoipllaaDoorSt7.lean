/- Walk: sts' age. -/
import Derived.Test.YtnmdcbneoipllaaDoorSt6
import Derived.Shelf.Strconv.ErrVarAll
namespace Go.Proofs.YtnmdcbneoipllaaDoor
open Go.RowKit Go.Lib Go.Proofs.Foot

/-- What Parse takes of a world: the variables' shapes, an error in each of two variables, the table of powers of ten. -/
def GoodP (w : World) : Prop := w.ShapedOpen Tryd.prog ∧ (∃ te pe, w.cell? ⟨2, 0, none⟩ = some (.iface te pe)) ∧ (∃ te pe, w.cell? ⟨3, 0, none⟩ = some (.iface te pe)) ∧ Lib.TabIs Tryd.prog w "internal/strconv.uint64pow10" .u64 Lib.pow10Tab
theorem GoodP.below {w w' : World} (h : GoodP w) (hb : Below w.heap.size w w') : GoodP w' := by
  obtain ⟨hs, ⟨te, pe, hc⟩, ⟨te2, pe2, hc2⟩, ht⟩ := h
  exact ⟨hs.keptBut (hb.frame (fun _ => False)) (fun _ h => h.elim), ⟨te, pe, (hb.cell (Lib.lt_of_cell hc)).trans hc⟩, ⟨te2, pe2, (hb.cell (Lib.lt_of_cell hc2)).trans hc2⟩,
    Lib.tabBelow_of_tabIs ht w' hb⟩
theorem GoodP.good {w : World} (h : GoodP w) : Good w := ⟨h.1, h.2.2.2⟩

theorem pu_all (l : List UInt8) (hd : ∀ c ∈ l, digB c = true) : ∀ acc, (∃ u, Lib.parseUint10 acc l = .ok u) ∨ Lib.parseUint10 acc l = .range := by
  induction l with
  | nil => intro acc; exact .inl ⟨acc, rfl⟩
  | cons c l ih =>
    intro acc
    have hc := (digB_iff _).1 (hd c (by simp))
    rw [Lib.parseUint10, if_pos hc]
    split
    · exact .inr rfl
    · split
      · exact .inr rfl
      · exact ih (fun d hm => hd d (List.mem_cons_of_mem _ hm)) _
/-- strconv.Atoi of digits: a number, or it is out of range. -/
theorem atoi_all {l : List UInt8} (hne : l ≠ []) (hd : ∀ c ∈ l, digB c = true) : (∃ v, Lib.atoiAll l = .ok v) ∨ Lib.atoiAll l = .range := by
  match l, hne with
  | c :: r, _ =>
    have hc := (digB_iff _).1 (hd c (by simp))
    have hm : Lib.parseMag (c :: r) = Lib.parseUint10 0 (c :: r) := by unfold Lib.parseMag; rw [if_neg (by simp)]
    unfold Lib.atoiAll
    simp only [show ¬ (c.toNat = 43 ∨ c.toNat = 45) from by omega, if_false, hm]
    rcases pu_all (c :: r) hd 0 with ⟨u, hu⟩ | hu
    · rw [hu]
      simp only
      split
      · exact .inr rfl
      · split
        · exact .inr rfl
        · exact .inl ⟨_, rfl⟩
    · rw [hu]; exact .inr rfl

/-- What strconv.Atoi answers to digits (or to nothing). -/
def AtoiR (l : List UInt8) (w : World) (e : Ending) (w' : World) : Prop :=
  ∃ (v : Int) (er : Value), e = .returned (.tuple #[.int .i64 v, er]) ∧ ((er = .nilIface ∧ Lib.atoiAll l = .ok v) ∨ ((∃ t p, er = .iface t p) ∧ ∀ u, Lib.atoiAll l ≠ .ok u)) ∧ Below w.heap.size w w'
theorem atoi_digits (s : ByteArray) (w : World) (hs : s.size ≤ 16777216) (hd : ∀ c ∈ s.data.toList, digB c = true) (G : GoodP w) :
    Calls Tryd.prog 42 #[.string s] w (AtoiR s.data.toList w) := by
  obtain ⟨_, ⟨te, pe, hc⟩, ⟨te2, pe2, hc2⟩, _⟩ := G
  by_cases hne : s.data.toList = []
  · have h : Lib.atoiAll s.data.toList = Lib.atoiAll [] := by rw [hne]
    refine (Tryd.strconv_Atoi_syntax s (by omega) h _ w hc (.inr ⟨te, pe, rfl⟩)).mono ?_
    rintro e w' ⟨N, he, _, _, hb⟩
    exact ⟨0, _, he, .inr ⟨⟨_, _, rfl⟩, fun u hu => by rw [h] at hu; simp [Lib.atoiAll] at hu⟩, hb⟩
  · rcases atoi_all hne hd with ⟨v, hv⟩ | h
    · refine (Tryd.strconv_Atoi_ok s (by omega) v hv w).mono ?_
      rintro e w' ⟨he, hw⟩
      refine ⟨v, _, he, .inl ⟨rfl, hv⟩, ?_⟩
      rcases hw with rfl | ⟨t, rfl⟩
      · exact Below.refl _ _
      · exact Lib.bytesWorld_below _ _ t
    · refine (Tryd.strconv_Atoi_range s (by omega) h _ w hc2 (.inr ⟨te2, pe2, rfl⟩)).mono ?_
      rintro e w' ⟨N, he, _, _, hb⟩
      exact ⟨_, _, he, .inr ⟨⟨_, _, rfl⟩, fun u hu => by rw [h] at hu; cases hu⟩, hb⟩

theorem digV_ge (l : List UInt8) : ∀ acc, acc ≤ digV acc l := by
  induction l with
  | nil => intro acc; exact Nat.le_refl _
  | cons c l ih => intro acc; have := ih (acc * 10 + (c.toNat - 48)); rw [digV_cons]; omega
theorem pu_val (l : List UInt8) : ∀ (acc : Nat), (∀ u, Lib.parseUint10 acc l = .ok u → u = digV acc l) ∧ (Lib.parseUint10 acc l = .range → 18446744073709551616 ≤ digV acc l) := by
  induction l with
  | nil => intro acc; refine ⟨fun u h => ?_, fun h => ?_⟩
           · rw [Lib.parseUint10] at h; injection h with h; exact h.symm
           · rw [Lib.parseUint10] at h; cases h
  | cons c l ih =>
    intro acc
    have hg := digV_ge l (acc * 10 + (c.toNat - 48))
    rw [Lib.parseUint10, digV_cons]
    split
    · split
      · refine ⟨fun u h => (by cases h), fun _ => by omega⟩
      · split
        · refine ⟨fun u h => (by cases h), fun _ => by omega⟩
        · exact ih _
    · refine ⟨fun u h => (by cases h), fun h => (by cases h)⟩
theorem atoi_val {l : List UInt8} (hne : l ≠ []) (hd : ∀ c ∈ l, digB c = true) : (∀ v, Lib.atoiAll l = .ok v → v = digV 0 l) ∧ ((∀ u, Lib.atoiAll l ≠ .ok u) → 9223372036854775808 ≤ digV 0 l) := by
  match l, hne with
  | c :: r, _ =>
    have hc := (digB_iff _).1 (hd c (by simp))
    have hm : Lib.parseMag (c :: r) = Lib.parseUint10 0 (c :: r) := by unfold Lib.parseMag; rw [if_neg (by simp)]
    have hp := pu_val (c :: r) 0
    unfold Lib.atoiAll
    simp only [show ¬ (c.toNat = 43 ∨ c.toNat = 45) from by omega, if_false, hm]
    rcases pu_all (c :: r) hd 0 with ⟨u, hu⟩ | hu
    · have hv := hp.1 u hu
      rw [hu]
      simp only
      have h45 : ¬ c.toNat = 45 := by omega
      simp only [h45, not_false_eq_true, true_and, false_and, if_false]
      split
      · refine ⟨fun v h => (by cases h), fun _ => by omega⟩
      · refine ⟨fun v h => ?_, fun h => absurd rfl (h u)⟩
        injection h with h; rw [← h, hv]
    · have hv := hp.2 hu
      rw [hu]
      refine ⟨fun v h => (by cases h), fun _ => by omega⟩
theorem digV_zeros (l : List UInt8) : digV 0 (48 :: l.dropWhile (([48] : List UInt8).contains ·)) = digV 0 l := by
  rw [digV_cons]
  show digV 0 _ = _
  induction l with
  | nil => rfl
  | cons c l ih =>
    rw [List.dropWhile_cons]
    by_cases h : c = 48
    · subst h
      rw [if_pos (by decide), digV_cons]
      exact ih
    · rw [if_neg (by simp; exact h)]
theorem trimZ (s : ByteArray) (w : World) (T : ByteArray) (hT : s.data.toList.dropWhile (([48] : List UInt8).contains ·) = T.data.toList) :
    Calls Tryd.prog 38 #[.string s, .string ⟨#[48]⟩] w fun e w' => e = .returned (.string T) ∧ Below w.heap.size w w' := by
  have h := Any.strings_TrimLeft_laid Tryd.lays161 (by kernel_rfl) s ⟨#[48]⟩ w (by decide) (by
    intro j b hb
    match j, hb with
    | 0, hb => simp at hb; subst hb; decide
    | j + 1, hb => simp at hb)
  have e : Lib.trimLeftS s.data.toList (⟨#[48]⟩ : ByteArray).data.toList = T.data.toList := hT
  rw [e] at h
  exact h
theorem ascii_digits : ∀ (j : Nat) b, (⟨#[48, 49, 50, 51, 52, 53, 54, 55, 56, 57]⟩ : ByteArray).data.toList[j]? = some b → b.toNat < 128 := by
  intro j b h
  have hm : b ∈ digitsL := List.mem_of_getElem? h
  have : ∀ b ∈ digitsL, b.toNat < 128 := by decide
  exact this b hm
theorem trimD (s : ByteArray) (hs : s.size ≤ 16777216) (w : World) (T : ByteArray) (hT : Lib.trimS s.data.toList digitsL = T.data.toList) :
    Calls Tryd.prog 41 #[.string s, .string ⟨#[48, 49, 50, 51, 52, 53, 54, 55, 56, 57]⟩] w fun e w' => e = .returned (.string T) ∧ Below w.heap.size w w' := by
  have h := Any.strings_Trim_laid Tryd.lays160 (by kernel_rfl) s ⟨#[48, 49, 50, 51, 52, 53, 54, 55, 56, 57]⟩ w (by omega) (by decide) ascii_digits
  have e : Lib.trimS s.data.toList (⟨#[48, 49, 50, 51, 52, 53, 54, 55, 56, 57]⟩ : ByteArray).data.toList = T.data.toList := hT
  rw [e] at h
  exact h
theorem age_no (s : ByteArray) (hs : s.size ≤ 16777216) (h : ageS s.data.toList = none) (w : World) :
    Calls Tryd.prog 29 #[.string s] w fun e w' => e = .panicked [pan] ∧ Below w.heap.size w w' := by
  by_cases hl : s.data.toList = []
  · obtain rfl : s = ⟨#[]⟩ := by
      apply bytes_ext; rw [hl]
    clear h hl hs
    go_enter Tryd.func29, Tryd.ntmps29
    go_wp2_with fail
    refine (must_f _ rfl _).mono ?_
    rintro e w' ⟨rfl, rfl⟩
    exact ⟨rfl, rfl, Below.refl _ _⟩
  · have hne : s.toList.isEmpty = false := by rw [Lib.toList_data]; simpa using hl
    have hne2 : ¬ s.toList = [] := by rw [Lib.toList_data]; exact hl
    have hd : ∃ c ∈ s.data.toList, digB c = false := by
      unfold ageS at h
      split at h
      · cases h
      · rename_i hh
        cases ha : s.data.toList.all digB with
        | true => exact absurd ⟨by simpa using hl, ha⟩ hh
        | false =>
          rw [List.all_eq_false] at ha
          obtain ⟨c, hc, hp⟩ := ha
          exact ⟨c, hc, by simpa using hp⟩
    obtain ⟨T, hT⟩ : ∃ T : ByteArray, Lib.trimS s.data.toList digitsL = T.data.toList := ⟨⟨(Lib.trimS s.data.toList digitsL).toArray⟩, by simp⟩
    have hTn := trimD_some hd
    rw [hT] at hTn
    have hT1 : T.toList.isEmpty = false := by rw [Lib.toList_data]; simpa using hTn
    have hT2 : ¬ T.toList = [] := by rw [Lib.toList_data]; exact hTn
    have HT := hid (fun w => trimD s hs w T hT)
    clear h hl hd hT hTn
    go_enter Tryd.func29, Tryd.ntmps29
    go_wp2_with fail
    refine (HT.out _).mono ?_
    rintro e w1 ⟨rfl, hb1⟩
    have B1 := hid hb1
    clear hb1
    go_wp2_with fail
    refine (must_f _ (by first | rfl | simp | simp [*]) _).mono ?_
    rintro e w' ⟨rfl, rfl⟩
    exact ⟨rfl, rfl, B1.out⟩
theorem age_yes (s : ByteArray) (hs : s.size ≤ 1048576) (n : Nat) (h : ageS s.data.toList = some n) (w : World) (G : GoodP w) :
    Calls Tryd.prog 29 #[.string s] w fun e w' => e = .returned (.int .i64 n) ∧ Below w.heap.size w w' := by
  unfold ageS at h
  split at h
  · rename_i hh
    obtain ⟨hl, ha⟩ := hh
    have hd : ∀ c ∈ s.data.toList, digB c = true := List.all_eq_true.1 ha
    have hne0 : s.data.toList ≠ [] := by intro e; rw [e] at hl; cases hl
    have hne : s.toList.isEmpty = false := by rw [Lib.toList_data]; exact hl
    have hne2 : ¬ s.toList = [] := by rw [Lib.toList_data]; exact hne0
    have HT := hid (fun w => trimD s (by omega) w ⟨#[]⟩ (by rw [trimD_all hd]))
    obtain ⟨Z, hZ⟩ : ∃ Z : ByteArray, s.data.toList.dropWhile (([48] : List UInt8).contains ·) = Z.data.toList := ⟨⟨(s.data.toList.dropWhile (([48] : List UInt8).contains ·)).toArray⟩, by simp⟩
    have HZ := hid (fun w => trimZ s w Z hZ)
    have hZs : Z.size ≤ 1048576 := by
      have := (List.dropWhile_sublist (([48] : List UInt8).contains ·) (l := s.data.toList)).length_le
      rw [hZ, ← Lib.size_eq, ← Lib.size_eq] at this; omega
    have hZd : ∀ c ∈ Z.data.toList, digB c = true := fun c hc => hd c ((List.dropWhile_sublist _).subset (by rw [← hZ] at hc; exact hc))
    obtain ⟨N, hN⟩ : ∃ N : ByteArray, N = ⟨#[48]⟩ ++ Z := ⟨_, rfl⟩
    have hNl : N.data.toList = 48 :: Z.data.toList := by rw [hN, cat_l]; rfl
    have hNd : ∀ c ∈ N.data.toList, digB c = true := by
      intro c hc
      rw [hNl] at hc
      rcases List.mem_cons.1 hc with rfl | hc
      · decide
      · exact hZd c hc
    have hv : digV 0 N.data.toList = digV 0 s.data.toList := by rw [hNl, ← hZ]; exact digV_zeros _
    have hNs : N.size ≤ 16777216 := by rw [Lib.size_eq, hNl, List.length_cons, ← Lib.size_eq]; omega
    have hval := atoi_val (l := N.data.toList) (by rw [hNl]; simp) hNd
    rw [hv] at hval
    have HA := hid (fun w G => atoi_digits N w hNs hNd G)
    have Hval := hid hval
    have hn : n = min (digV 0 s.data.toList) 2147483647 := by injection h with h; exact h.symm
    have Hn := hid hn
    have HG := hid G
    have HN := hid hN
    have zZ : (Z.size : Int) ≤ 8388608 := by omega
    clear h hl ha hd hne0 hZ hZd hNl hNd hv hval hn G hN
    go_enter Tryd.func29, Tryd.ntmps29
    go_wp2_with fail
    refine (HT.out _).mono ?_
    rintro e w1 ⟨rfl, hb1⟩
    have B1 := hid hb1
    clear hb1
    go_wp2_with fail
    refine (must_t _ (by first | rfl | simp | simp [*]) _).mono ?_
    rintro e w' ⟨rfl, rfl⟩
    go_wp2_with fail
    refine (HZ.out _).mono ?_
    rintro e w2 ⟨rfl, hb2⟩
    have B2 := hid (below_chain B1.out hb2)
    clear hb2
    go_wp2_with fail
    rw [← HN.out]
    refine (HA.out _ (HG.out.below B2.out)).mono ?_
    rintro e w3 ⟨v, er, rfl, hcase, hb3⟩
    have B3 := hid (below_chain B2.out hb3)
    clear hb3
    rcases hcase with ⟨rfl, hok⟩ | ⟨⟨t, p, rfl⟩, hno⟩
    · have hvv := Hval.out.1 v hok
      have hfin := hid (show min ((digV 0 s.data.toList : Nat) : Int) 2147483647 = (n : Int) by rw [Hn.out]; omega)
      subst hvv
      clear hok
      go_wp2
      go_ret
      exact ⟨ret_val (by rw [← hfin.out]; rfl), B3.out⟩
    · have hge := Hval.out.2 hno
      have hfin := hid (show (2147483647 : Int) = (n : Int) by rw [Hn.out]; omega)
      clear hno hge
      go_wp2
      go_ret
      exact ⟨ret_val (by rw [← hfin.out]; rfl), B3.out⟩
  · cases h
end Go.Proofs.YtnmdcbneoipllaaDoor
