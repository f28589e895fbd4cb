/- Walks: addrs.count at base 10, 8, 16. Printed by wip/gen_ad11.py. -/
import Derived.Test.YtiookngmgednjaaDoorPuQ
import Derived.Test.YtiookngmgednjaaDoorAd10
import Derived.Shelf.Strings.SlTrimAscii
namespace Go.Proofs.YtiookngmgednjaaDoor
open Go.RowKit Go.Lib Go.Proofs.Foot

/-- The library's two errors lie there. -/
def GoodE (w : World) : Prop := (∃ ev, w.cell? ⟨6, 0, none⟩ = some ev ∧ (ev = .nilIface ∨ ∃ te pe, ev = .iface te pe)) ∧ ∃ ev, w.cell? ⟨7, 0, none⟩ = some ev ∧ (ev = .nilIface ∨ ∃ te pe, ev = .iface te pe)
theorem GoodE.below {w w' : World} (h : GoodE w) (hb : Below w.heap.size w w') : GoodE w' := by
  obtain ⟨⟨e1, c1, h1⟩, e2, c2, h2⟩ := h
  exact ⟨⟨e1, (hb.cell (Lib.lt_of_cell c1)).trans c1, h1⟩, e2, (hb.cell (Lib.lt_of_cell c2)).trans c2, h2⟩
theorem trimL_mem {p : UInt8 → Bool} {l : List UInt8} {c : UInt8} (h : c ∈ l.dropWhile p) : c ∈ l := List.dropWhile_sublist p |>.subset h
theorem all_in {p : UInt8 → Bool} {cs l : List UInt8} (he : ∀ c, cs.contains c = p c) (hd : ∀ c ∈ l, p c = true) : Lib.trimS l cs = [] := by
  unfold Lib.trimS Lib.trimLeftS Lib.trimRightS
  rw [dropWhile_none (l := l.reverse) (fun c hc => by rw [he]; exact hd c (by simpa using hc))]; rfl
theorem some_out {p : UInt8 → Bool} {cs l : List UInt8} {c : UInt8} (he : ∀ c, cs.contains c = p c) (hc : c ∈ l) (hp : p c = false) : Lib.trimS l cs ≠ [] := by
  unfold Lib.trimS Lib.trimLeftS Lib.trimRightS
  have hp' : cs.contains c = false := by rw [he]; exact hp
  have h1 : c ∈ l.reverse.dropWhile (cs.contains ·) := mem_dropWhile hp' (by simpa using hc)
  have h2 : c ∈ ((l.reverse.dropWhile (cs.contains ·)).reverse).dropWhile (cs.contains ·) := mem_dropWhile hp' (by simpa using h1)
  exact List.ne_nil_of_mem h2
theorem empty_not {T : ByteArray} (h : T.data.toList ≠ []) : T.toList.isEmpty = false := by
  rw [← decide_eq_emptyBytes]
  exact decide_eq_false (fun e => h (by rw [e]; rfl))
theorem ok10_eq (c : UInt8) : okB 10 c = digB c := by
  have := all_u8 (fun c => okB 10 c == digB c) (by decide +kernel) c
  simpa using this
theorem puF10 (l : List UInt8) (hd : ∀ c ∈ l, digB c = true) : ∀ acc, puF 18446744073709551616 10 acc l = Lib.parseUintM 18446744073709551615 acc l := by
  induction l with
  | nil => intro acc; rfl
  | cons c l ih =>
    intro acc
    have hc := (digB_iff _).1 (hd c (by simp))
    have hx : (hexI c).toNat = c.toNat - 48 := by rw [hexI_dig4 hc]; omega
    rw [puF, Lib.parseUintM, if_pos hc, hx]
    by_cases h : 18446744073709551616 ≤ acc * 10 + (c.toNat - 48)
    · rw [if_pos h]
      by_cases h2 : 1844674407370955162 ≤ acc
      · rw [if_pos h2]
      · rw [if_neg h2, if_pos (by omega)]
    · rw [if_neg h, if_neg (by omega), if_neg (by omega)]
      exact ih (fun d hm => hd d (List.mem_cons_of_mem _ hm)) _
theorem parseB64 {l : List UInt8} (h : l ≠ []) : Lib.parseUintB 64 l = Lib.parseUintM 18446744073709551615 0 l := by
  unfold Lib.parseUintB
  rw [if_neg h]
def setL10 : List UInt8 := [48, 49, 50, 51, 52, 53, 54, 55, 56, 57]
theorem setL10_eq (c : UInt8) : setL10.contains c = okB 10 c := by
  have := all_u8 (fun c => setL10.contains c == okB 10 c) (by decide +kernel) c
  simpa using this
theorem trim10 (s : ByteArray) (hs : s.size ≤ 16777216) (w : World) (T : ByteArray) (hT : Lib.trimS s.data.toList setL10 = T.data.toList) :
    Calls Tryd.prog 41 #[.string s, .string ⟨#[48, 49, 50, 51, 52, 53, 54, 55, 56, 57]⟩] w fun e w' => e = .returned (.string T) ∧ Below w.heap.size w w' := by
  have h := Any.strings_Trim_laid Tryd.lays160 (by kernel_rfl) s ⟨#[48, 49, 50, 51, 52, 53, 54, 55, 56, 57]⟩ w (by omega) (by decide) (by
    intro j b hb
    have hm : b ∈ setL10 := List.mem_of_getElem? hb
    simp only [setL10, List.mem_cons, List.mem_nil_iff, or_false] at hm
    rcases hm with rfl | rfl | rfl | rfl | rfl | rfl | rfl | rfl | rfl | rfl <;> decide)
  have e : Lib.trimS s.data.toList (⟨#[48, 49, 50, 51, 52, 53, 54, 55, 56, 57]⟩ : ByteArray).data.toList = T.data.toList := hT
  rw [e] at h
  exact h
/-- ParseUint of digits alone: the number, or an error and the number is great. -/
theorem pu10 (t : ByteArray) (hne : t.size ≠ 0) (hz : t.size ≤ 16777216) (hok : ∀ c ∈ t.data.toList, okB 10 c = true) (n : Nat) (hn : valB 10 0 t.data.toList = n) :
    (n < 18446744073709551616 ∧ ∀ w, Calls Tryd.prog 67 #[.string t, .int .i64 10, .int .i64 64] w fun e w' => e = .returned (.tuple #[.int .u64 n, .nilIface]) ∧ Below w.heap.size w w') ∨
    (4294967296 ≤ n ∧ ∀ w, GoodE w → Calls Tryd.prog 67 #[.string t, .int .i64 10, .int .i64 64] w fun e w' => ∃ N, e = .returned (.tuple #[.int .u64 18446744073709551615, .iface 121 (.pointer (some ⟨N, 0, none⟩))]) ∧ Below w.heap.size w w') := by
  have hd : ∀ c ∈ t.data.toList, digB c = true := fun c hc => by rw [← ok10_eq]; exact hok c hc
  have hq := puF10 t.data.toList hd 0
  rw [puF_eq (by decide) _ 0 (by decide), hn] at hq
  have hne' : t.data.toList ≠ [] := fun e => hne (by rw [Lib.size_eq, e]; rfl)
  have hm : Lib.parseUintB 64 t.data.toList = if n < 18446744073709551616 then .ok n else .range := by
    rw [parseB64 hne', ← hq]
  by_cases h : n < 18446744073709551616
  · rw [if_pos h] at hm
    exact .inl ⟨h, fun w => (Tryd.strconv_ParseUint_10_at64_ok t (by omega) n hm w).mono fun e w' ⟨he, hw⟩ => ⟨he, by
      rcases hw with rfl | rfl
      · exact Below.refl _ _
      · exact Lib.bytesWorld_below _ _ t⟩⟩
  · rw [if_neg h] at hm
    refine .inr ⟨by omega, fun w G => ?_⟩
    obtain ⟨-, ev, hv, hev⟩ := G
    exact (Tryd.strconv_ParseUint_10_at64_range t (by omega) hm ev w hv hev).mono fun e w' ⟨N, he, _, _, hb⟩ => ⟨N, he, hb⟩
set_option maxHeartbeats 1000000 in
set_option maxRecDepth 100000 in
theorem countA10 (s : ByteArray) (hs : s.size ≤ 16777216) (w : World) (G : GoodE w) :
    Calls Tryd.prog 42 #[.string s, .int .i64 10] w fun e w' => e = .returned (optV (cntB 10 s.data.toList)) ∧ Below w.heap.size w w' := by
  have slT : ∀ V, (Instr.slice 9 (.string ⟨#[48, 49, 50, 51, 52, 53, 54, 55, 56, 57, 97, 98, 99, 100, 101, 102, 65, 66, 67, 68, 69, 70]⟩) none (some (.int .i64 10)) none).run Tryd.prog V = .ok (.string ⟨#[48, 49, 50, 51, 52, 53, 54, 55, 56, 57]⟩) V := fun V => by kernel_rfl
  rcases all_or (okB 10) s.data.toList with hd | hd
  · have HT := hid (trim10 s hs · ⟨#[]⟩ (all_in setL10_eq hd))
    obtain ⟨u, hu⟩ : ∃ u : ByteArray, u = ⟨(Lib.trimLeftB s.data.toList 48).toArray⟩ := ⟨_, rfl⟩
    have HL := hid (fun w => Tryd.strings_TrimLeft_one s 48 (by decide) w)
    rw [← hu] at HL
    have hul : u.data.toList = s.data.toList.dropWhile (· == 48) := by rw [hu]; rfl
    have hv : valB 10 0 u.data.toList = valB 10 0 s.data.toList := by rw [hul, valB_noughts]
    have hyes := cntB_yes hd
    rw [← hv] at hyes
    rw [hyes]
    have hok : ∀ c ∈ u.data.toList, okB 10 c = true := fun c hc => hd c (trimL_mem (by rw [← hul]; exact hc))
    have huz : u.size ≤ 16777216 := by
      have := (List.dropWhile_sublist (· == 48) (l := s.data.toList)).length_le
      rw [Lib.size_eq, hul]; rw [← Lib.size_eq] at this; omega
    by_cases hu0 : u.size = 0
    · have hue : u = ⟨#[]⟩ := by
        have e : u.data.toList = [] := List.eq_nil_of_length_eq_zero (by rw [← Lib.size_eq]; exact hu0)
        cases u; simp at e; rw [e]
      rw [hue] at HL ⊢
      clear hyes hv hul hu hd hok hu0 huz hue G
      go_enter Tryd.func42, Tryd.ntmps42
      go_wp2_with (first
        | (go_at_call 41; refine (HT.out _).mono ?_; rintro e w1 ⟨rfl, hb1⟩)
        | (go_at_call 66; refine (HL.out _).mono ?_; rintro e w2 ⟨rfl, rfl⟩))
      go_ret2
      exact ⟨rfl, hb1⟩
    · have hemp := empty_not (T := u) (fun e => hu0 (by rw [Lib.size_eq, e]; rfl))
      obtain ⟨n, hn⟩ : ∃ n, valB 10 0 u.data.toList = n := ⟨_, rfl⟩
      rw [hn]
      have HG := hid G
      rcases pu10 u hu0 huz hok n hn with ⟨hlt, hp⟩ | ⟨hge, hp⟩
      · have HP := hid hp
        by_cases hg : n ≤ 4294967296
        · have hgt : ¬ ((n : Int) > 4294967296) := by omega
          have hmin : min 4294967296 n = n := by omega
          rw [hmin]
          have n0 : 0 ≤ (n : Int) := by omega
          have n1 : (n : Int) ≤ 9223372036854775807 := by omega
          clear hyes hv hul hu hd hok hu0 huz hn hp hlt hg hmin
          go_enter Tryd.func42, Tryd.ntmps42
          go_wp2_with (first
            | (go_at_call 41; refine (HT.out _).mono ?_; rintro e w1 ⟨rfl, hb1⟩)
            | (go_at_call 66; refine (HL.out _).mono ?_; rintro e w2 ⟨rfl, rfl⟩)
            | (go_at_call 67; refine (HP.out _).mono ?_; rintro e w3 ⟨rfl, hb3⟩))
          go_ret2
          exact ⟨rfl, below_chain hb1 hb3⟩
        · have hgt : (n : Int) > 4294967296 := by omega
          have hmin : min 4294967296 n = 4294967296 := by omega
          rw [hmin]
          clear hyes hv hul hu hd hok hu0 huz hn hp hlt hg hmin
          go_enter Tryd.func42, Tryd.ntmps42
          go_wp2_with (first
            | (go_at_call 41; refine (HT.out _).mono ?_; rintro e w1 ⟨rfl, hb1⟩)
            | (go_at_call 66; refine (HL.out _).mono ?_; rintro e w2 ⟨rfl, rfl⟩)
            | (go_at_call 67; refine (HP.out _).mono ?_; rintro e w3 ⟨rfl, hb3⟩))
          go_ret2
          exact ⟨rfl, below_chain hb1 hb3⟩
      · have HP := hid hp
        have hmin : min 4294967296 n = 4294967296 := by omega
        rw [hmin]
        clear hyes hv hul hu hd hok hu0 huz hn hp hge hmin
        go_enter Tryd.func42, Tryd.ntmps42
        go_wp2_with (first
          | (go_at_call 41; refine (HT.out _).mono ?_; rintro e w1 ⟨rfl, hb1⟩)
          | (go_at_call 66; refine (HL.out _).mono ?_; rintro e w2 ⟨rfl, rfl⟩)
          | (go_at_call 67; refine (HP.out _ (HG.out.below hb1)).mono ?_; rintro e w3 ⟨N, rfl, hb3⟩))
        go_ret2
        exact ⟨rfl, below_chain hb1 hb3⟩
  · obtain ⟨c, hc, hno⟩ := hd
    rw [cntB_no hc hno]
    obtain ⟨T, hT⟩ : ∃ T : ByteArray, Lib.trimS s.data.toList setL10 = T.data.toList := ⟨⟨(Lib.trimS s.data.toList setL10).toArray⟩, by simp⟩
    have HT := hid (trim10 s hs · T hT)
    have hemp := empty_not (T := T) (by rw [← hT]; exact some_out setL10_eq hc hno)
    clear hc hno hT G
    go_enter Tryd.func42, Tryd.ntmps42
    go_wp2_with (go_at_call 41; refine (HT.out _).mono ?_; rintro e w1 ⟨rfl, hb1⟩)
    go_ret2
    exact ⟨rfl, hb1⟩
def setL8 : List UInt8 := [48, 49, 50, 51, 52, 53, 54, 55]
theorem setL8_eq (c : UInt8) : setL8.contains c = okB 8 c := by
  have := all_u8 (fun c => setL8.contains c == okB 8 c) (by decide +kernel) c
  simpa using this
theorem trim8 (s : ByteArray) (hs : s.size ≤ 16777216) (w : World) (T : ByteArray) (hT : Lib.trimS s.data.toList setL8 = T.data.toList) :
    Calls Tryd.prog 41 #[.string s, .string ⟨#[48, 49, 50, 51, 52, 53, 54, 55]⟩] w fun e w' => e = .returned (.string T) ∧ Below w.heap.size w w' := by
  have h := Any.strings_Trim_laid Tryd.lays160 (by kernel_rfl) s ⟨#[48, 49, 50, 51, 52, 53, 54, 55]⟩ w (by omega) (by decide) (by
    intro j b hb
    have hm : b ∈ setL8 := List.mem_of_getElem? hb
    simp only [setL8, List.mem_cons, List.mem_nil_iff, or_false] at hm
    rcases hm with rfl | rfl | rfl | rfl | rfl | rfl | rfl | rfl <;> decide)
  have e : Lib.trimS s.data.toList (⟨#[48, 49, 50, 51, 52, 53, 54, 55]⟩ : ByteArray).data.toList = T.data.toList := hT
  rw [e] at h
  exact h
/-- ParseUint of digits alone: the number, or an error and the number is great. -/
theorem pu8 (t : ByteArray) (hne : t.size ≠ 0) (hz : t.size ≤ 16777216) (hok : ∀ c ∈ t.data.toList, okB 8 c = true) (n : Nat) (hn : valB 8 0 t.data.toList = n) :
    (n < 18446744073709551616 ∧ ∀ w, Calls Tryd.prog 67 #[.string t, .int .i64 8, .int .i64 64] w fun e w' => e = .returned (.tuple #[.int .u64 n, .nilIface]) ∧ Below w.heap.size w w') ∨
    (4294967296 ≤ n ∧ ∀ w, GoodE w → Calls Tryd.prog 67 #[.string t, .int .i64 8, .int .i64 64] w fun e w' => ∃ N, e = .returned (.tuple #[.int .u64 18446744073709551615, .iface 121 (.pointer (some ⟨N, 0, none⟩))]) ∧ Below w.heap.size w w') := by
  by_cases h : n < 18446744073709551616
  · exact .inl ⟨h, fun w => parse8_ok t hne (by omega) hok n hn h w⟩
  · refine .inr ⟨by omega, fun w G => ?_⟩
    obtain ⟨-, ev, hv, hev⟩ := G
    exact parse8_great t hne (by omega) hok (by rw [hn]; exact h) w ev hv hev
set_option maxHeartbeats 1000000 in
set_option maxRecDepth 100000 in
theorem countA8 (s : ByteArray) (hs : s.size ≤ 16777216) (w : World) (G : GoodE w) :
    Calls Tryd.prog 42 #[.string s, .int .i64 8] w fun e w' => e = .returned (optV (cntB 8 s.data.toList)) ∧ Below w.heap.size w w' := by
  have slT : ∀ V, (Instr.slice 9 (.string ⟨#[48, 49, 50, 51, 52, 53, 54, 55, 56, 57, 97, 98, 99, 100, 101, 102, 65, 66, 67, 68, 69, 70]⟩) none (some (.int .i64 8)) none).run Tryd.prog V = .ok (.string ⟨#[48, 49, 50, 51, 52, 53, 54, 55]⟩) V := fun V => by kernel_rfl
  rcases all_or (okB 8) s.data.toList with hd | hd
  · have HT := hid (trim8 s hs · ⟨#[]⟩ (all_in setL8_eq hd))
    obtain ⟨u, hu⟩ : ∃ u : ByteArray, u = ⟨(Lib.trimLeftB s.data.toList 48).toArray⟩ := ⟨_, rfl⟩
    have HL := hid (fun w => Tryd.strings_TrimLeft_one s 48 (by decide) w)
    rw [← hu] at HL
    have hul : u.data.toList = s.data.toList.dropWhile (· == 48) := by rw [hu]; rfl
    have hv : valB 8 0 u.data.toList = valB 8 0 s.data.toList := by rw [hul, valB_noughts]
    have hyes := cntB_yes hd
    rw [← hv] at hyes
    rw [hyes]
    have hok : ∀ c ∈ u.data.toList, okB 8 c = true := fun c hc => hd c (trimL_mem (by rw [← hul]; exact hc))
    have huz : u.size ≤ 16777216 := by
      have := (List.dropWhile_sublist (· == 48) (l := s.data.toList)).length_le
      rw [Lib.size_eq, hul]; rw [← Lib.size_eq] at this; omega
    by_cases hu0 : u.size = 0
    · have hue : u = ⟨#[]⟩ := by
        have e : u.data.toList = [] := List.eq_nil_of_length_eq_zero (by rw [← Lib.size_eq]; exact hu0)
        cases u; simp at e; rw [e]
      rw [hue] at HL ⊢
      clear hyes hv hul hu hd hok hu0 huz hue G
      go_enter Tryd.func42, Tryd.ntmps42
      go_wp2_with (first
        | (go_at_call 41; refine (HT.out _).mono ?_; rintro e w1 ⟨rfl, hb1⟩)
        | (go_at_call 66; refine (HL.out _).mono ?_; rintro e w2 ⟨rfl, rfl⟩))
      go_ret2
      exact ⟨rfl, hb1⟩
    · have hemp := empty_not (T := u) (fun e => hu0 (by rw [Lib.size_eq, e]; rfl))
      obtain ⟨n, hn⟩ : ∃ n, valB 8 0 u.data.toList = n := ⟨_, rfl⟩
      rw [hn]
      have HG := hid G
      rcases pu8 u hu0 huz hok n hn with ⟨hlt, hp⟩ | ⟨hge, hp⟩
      · have HP := hid hp
        by_cases hg : n ≤ 4294967296
        · have hgt : ¬ ((n : Int) > 4294967296) := by omega
          have hmin : min 4294967296 n = n := by omega
          rw [hmin]
          have n0 : 0 ≤ (n : Int) := by omega
          have n1 : (n : Int) ≤ 9223372036854775807 := by omega
          clear hyes hv hul hu hd hok hu0 huz hn hp hlt hg hmin
          go_enter Tryd.func42, Tryd.ntmps42
          go_wp2_with (first
            | (go_at_call 41; refine (HT.out _).mono ?_; rintro e w1 ⟨rfl, hb1⟩)
            | (go_at_call 66; refine (HL.out _).mono ?_; rintro e w2 ⟨rfl, rfl⟩)
            | (go_at_call 67; refine (HP.out _).mono ?_; rintro e w3 ⟨rfl, hb3⟩))
          go_ret2
          exact ⟨rfl, below_chain hb1 hb3⟩
        · have hgt : (n : Int) > 4294967296 := by omega
          have hmin : min 4294967296 n = 4294967296 := by omega
          rw [hmin]
          clear hyes hv hul hu hd hok hu0 huz hn hp hlt hg hmin
          go_enter Tryd.func42, Tryd.ntmps42
          go_wp2_with (first
            | (go_at_call 41; refine (HT.out _).mono ?_; rintro e w1 ⟨rfl, hb1⟩)
            | (go_at_call 66; refine (HL.out _).mono ?_; rintro e w2 ⟨rfl, rfl⟩)
            | (go_at_call 67; refine (HP.out _).mono ?_; rintro e w3 ⟨rfl, hb3⟩))
          go_ret2
          exact ⟨rfl, below_chain hb1 hb3⟩
      · have HP := hid hp
        have hmin : min 4294967296 n = 4294967296 := by omega
        rw [hmin]
        clear hyes hv hul hu hd hok hu0 huz hn hp hge hmin
        go_enter Tryd.func42, Tryd.ntmps42
        go_wp2_with (first
          | (go_at_call 41; refine (HT.out _).mono ?_; rintro e w1 ⟨rfl, hb1⟩)
          | (go_at_call 66; refine (HL.out _).mono ?_; rintro e w2 ⟨rfl, rfl⟩)
          | (go_at_call 67; refine (HP.out _ (HG.out.below hb1)).mono ?_; rintro e w3 ⟨N, rfl, hb3⟩))
        go_ret2
        exact ⟨rfl, below_chain hb1 hb3⟩
  · obtain ⟨c, hc, hno⟩ := hd
    rw [cntB_no hc hno]
    obtain ⟨T, hT⟩ : ∃ T : ByteArray, Lib.trimS s.data.toList setL8 = T.data.toList := ⟨⟨(Lib.trimS s.data.toList setL8).toArray⟩, by simp⟩
    have HT := hid (trim8 s hs · T hT)
    have hemp := empty_not (T := T) (by rw [← hT]; exact some_out setL8_eq hc hno)
    clear hc hno hT G
    go_enter Tryd.func42, Tryd.ntmps42
    go_wp2_with (go_at_call 41; refine (HT.out _).mono ?_; rintro e w1 ⟨rfl, hb1⟩)
    go_ret2
    exact ⟨rfl, hb1⟩
def setL16 : List UInt8 := [48, 49, 50, 51, 52, 53, 54, 55, 56, 57, 97, 98, 99, 100, 101, 102, 65, 66, 67, 68, 69, 70]
theorem setL16_eq (c : UInt8) : setL16.contains c = okB 16 c := by
  have := all_u8 (fun c => setL16.contains c == okB 16 c) (by decide +kernel) c
  simpa using this
theorem trim16 (s : ByteArray) (hs : s.size ≤ 16777216) (w : World) (T : ByteArray) (hT : Lib.trimS s.data.toList setL16 = T.data.toList) :
    Calls Tryd.prog 41 #[.string s, .string ⟨#[48, 49, 50, 51, 52, 53, 54, 55, 56, 57, 97, 98, 99, 100, 101, 102, 65, 66, 67, 68, 69, 70]⟩] w fun e w' => e = .returned (.string T) ∧ Below w.heap.size w w' := by
  have h := Any.strings_Trim_laid Tryd.lays160 (by kernel_rfl) s ⟨#[48, 49, 50, 51, 52, 53, 54, 55, 56, 57, 97, 98, 99, 100, 101, 102, 65, 66, 67, 68, 69, 70]⟩ w (by omega) (by decide) (by
    intro j b hb
    have hm : b ∈ setL16 := List.mem_of_getElem? hb
    simp only [setL16, List.mem_cons, List.mem_nil_iff, or_false] at hm
    rcases hm with rfl | rfl | rfl | rfl | rfl | rfl | rfl | rfl | rfl | rfl | rfl | rfl | rfl | rfl | rfl | rfl | rfl | rfl | rfl | rfl | rfl | rfl <;> decide)
  have e : Lib.trimS s.data.toList (⟨#[48, 49, 50, 51, 52, 53, 54, 55, 56, 57, 97, 98, 99, 100, 101, 102, 65, 66, 67, 68, 69, 70]⟩ : ByteArray).data.toList = T.data.toList := hT
  rw [e] at h
  exact h
/-- ParseUint of digits alone: the number, or an error and the number is great. -/
theorem pu16 (t : ByteArray) (hne : t.size ≠ 0) (hz : t.size ≤ 16777216) (hok : ∀ c ∈ t.data.toList, okB 16 c = true) (n : Nat) (hn : valB 16 0 t.data.toList = n) :
    (n < 18446744073709551616 ∧ ∀ w, Calls Tryd.prog 67 #[.string t, .int .i64 16, .int .i64 64] w fun e w' => e = .returned (.tuple #[.int .u64 n, .nilIface]) ∧ Below w.heap.size w w') ∨
    (4294967296 ≤ n ∧ ∀ w, GoodE w → Calls Tryd.prog 67 #[.string t, .int .i64 16, .int .i64 64] w fun e w' => ∃ N, e = .returned (.tuple #[.int .u64 18446744073709551615, .iface 121 (.pointer (some ⟨N, 0, none⟩))]) ∧ Below w.heap.size w w') := by
  by_cases h : n < 18446744073709551616
  · exact .inl ⟨h, fun w => parse16_ok t hne (by omega) hok n hn h w⟩
  · refine .inr ⟨by omega, fun w G => ?_⟩
    obtain ⟨-, ev, hv, hev⟩ := G
    exact parse16_great t hne (by omega) hok (by rw [hn]; exact h) w ev hv hev
set_option maxHeartbeats 1000000 in
set_option maxRecDepth 100000 in
theorem countA16 (s : ByteArray) (hs : s.size ≤ 16777216) (w : World) (G : GoodE w) :
    Calls Tryd.prog 42 #[.string s, .int .i64 16] w fun e w' => e = .returned (optV (cntB 16 s.data.toList)) ∧ Below w.heap.size w w' := by
  have slT : ∀ V, (Instr.slice 9 (.string ⟨#[48, 49, 50, 51, 52, 53, 54, 55, 56, 57, 97, 98, 99, 100, 101, 102, 65, 66, 67, 68, 69, 70]⟩) none (some (.int .i64 22)) none).run Tryd.prog V = .ok (.string ⟨#[48, 49, 50, 51, 52, 53, 54, 55, 56, 57, 97, 98, 99, 100, 101, 102, 65, 66, 67, 68, 69, 70]⟩) V := fun V => by kernel_rfl
  rcases all_or (okB 16) s.data.toList with hd | hd
  · have HT := hid (trim16 s hs · ⟨#[]⟩ (all_in setL16_eq hd))
    obtain ⟨u, hu⟩ : ∃ u : ByteArray, u = ⟨(Lib.trimLeftB s.data.toList 48).toArray⟩ := ⟨_, rfl⟩
    have HL := hid (fun w => Tryd.strings_TrimLeft_one s 48 (by decide) w)
    rw [← hu] at HL
    have hul : u.data.toList = s.data.toList.dropWhile (· == 48) := by rw [hu]; rfl
    have hv : valB 16 0 u.data.toList = valB 16 0 s.data.toList := by rw [hul, valB_noughts]
    have hyes := cntB_yes hd
    rw [← hv] at hyes
    rw [hyes]
    have hok : ∀ c ∈ u.data.toList, okB 16 c = true := fun c hc => hd c (trimL_mem (by rw [← hul]; exact hc))
    have huz : u.size ≤ 16777216 := by
      have := (List.dropWhile_sublist (· == 48) (l := s.data.toList)).length_le
      rw [Lib.size_eq, hul]; rw [← Lib.size_eq] at this; omega
    by_cases hu0 : u.size = 0
    · have hue : u = ⟨#[]⟩ := by
        have e : u.data.toList = [] := List.eq_nil_of_length_eq_zero (by rw [← Lib.size_eq]; exact hu0)
        cases u; simp at e; rw [e]
      rw [hue] at HL ⊢
      clear hyes hv hul hu hd hok hu0 huz hue G
      go_enter Tryd.func42, Tryd.ntmps42
      go_wp2_with (first
        | (go_at_call 41; refine (HT.out _).mono ?_; rintro e w1 ⟨rfl, hb1⟩)
        | (go_at_call 66; refine (HL.out _).mono ?_; rintro e w2 ⟨rfl, rfl⟩))
      go_ret2
      exact ⟨rfl, hb1⟩
    · have hemp := empty_not (T := u) (fun e => hu0 (by rw [Lib.size_eq, e]; rfl))
      obtain ⟨n, hn⟩ : ∃ n, valB 16 0 u.data.toList = n := ⟨_, rfl⟩
      rw [hn]
      have HG := hid G
      rcases pu16 u hu0 huz hok n hn with ⟨hlt, hp⟩ | ⟨hge, hp⟩
      · have HP := hid hp
        by_cases hg : n ≤ 4294967296
        · have hgt : ¬ ((n : Int) > 4294967296) := by omega
          have hmin : min 4294967296 n = n := by omega
          rw [hmin]
          have n0 : 0 ≤ (n : Int) := by omega
          have n1 : (n : Int) ≤ 9223372036854775807 := by omega
          clear hyes hv hul hu hd hok hu0 huz hn hp hlt hg hmin
          go_enter Tryd.func42, Tryd.ntmps42
          go_wp2_with (first
            | (go_at_call 41; refine (HT.out _).mono ?_; rintro e w1 ⟨rfl, hb1⟩)
            | (go_at_call 66; refine (HL.out _).mono ?_; rintro e w2 ⟨rfl, rfl⟩)
            | (go_at_call 67; refine (HP.out _).mono ?_; rintro e w3 ⟨rfl, hb3⟩))
          go_ret2
          exact ⟨rfl, below_chain hb1 hb3⟩
        · have hgt : (n : Int) > 4294967296 := by omega
          have hmin : min 4294967296 n = 4294967296 := by omega
          rw [hmin]
          clear hyes hv hul hu hd hok hu0 huz hn hp hlt hg hmin
          go_enter Tryd.func42, Tryd.ntmps42
          go_wp2_with (first
            | (go_at_call 41; refine (HT.out _).mono ?_; rintro e w1 ⟨rfl, hb1⟩)
            | (go_at_call 66; refine (HL.out _).mono ?_; rintro e w2 ⟨rfl, rfl⟩)
            | (go_at_call 67; refine (HP.out _).mono ?_; rintro e w3 ⟨rfl, hb3⟩))
          go_ret2
          exact ⟨rfl, below_chain hb1 hb3⟩
      · have HP := hid hp
        have hmin : min 4294967296 n = 4294967296 := by omega
        rw [hmin]
        clear hyes hv hul hu hd hok hu0 huz hn hp hge hmin
        go_enter Tryd.func42, Tryd.ntmps42
        go_wp2_with (first
          | (go_at_call 41; refine (HT.out _).mono ?_; rintro e w1 ⟨rfl, hb1⟩)
          | (go_at_call 66; refine (HL.out _).mono ?_; rintro e w2 ⟨rfl, rfl⟩)
          | (go_at_call 67; refine (HP.out _ (HG.out.below hb1)).mono ?_; rintro e w3 ⟨N, rfl, hb3⟩))
        go_ret2
        exact ⟨rfl, below_chain hb1 hb3⟩
  · obtain ⟨c, hc, hno⟩ := hd
    rw [cntB_no hc hno]
    obtain ⟨T, hT⟩ : ∃ T : ByteArray, Lib.trimS s.data.toList setL16 = T.data.toList := ⟨⟨(Lib.trimS s.data.toList setL16).toArray⟩, by simp⟩
    have HT := hid (trim16 s hs · T hT)
    have hemp := empty_not (T := T) (by rw [← hT]; exact some_out setL16_eq hc hno)
    clear hc hno hT G
    go_enter Tryd.func42, Tryd.ntmps42
    go_wp2_with (go_at_call 41; refine (HT.out _).mono ?_; rintro e w1 ⟨rfl, hb1⟩)
    go_ret2
    exact ⟨rfl, hb1⟩
end Go.Proofs.YtiookngmgednjaaDoor
