/- The reference's Parse, by the text; and the walk of the law DatesTexts. -/
import Derived.Test.YtnkfgedpdokcpaaDoorTx4
import Derived.Test.YtnkfgedpdokcpaaDoorGood7
import Derived.Test.YtnkfgedpdokcpaaDoorBeyond
namespace Go.Proofs.YtnkfgedpdokcpaaDoor
open Go.RowKit Go.Lib Go.Proofs.Foot

theorem week_form (w : Nat) (h : w < 7) : ∃ x y z, weekName w = [x, y, z] := by
  have : ∀ w < 7, ∃ x ∈ (weekName w)[0]?, ∃ y ∈ (weekName w)[1]?, ∃ z ∈ (weekName w)[2]?, weekName w = [x, y, z] := by decide +kernel
  obtain ⟨x, _, y, _, z, _, e⟩ := this w h
  exact ⟨x, y, z, e⟩
theorem mon_form (m : Nat) (h : m < 12) : ∃ x y z, monName m = [x, y, z] := by
  have : ∀ m < 12, ∃ x ∈ (monName m)[0]?, ∃ y ∈ (monName m)[1]?, ∃ z ∈ (monName m)[2]?, monName m = [x, y, z] := by decide +kernel
  obtain ⟨x, _, y, _, z, _, e⟩ := this m h
  exact ⟨x, y, z, e⟩
/-- What stands where in a date's text. -/
theorem text_fields {w k m y h i x : Nat} (hw : w < 7) (hm : m < 12) {s : ByteArray} (hs : s.data.toList = textOf w k m y h i x) :
    s.size = 29 ∧ (s.extract 12 14).data.toList = dd (y / 100) ∧ (s.extract 14 16).data.toList = dd (y % 100) ∧ (s.extract 8 11).data.toList = monName m ∧ (s.extract 5 7).data.toList = dd k ∧ (s.extract 17 19).data.toList = dd h ∧ (s.extract 20 22).data.toList = dd i ∧ (s.extract 23 25).data.toList = dd x := by
  obtain ⟨a, b, c, hW⟩ := week_form w hw
  obtain ⟨d, e, f, hM⟩ := mon_form m hm
  rw [hM]
  rw [Lib.size_eq]
  simp only [ext_list, hs, textOf, hms, hW, hM, dd]
  exact ⟨rfl, rfl, rfl, rfl, rfl, rfl, rfl, rfl⟩
theorem parseR_yes (s : ByteArray) (n : Nat) (h : IsText s.data.toList n) (w : World) :
    Calls Tryd.prog 16 #[.string s] w fun e w' => e = .returned (.tuple #[.int .i64 n, .bool true]) ∧ Below w.heap.size w w' := by
  have h' := h
  obtain ⟨hn, Y, M, K, W, D, hT⟩ := h
  have hsec := secS_day D
  have hdim := D.day.k2
  obtain ⟨-, -, y1, y2, m1, m2, k1, k2, w7, -⟩ := D
  obtain ⟨z, e1, e2, e3, e4, e5, e6, e7⟩ := text_fields (s := s) w7 (show M - 1 < 12 by omega) hT.symm
  refine parseR_any s z _ w (n : Int) true ?_ (.inr ⟨n, s, rfl, h', .inl ⟨rfl, rfl, rfl⟩⟩)
  unfold twoAt
  rw [e1, e2, e3, e4, e5, e6, e7, twoN_dd (by omega), twoN_dd (by omega), twoN_dd (by omega), twoN_dd (by omega), twoN_dd (by omega), twoN_dd (by omega), monL_name _ (by omega), show M - 1 + 1 = M from by omega,
    show 100 * ((Y / 100 : Nat) : Int) + ((Y % 100 : Nat) : Int) = (Y : Int) from by omega]
  exact secVal_is ⟨by omega, by omega, ⟨by omega, hdim⟩, by omega, by omega, by omega⟩ hsec
theorem parseR_no (s : ByteArray) (h : ∀ n, ¬ IsText s.data.toList n) (w : World) :
    Calls Tryd.prog 16 #[.string s] w fun e w' => e = .returned (.tuple #[.int .i64 0, .bool false]) ∧ Below w.heap.size w w' := by
  by_cases z : s.size = 29
  · obtain ⟨v, o, hv⟩ : ∃ v o, secVal (100 * (twoAt s 12 14 : Int) + (twoAt s 14 16 : Int)) (monL (s.extract 8 11).data.toList 12) (twoAt s 5 7) (twoAt s 17 19) (twoAt s 20 22) (twoAt s 23 25) = .tuple #[.int .i64 v, .bool o] := by
      unfold secVal; split
      · exact ⟨_, _, rfl⟩
      · exact ⟨_, _, rfl⟩
    refine parseR_any s z _ w v o hv ?_
    rcases text_cases v with hno | ⟨n, rfl, T, hT⟩
    · exact .inl ⟨hno, rfl⟩
    · exact .inr ⟨n, T, rfl, hT, .inr ⟨.inr (neq_of hT h), rfl⟩⟩
  · have e29 : ((s.size : Int) != 29) = true := by rw [bne_iff_ne]; omega
    clear h z
    go_enter Tryd.func16, Tryd.ntmps16
    go_wp2
    go_ret2
    exact ⟨rfl, Below.refl _ _⟩
/-- Both Parses answer alike. -/
theorem parse_both (s : ByteArray) (hs : s.size ≤ 16777216) : ∃ (v : Int) (o : Bool), (∀ w, Good w → Calls Tryd.prog 15 #[.string s] w fun e w' => e = .returned (.tuple #[.int .i64 v, .bool o]) ∧ Below w.heap.size w w') ∧
    ∀ w, Calls Tryd.prog 16 #[.string s] w fun e w' => e = .returned (.tuple #[.int .i64 v, .bool o]) ∧ Below w.heap.size w w' := by
  by_cases h : ∃ n, IsText s.data.toList n
  · obtain ⟨n, hn⟩ := h
    exact ⟨n, true, fun w G => parseA_yes s hs n hn w G, fun w => parseR_yes s n hn w⟩
  · have h' : ∀ n, ¬ IsText s.data.toList n := fun n hn => h ⟨n, hn⟩
    exact ⟨0, false, fun w G => parseA_no s hs h' w G, fun w => parseR_no s h' w⟩
/-- Both Texts answer alike. -/
theorem text_both (n : Int) : ∃ (T : ByteArray) (o : Bool), (∀ w, Good w → Calls Tryd.prog 13 #[.int .i64 n] w fun e w' => e = .returned (.tuple #[.string T, .bool o]) ∧ Below w.heap.size w w') ∧
    ∀ w, Calls Tryd.prog 14 #[.int .i64 n] w fun e w' => e = .returned (.tuple #[.string T, .bool o]) ∧ Below w.heap.size w w' := by
  rcases text_cases n with hno | ⟨n, rfl, T, hT⟩
  · refine ⟨⟨#[]⟩, false, fun w _ => (textA_no n hno w).mono ?_, fun w => (textR_no n hno w).mono ?_⟩
    · rintro e w' ⟨he, rfl⟩; exact ⟨he, Below.refl _ _⟩
    · rintro e w' ⟨he, rfl⟩; exact ⟨he, Below.refl _ _⟩
  · exact ⟨T, true, fun w G => textA_is n T hT w G, fun w => textR_is n T hT w⟩

set_option maxHeartbeats 1000000 in
set_option maxRecDepth 100000 in
theorem datesTexts_walk (n : Int) (_wn : (Lit.int .i64 n).wf = true) (s : ByteArray) (_hs : s.size ≤ maxLen) (z : s.size ≤ 140737488351232) (w : World) (hL : laidMetH Tryd.prog Rows.datesTextsRow.laid w) (hsh : w.ShapedOpen Tryd.prog) :
    Calls Tryd.prog 4 #[.int .i64 n, .string s] w fun e w' => e = .returned (.bool true) ∧ Below w.heap.size w w' := by
  have G := hid (good_of hL (by kernel_rfl) (by kernel_rfl) (by kernel_rfl) hsh)
  clear hL hsh _hs _wn
  cases hb : beyond [s.size] with
  | true =>
    go_enter Tryd.func4, Tryd.ntmps4
    go_wp2_with (go_at_call 10; refine (beyond1 _ _ z).mono ?_; rintro e w1 ⟨rfl, rfl⟩)
    go_ret
    exact ⟨rfl, (Below.refl _ _).alloc (Nat.le_refl _) _⟩
  | false =>
    have hle := beyond_le (zs := [s.size]) (by rw [hb]; decide)
    have hs : s.size ≤ 1048576 := by simpa using hle
    clear hle
    obtain ⟨T, o, hTA, hTR⟩ := text_both n
    obtain ⟨v, p, hPA, hPR⟩ := parse_both s (by omega)
    have HTA := hid hTA
    have HTR := hid hTR
    have HPA := hid hPA
    have HPR := hid hPR
    clear hTA hTR hPA hPR
    go_enter Tryd.func4, Tryd.ntmps4
    go_wp2_with fail
    refine (beyond1 _ _ z).mono ?_
    rintro e w1 ⟨rfl, rfl⟩
    have hb1 : Below w.heap.size w (w.alloc (.cells #[.int .i64 s.size] 3)) := (Below.refl _ _).alloc (Nat.le_refl _) _
    have B1 := hid hb1
    clear hb1
    generalize w.alloc _ = w1 at *
    go_wp2_with fail
    refine (HTA.out _ (G.out.below B1.out)).mono ?_
    rintro e w2 ⟨rfl, hb2⟩
    have B2 := hid (below_chain B1.out hb2)
    clear hb2
    go_wp2_with fail
    refine (HTR.out _).mono ?_
    rintro e w3 ⟨rfl, hb3⟩
    have B3 := hid (below_chain B2.out hb3)
    clear hb3
    go_wp2_with fail
    refine (HPA.out _ (G.out.below B3.out)).mono ?_
    rintro e w4 ⟨rfl, hb4⟩
    have B4 := hid (below_chain B3.out hb4)
    clear hb4
    go_wp2_with fail
    refine (HPR.out _).mono ?_
    rintro e w5 ⟨rfl, hb5⟩
    have B5 := hid (below_chain B4.out hb5)
    clear hb5
    go_wp2
    go_ret
    exact ⟨rfl, B5.out⟩
end Go.Proofs.YtnkfgedpdokcpaaDoor
