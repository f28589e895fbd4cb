/- Walk of the law StsOnce: no directive may stand twice; none may be without max-age. -/
import Derived.Test.YtnmdcbneoipllaaDoorStsBack
namespace Go.Proofs.YtnmdcbneoipllaaDoor
open Go.RowKit Go.Lib Go.Proofs.Foot

theorem list_of (l : List UInt8) : ∃ T : ByteArray, T.data.toList = l := ⟨⟨l.toArray⟩, by simp⟩
theorem eqT_yes {T : ByteArray} {l : List UInt8} (h : T.data.toList = l) : (T.toList == l) = true := by rw [beq_iff_eq, Lib.toList_data]; exact h
theorem eqT_no {T : ByteArray} {l : List UInt8} (h : T.data.toList ≠ l) : (T.toList == l) = false := by rw [beq_eq_false_iff_ne, Lib.toList_data]; exact h
set_option maxHeartbeats 4000000 in
set_option maxRecDepth 100000 in
theorem stsOnce_far (n : Int) (hn : ¬ (0 ≤ n ∧ n ≤ 2147483647)) (b : Bool) (t : ByteArray) (w : World) (G : GoodP w) :
    Calls Tryd.prog 7 #[.agg #[.int .i64 n, .bool b], .string t] w fun e w' => e = .returned (.bool true) ∧ Below w.heap.size w w' := by
  have HT := hid (fun w => textA_no n b hn w)
  have HA := hid (fun w G => alive_any w G)
  have W0 := hid (WishAt.start w n b)
  have HG := hid G
  clear G hn
  go_enter Tryd.func7, Tryd.ntmps7
  go_wp2_with fail
  have c0 := W0.out.age
  have c1 := W0.out.subs
  generalize w.alloc _ = w1 at *
  refine (HT.out _).mono ?_
  rintro e w2 ⟨rfl, hb2⟩
  have W2 := hid (W0.out.go hb2)
  clear hb2 c0 c1
  go_wp2_with fail
  refine (HA.out _ (HG.out.below W2.out.below)).mono ?_
  rintro e w3 ⟨rfl, hb3⟩
  have W3 := hid (W2.out.go hb3)
  clear hb3
  go_wp2_with fail
  refine (HA.out _ (HG.out.below W3.out.below)).mono ?_
  rintro e w4 ⟨rfl, hb4⟩
  have W4 := hid (W3.out.go hb4)
  clear hb4
  go_wp2
  go_ret
  exact ⟨rfl, W4.out.below⟩
set_option maxHeartbeats 4000000 in
set_option maxRecDepth 100000 in
theorem stsOnce_long (n : Nat) (hn : n ≤ 2147483647) (b : Bool) (t : ByteArray) (ht : 1000 < t.size) (w : World) (G : GoodP w) :
    Calls Tryd.prog 7 #[.agg #[.int .i64 n, .bool b], .string t] w fun e w' => e = .returned (.bool true) ∧ Below w.heap.size w w' := by
  have HT := hid (fun w G => textA_yes n b hn w G)
  have HA := hid (fun w G => alive_any w G)
  have W0 := hid (WishAt.start w n b)
  have HG := hid G
  have htz : (t.size : Int) > 1000 := by omega
  clear G hn ht
  go_enter Tryd.func7, Tryd.ntmps7
  go_wp2_with fail
  have c0 := W0.out.age
  have c1 := W0.out.subs
  generalize w.alloc _ = w1 at *
  refine (HT.out _ (HG.out.below W0.out.below).good).mono ?_
  rintro e w2 ⟨rfl, hb2⟩
  have W2 := hid (W0.out.go hb2)
  clear hb2 c0 c1
  go_wp2_with fail
  refine (HA.out _ (HG.out.below W2.out.below)).mono ?_
  rintro e w3 ⟨rfl, hb3⟩
  have W3 := hid (W2.out.go hb3)
  clear hb3
  go_wp2_with fail
  refine (HA.out _ (HG.out.below W3.out.below)).mono ?_
  rintro e w4 ⟨rfl, hb4⟩
  have W4 := hid (W3.out.go hb4)
  clear hb4
  go_wp2
  go_ret
  exact ⟨rfl, W4.out.below⟩
set_option maxHeartbeats 4000000 in
set_option maxRecDepth 100000 in
theorem stsOnce_odd (n : Nat) (hn : n ≤ 2147483647) (b : Bool) (t : ByteArray) (ht : t.size ≤ 1000) (htk : token t.data.toList = false) (w : World) (G : GoodP w) :
    Calls Tryd.prog 7 #[.agg #[.int .i64 n, .bool b], .string t] w fun e w' => e = .returned (.bool true) ∧ Below w.heap.size w w' := by
  have HT := hid (fun w G => textA_yes n b hn w G)
  have HA := hid (fun w G => alive_any w G)
  have HK := hid (fun w => token_is t (by omega) false htk w)
  have W0 := hid (WishAt.start w n b)
  have HG := hid G
  have htz : ¬ (t.size : Int) > 1000 := by omega
  clear G hn ht htk
  go_enter Tryd.func7, Tryd.ntmps7
  go_wp2_with fail
  have c0 := W0.out.age
  have c1 := W0.out.subs
  generalize w.alloc _ = w1 at *
  refine (HT.out _ (HG.out.below W0.out.below).good).mono ?_
  rintro e w2 ⟨rfl, hb2⟩
  have W2 := hid (W0.out.go hb2)
  clear hb2 c0 c1
  go_wp2_with fail
  refine (HA.out _ (HG.out.below W2.out.below)).mono ?_
  rintro e w3 ⟨rfl, hb3⟩
  have W3 := hid (W2.out.go hb3)
  clear hb3
  go_wp2_with fail
  refine (HK.out _).mono ?_
  rintro e w5 ⟨rfl, hb5⟩
  have W5 := hid (W3.out.go hb5)
  clear hb5
  go_wp2_with fail
  refine (HA.out _ (HG.out.below W5.out.below)).mono ?_
  rintro e w4 ⟨rfl, hb4⟩
  have W4 := hid (W5.out.go hb4)
  clear hb4
  go_wp2
  go_ret
  exact ⟨rfl, W4.out.below⟩
set_option maxHeartbeats 8000000 in
set_option maxRecDepth 100000 in
/-- A name that is a token: the wish's text has it, or not. -/
theorem stsOnce_yes (n : Nat) (hn : n ≤ 2147483647) (b : Bool) (t : ByteArray) (ht : t.size ≤ 1000) (htk : token t.data.toList = true) (w : World) (G : GoodP w) :
    Calls Tryd.prog 7 #[.agg #[.int .i64 n, .bool b], .string t] w fun e w' => e = .returned (.bool true) ∧ Below w.heap.size w w' := by
  have HT := hid (fun w G => textA_yes n b hn w G)
  have HA := hid (fun w G => alive_any w G)
  have HK := hid (fun w => token_is t (by omega) true htk w)
  have W0 := hid (WishAt.start w n b)
  have HG := hid G
  have htz : ¬ (t.size : Int) > 1000 := by omega
  obtain ⟨L, hL⟩ := list_of (lower t.data.toList)
  have hLz : L.size = t.size := by rw [Lib.size_eq, hL, lower_length, ← Lib.size_eq]
  have HL := hid (fun w => lower_is t L (by omega) hL.symm w)
  have hwT := wishT_size n b hn
  obtain ⟨T, hT⟩ : ∃ T, T = wishT n b := ⟨_, rfl⟩
  rw [← hT] at hwT HT
  have hTl : T.data.toList = wishL n b := by rw [hT, wishT_l]
  obtain ⟨A1, hA1⟩ : ∃ r : ByteArray, r = T ++ ⟨#[59]⟩ := ⟨_, rfl⟩
  obtain ⟨A2, hA2⟩ : ∃ r : ByteArray, r = A1 ++ t := ⟨_, rfl⟩
  obtain ⟨A3, hA3⟩ : ∃ r : ByteArray, r = A2 ++ ⟨#[59]⟩ := ⟨_, rfl⟩
  obtain ⟨A4, hA4⟩ : ∃ r : ByteArray, r = A3 ++ L := ⟨_, rfl⟩
  have s1 : A1.size = T.size + 1 := by rw [hA1, cat_z]; rfl
  have s2 : A2.size = T.size + 1 + t.size := by rw [hA2, cat_z, s1]
  have s3 : A3.size = T.size + 1 + t.size + 1 := by rw [hA3, cat_z, s2]; rfl
  have s4 : A4.size = T.size + 1 + t.size + 1 + t.size := by rw [hA4, cat_z, s3, hLz]
  have l2 : A2.data.toList = wishL n b ++ 59 :: t.data.toList := by rw [hA2, cat_l, hA1, cat_l, hTl]; simp
  have p4 := hid (show parseS A4.data.toList = none by
    have e : A4.data.toList = wishL n b ++ 59 :: (t.data.toList ++ 59 :: lower t.data.toList) := by rw [hA4, cat_l, hA3, cat_l, l2, hL]; simp
    rw [e]; exact once_twice b hn htk)
  have a1 := add_is hA1 (by omega) (by decide)
  have a2 := add_is hA2 (by omega) (by omega)
  have a3 := add_is hA3 (by omega) (by decide)
  have a4 := add_is hA4 (by omega) (by omega)
  have z4 : A4.size ≤ 65536 := by omega
  have z2 : A2.size ≤ 65536 := by omega
  have HB4 := hid (fun w G => bad_yes A4 z4 trivial p4.out w G)
  have Hl2 := hid l2
  have HhL := hid hL
  have tL : L.size ≤ 1000 := by omega
  clear hT hTl hA1 hA2 hA3 hA4 s1 s2 s3 s4 l2 hL hLz ht hwT G p4 z4
  have hcase : (L.data.toList = maxAgeL) ∨ (L.data.toList ≠ maxAgeL ∧ L.data.toList = inclL ∧ b = true) ∨ (L.data.toList ≠ maxAgeL ∧ L.data.toList = inclL ∧ b = false) ∨ (L.data.toList ≠ maxAgeL ∧ L.data.toList ≠ inclL) := by
    by_cases h1 : L.data.toList = maxAgeL
    · exact .inl h1
    · by_cases h2 : L.data.toList = inclL
      · cases b
        · exact .inr (.inr (.inl ⟨h1, h2, rfl⟩))
        · exact .inr (.inl ⟨h1, h2, rfl⟩)
      · exact .inr (.inr (.inr ⟨h1, h2⟩))
  rcases hcase with h1 | ⟨h1, h2, rfl⟩ | h34
  · have q := hid (show parseS A2.data.toList = none by rw [Hl2.out]; exact once_again b hn htk (.inl (by rw [← HhL.out]; exact h1)))
    have HB2 := hid (fun w G => bad_yes A2 z2 trivial q.out w G)
    have e1 : (L.toList == [109, 97, 120, 45, 97, 103, 101]) = true := eqT_yes h1
    have e1' : L.toList = [109, 97, 120, 45, 97, 103, 101] := by rw [Lib.toList_data]; exact h1
    have E1 := hid e1'
    clear h1 q htk hn z2 e1'
    go_enter Tryd.func7, Tryd.ntmps7
    go_wp2_with fail
    have c0 := W0.out.age
    have c1 := W0.out.subs
    generalize w.alloc _ = w1 at *
    refine (HT.out _ (HG.out.below W0.out.below).good).mono ?_
    rintro e w2 ⟨rfl, hb2⟩
    have W2 := hid (W0.out.go hb2)
    clear hb2 c0 c1
    go_wp2_with fail
    refine (HA.out _ (HG.out.below W2.out.below)).mono ?_
    rintro e w3 ⟨rfl, hb3⟩
    have W3 := hid (W2.out.go hb3)
    clear hb3
    go_wp2_with fail
    refine (HK.out _).mono ?_
    rintro e w5 ⟨rfl, hb5⟩
    have W5 := hid (W3.out.go hb5)
    clear hb5
    go_wp2_with fail
    refine (HL.out _).mono ?_
    rintro e w6 ⟨rfl, hb6⟩
    have W6 := hid (W5.out.go hb6)
    clear hb6
    go_wp2_with fail
    refine (HB4.out _ (HG.out.below W6.out.below)).mono ?_
    rintro e w7 ⟨rfl, hb7⟩
    have W7 := hid (W6.out.go hb7)
    clear hb7
    go_wp2_with fail
    refine (HB2.out _ (HG.out.below W7.out.below)).mono ?_
    rintro e w8 ⟨rfl, hb8⟩
    have W8 := hid (W7.out.go hb8)
    clear hb8
    go_wp2
    go_ret
    exact ⟨rfl, W8.out.below⟩
  · have q := hid (show parseS A2.data.toList = none by rw [Hl2.out]; exact once_again true hn htk (.inr ⟨by rw [← HhL.out]; exact h2, rfl⟩))
    have HB2 := hid (fun w G => bad_yes A2 z2 trivial q.out w G)
    have e1 : (L.toList == [109, 97, 120, 45, 97, 103, 101]) = false := eqT_no h1
    have e2 : (L.toList == [105, 110, 99, 108, 117, 100, 101, 115, 117, 98, 100, 111, 109, 97, 105, 110, 115]) = true := eqT_yes h2
    clear h1 h2 q htk hn z2
    go_enter Tryd.func7, Tryd.ntmps7
    go_wp2_with fail
    have c0 := W0.out.age
    have c1 := W0.out.subs
    generalize w.alloc _ = w1 at *
    refine (HT.out _ (HG.out.below W0.out.below).good).mono ?_
    rintro e w2 ⟨rfl, hb2⟩
    have W2 := hid (W0.out.go hb2)
    clear hb2 c0 c1
    go_wp2_with fail
    refine (HA.out _ (HG.out.below W2.out.below)).mono ?_
    rintro e w3 ⟨rfl, hb3⟩
    have W3 := hid (W2.out.go hb3)
    clear hb3
    go_wp2_with fail
    refine (HK.out _).mono ?_
    rintro e w5 ⟨rfl, hb5⟩
    have W5 := hid (W3.out.go hb5)
    clear hb5
    go_wp2_with fail
    refine (HL.out _).mono ?_
    rintro e w6 ⟨rfl, hb6⟩
    have W6 := hid (W5.out.go hb6)
    clear hb6
    go_wp2_with fail
    refine (HB4.out _ (HG.out.below W6.out.below)).mono ?_
    rintro e w7 ⟨rfl, hb7⟩
    have W7 := hid (W6.out.go hb7)
    have c1 := W7.out.subs
    clear hb7
    go_wp2_with fail
    refine (HB2.out _ (HG.out.below W7.out.below)).mono ?_
    rintro e w8 ⟨rfl, hb8⟩
    have W8 := hid (W7.out.go hb8)
    clear hb8
    go_wp2
    go_ret
    exact ⟨rfl, W8.out.below⟩
  · have hno : L.data.toList ≠ maxAgeL ∧ ¬ (L.data.toList = inclL ∧ b = true) := by
      rcases h34 with ⟨a, c, d⟩ | ⟨a, c⟩
      · exact ⟨a, fun h => by rw [d] at h; cases h.2⟩
      · exact ⟨a, fun h => c h.1⟩
    obtain ⟨i, hi⟩ : ∃ i : Bool, i = decide (L.data.toList = inclL) := ⟨_, rfl⟩
    have q := hid (show parseS A2.data.toList = some (n, b || i) by
      rw [Hl2.out, hi, HhL.out]
      refine once_more b hn htk ?_
      rw [← HhL.out]
      rintro (h | h)
      · exact hno.1 h
      · exact hno.2 h)
    have HI := hid (fun w G => is_yes A2 z2 trivial n (b || i) q.out w G)
    have q1 := hid (once_alone htk (by rw [← HhL.out]; exact hno.1))
    have HB5 := hid (fun w G => bad_yes t (by omega) trivial q1.out w G)
    obtain ⟨C1, hC1⟩ : ∃ r : ByteArray, r = t ++ ⟨#[61, 49, 59]⟩ := ⟨_, rfl⟩
    obtain ⟨C2, hC2⟩ : ∃ r : ByteArray, r = C1 ++ L := ⟨_, rfl⟩
    obtain ⟨C3, hC3⟩ : ∃ r : ByteArray, r = C2 ++ ⟨#[61, 49]⟩ := ⟨_, rfl⟩
    have r1 : C1.size = t.size + 3 := by rw [hC1, cat_z]; rfl
    have r2 : C2.size = t.size + 3 + L.size := by rw [hC2, cat_z, r1]
    have r3 : C3.size = t.size + 3 + L.size + 2 := by rw [hC3, cat_z, r2]; rfl
    have q3 := hid (show parseS C3.data.toList = none by
      have e : C3.data.toList = t.data.toList ++ 61 :: 49 :: 59 :: (lower t.data.toList ++ [61, 49]) := by rw [hC3, cat_l, hC2, cat_l, hC1, cat_l, HhL.out]; simp
      rw [e]; exact once_one htk (by rw [← HhL.out]; exact hno.1))
    have d1 := add_is hC1 (by omega) (by decide)
    have d2 := add_is hC2 (by omega) (by omega)
    have d3 := add_is hC3 (by omega) (by decide)
    have HB6 := hid (fun w G => bad_yes C3 (by omega) trivial q3.out w G)
    have e1 : (L.toList == [109, 97, 120, 45, 97, 103, 101]) = false := eqT_no hno.1
    have e2 : (L.toList == [105, 110, 99, 108, 117, 100, 101, 115, 117, 98, 100, 111, 109, 97, 105, 110, 115]) = i := by
      rw [hi]
      by_cases h : L.data.toList = inclL
      · exact (eqT_yes h).trans (decide_eq_true h).symm
      · exact (eqT_no h).trans (decide_eq_false h).symm
    have hib : (i && b) = false := by
      rw [hi]
      by_cases h : L.data.toList = inclL
      · cases b
        · simp
        · exact absurd ⟨h, rfl⟩ hno.2
      · rw [decide_eq_false h]; rfl
    clear hno h34 hi q q1 q3 htk hn z2 hC1 hC2 hC3 r1 r2 r3
    have hbi : (b = false ∧ i = false) ∨ (b = true ∧ i = false) ∨ (b = false ∧ i = true) := by
      cases b <;> cases i <;> simp_all
    clear hib
    rcases hbi with ⟨rfl, rfl⟩ | ⟨rfl, rfl⟩ | ⟨rfl, rfl⟩
    all_goals
      go_enter Tryd.func7, Tryd.ntmps7
      go_wp2_with fail
      have c0 := W0.out.age
      have c1 := W0.out.subs
      generalize w.alloc _ = w1 at *
      refine (HT.out _ (HG.out.below W0.out.below).good).mono ?_
      rintro e w2 ⟨rfl, hb2⟩
      have W2 := hid (W0.out.go hb2)
      clear hb2 c0 c1
      go_wp2_with fail
      refine (HA.out _ (HG.out.below W2.out.below)).mono ?_
      rintro e w3 ⟨rfl, hb3⟩
      have W3 := hid (W2.out.go hb3)
      clear hb3
      go_wp2_with fail
      refine (HK.out _).mono ?_
      rintro e w5 ⟨rfl, hb5⟩
      have W5 := hid (W3.out.go hb5)
      clear hb5
      go_wp2_with fail
      refine (HL.out _).mono ?_
      rintro e w6 ⟨rfl, hb6⟩
      have W6 := hid (W5.out.go hb6)
      clear hb6
      go_wp2_with fail
      refine (HB4.out _ (HG.out.below W6.out.below)).mono ?_
      rintro e w7 ⟨rfl, hb7⟩
      have W7 := hid (W6.out.go hb7)
      have c0 := W7.out.age
      have c1 := W7.out.subs
      clear hb7
      go_wp2_with fail
      refine (HI.out _ (HG.out.below W7.out.below)).mono ?_
      rintro e w8 ⟨rfl, hb8⟩
      have W8 := hid (W7.out.go hb8)
      clear hb8 c0 c1
      go_wp2_with fail
      refine (HB5.out _ (HG.out.below W8.out.below)).mono ?_
      rintro e w9 ⟨rfl, hb9⟩
      have W9 := hid (W8.out.go hb9)
      clear hb9
      go_wp2_with fail
      refine (HB6.out _ (HG.out.below W9.out.below)).mono ?_
      rintro e w10 ⟨rfl, hb10⟩
      have W10 := hid (W9.out.go hb10)
      clear hb10
      go_wp2
      go_ret
      exact ⟨rfl, W10.out.below⟩
theorem stsOnce_walk (n : Int) (_wn : (Lit.int .i64 n).wf = true) (b : Bool) (t : ByteArray) (_ht : t.size ≤ maxLen) (_zt : t.size ≤ 140737488351232) (w : World) (hL : laidMetH Tryd.prog Rows.stsOnceRow.laid w) (hsh : w.ShapedOpen Tryd.prog) :
    Calls Tryd.prog 7 #[.agg #[.int .i64 n, .bool b], .string t] w fun e w' => e = .returned (.bool true) ∧ Below w.heap.size w w' := by
  have G := goodP_of hL (by kernel_rfl) (by kernel_rfl) (by kernel_rfl) hsh
  by_cases h : 0 ≤ n ∧ n ≤ 2147483647
  · obtain ⟨m, rfl⟩ := Int.eq_ofNat_of_zero_le h.1
    by_cases hz : t.size ≤ 1000
    · cases htk : token t.data.toList with
      | true => exact stsOnce_yes m (by omega) b t hz htk w G
      | false => exact stsOnce_odd m (by omega) b t hz htk w G
    · exact stsOnce_long m (by omega) b t (by omega) w G
  · exact stsOnce_far n h b t w G
end Go.Proofs.YtnmdcbneoipllaaDoor
