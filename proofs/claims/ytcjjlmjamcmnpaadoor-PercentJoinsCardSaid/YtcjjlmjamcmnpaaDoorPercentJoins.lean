/- Walk of the law PercentJoins: two texts, one behind the other (printed by gen_joins.py). -/
import Derived.Test.YtcjjlmjamcmnpaaDoorAlive
namespace Go.Proofs.YtcjjlmjamcmnpaaDoor
open Go.RowKit Go.Lib Go.Proofs.Foot

theorem cat_list (s t : ByteArray) : (s ++ t).data.toList = s.data.toList ++ t.data.toList := by simp [ByteArray.data_append]
theorem cat_size (s t : ByteArray) : (s ++ t).size = s.size + t.size := by rw [Lib.size_eq, cat_list, List.length_append, ← Lib.size_eq, ← Lib.size_eq]
theorem getD_at (s : ByteArray) (i : Nat) (h : i < s.size) : s.data.toList.getD i 0 = s[i]'h := by
  have hl : i < s.data.toList.length := by rw [← Lib.size_eq]; exact h
  rw [List.getD, List.getElem?_eq_getElem hl]; rfl
theorem openB_no (s : ByteArray) (hx : ∀ h : s.size - 1 < s.size, (s[s.size - 1]'h).toNat ≠ 37) (hy : 1 < s.size → ∀ h : s.size - 2 < s.size, (s[s.size - 2]'h).toNat ≠ 37) : openB s.data.toList = false := by
  unfold openB
  rw [← Lib.size_eq]
  have ne : ∀ c : UInt8, c.toNat ≠ 37 → (c == 37) = false := fun c h => by rw [beq_eq_false_iff_ne]; rintro rfl; exact h rfl
  by_cases h0 : 0 < s.size
  · rw [getD_at s _ (by omega), ne _ (hx (by omega))]
    by_cases h1 : 1 < s.size
    · rw [getD_at s _ (by omega), ne _ (hy h1 (by omega))]; simp
    · simp [h1]
  · have h1 : ¬ 1 < s.size := by omega
    simp [h0, h1]

set_option maxHeartbeats 1000000 in
set_option maxRecDepth 100000 in
theorem percentJoins_walk (s : ByteArray) (_hs : s.size ≤ maxLen) (z : s.size ≤ 140737488351232) (t : ByteArray) (_ht : t.size ≤ maxLen) (zt : t.size ≤ 140737488351232) (x : Int) (wx : (Lit.int .u8 x).wf = true) (w : World) (hL : laidMetH Tryd.prog Rows.percentJoinsRow.laid w) (hsh : w.ShapedOpen Tryd.prog) :
    Calls Tryd.prog 7 #[.string s, .string t, .int .u8 x] w fun e w' => e = .returned (.bool true) ∧ Below w.heap.size w w' := by
  obtain ⟨n, rfl⟩ := u8_of wx
  have G := hid (good_of hL (by kernel_rfl) hsh)
  clear hL hsh wx _hs _ht
  cases hb : beyond [s.size, t.size] with
  | true =>
    go_enter Tryd.func7, Tryd.ntmps7
    go_wp2_with fail
    refine (alive_any _ G.out).mono ?_
    rintro e w1 ⟨rfl, hb1⟩
    have B1 := hid hb1
    have G1 := hid (G.out.below hb1)
    clear hb1
    go_wp2_with (go_at_call 9; refine (beyond2 _ _ _ z zt).mono ?_; rintro e w2 ⟨rfl, rfl⟩)
    have hb2 : Below w1.heap.size w1 (w1.alloc (.cells #[.int .i64 s.size, .int .i64 t.size] 3)) := (Below.refl _ _).alloc (Nat.le_refl _) _
    refine (alive_any _ (G1.out.below hb2)).mono ?_
    rintro e w3 ⟨rfl, hb3⟩
    have B3 := hid (below_chain (below_chain B1.out hb2) hb3)
    clear hb2 hb3
    go_wp2_with fail
    go_ret
    exact ⟨rfl, B3.out⟩
  | false =>
    have hle := beyond_le (zs := [s.size, t.size]) (by rw [hb]; decide)
    have hst : s.size + t.size ≤ 1048576 := by simpa using hle
    have hcs : (s ++ t).size ≤ 16777216 := by rw [cat_size]; omega
    obtain ⟨ES, hES⟩ : ∃ T : ByteArray, encode n.toNat s.data.toList = T.data.toList := ⟨⟨(encode n.toNat s.data.toList).toArray⟩, by simp⟩
    obtain ⟨ET, hET⟩ : ∃ T : ByteArray, encode n.toNat t.data.toList = T.data.toList := ⟨⟨(encode n.toNat t.data.toList).toArray⟩, by simp⟩
    have hEC : encode n.toNat (s ++ t).data.toList = (ES ++ ET).data.toList := by rw [cat_list, cat_list, encode_append, hES, hET]
    obtain ⟨DS, hDS⟩ : ∃ T : ByteArray, dec s.data.toList = T.data.toList := ⟨⟨(dec s.data.toList).toArray⟩, by simp⟩
    obtain ⟨DT, hDT⟩ : ∃ T : ByteArray, dec t.data.toList = T.data.toList := ⟨⟨(dec t.data.toList).toArray⟩, by simp⟩
    have hDC : openB s.data.toList = false → dec (s ++ t).data.toList = (DS ++ DT).data.toList := fun h => by rw [cat_list, cat_list, dec_join _ _ h, hDS, hDT]
    have l1 := encode_length n.toNat s.data.toList
    have l2 := encode_length n.toNat t.data.toList
    have l3 := dec_length s.data.toList
    have l4 := dec_length t.data.toList
    rw [hES, ← Lib.size_eq, ← Lib.size_eq] at l1
    rw [hET, ← Lib.size_eq, ← Lib.size_eq] at l2
    rw [hDS, ← Lib.size_eq, ← Lib.size_eq] at l3
    rw [hDT, ← Lib.size_eq, ← Lib.size_eq] at l4
    have b1 : ES.size ≤ 3145728 := by omega
    have b2 : ET.size ≤ 3145728 := by omega
    have b3 : DS.size ≤ 1048576 := by omega
    have b4 : DT.size ≤ 1048576 := by omega
    have HES := hid hES
    have HET := hid hET
    have HEC := hid hEC
    have HDS := hid hDS
    have HDT := hid hDT
    have HDC := hid hDC
    have Hcs := hid hcs
    clear hle hES hET hEC hDS hDT hDC hcs l1 l2 l3 l4
    by_cases h0 : 0 < s.size
    · have i1 : s.size - 1 < s.size := by omega
      obtain ⟨x, hx⟩ : ∃ x, s[s.size - 1]'i1 = x := ⟨_, rfl⟩
      by_cases x37 : x.toNat = 37
      · have e1 : ((x.toNat : Int) == 37) = true := by rw [x37]; rfl
        clear x37
        go_enter Tryd.func7, Tryd.ntmps7
        go_wp2_with fail
        refine (alive_any _ G.out).mono ?_
        rintro e w1 ⟨rfl, hb1⟩
        have B1 := hid hb1
        have G1 := hid (G.out.below hb1)
        clear hb1
        go_wp2_with (go_at_call 9; refine (beyond2 _ _ _ z zt).mono ?_; rintro e w2 ⟨rfl, rfl⟩)
        have hb2 : Below w1.heap.size w1 (w1.alloc (.cells #[.int .i64 s.size, .int .i64 t.size] 3)) := (Below.refl _ _).alloc (Nat.le_refl _) _
        have B2 := hid (below_chain B1.out hb2)
        clear hb2
        generalize w1.alloc _ = w2 at *
        refine (encode_is _ (s ++ t) n.toNat n.toNat_lt Hcs.out (ES ++ ET) HEC.out).mono ?_
        rintro e w3 ⟨rfl, hb3⟩
        have B3 := hid (below_chain B2.out hb3)
        have G3 := hid (G.out.below B3.out)
        clear hb3
        go_wp2_with fail
        refine (encode_is _ s n.toNat n.toNat_lt (by omega) ES HES.out).mono ?_
        rintro e w4 ⟨rfl, hb4⟩
        have B4 := hid (below_chain B3.out hb4)
        have G4 := hid (G.out.below B4.out)
        clear hb4
        go_wp2_with fail
        refine (encode_is _ t n.toNat n.toNat_lt (by omega) ET HET.out).mono ?_
        rintro e w5 ⟨rfl, hb5⟩
        have B5 := hid (below_chain B4.out hb5)
        have G5 := hid (G.out.below B5.out)
        clear hb5
        go_wp2_with fail
        go_ret
        exact ⟨rfl, B5.out⟩
      · have e1 : ((x.toNat : Int) == 37) = false := by rw [beq_eq_false_iff_ne]; omega
        by_cases h1 : 1 < s.size
        · have i2 : s.size - 2 < s.size := by omega
          obtain ⟨y, hy⟩ : ∃ y, s[s.size - 2]'i2 = y := ⟨_, rfl⟩
          by_cases y37 : y.toNat = 37
          · have e2 : ((y.toNat : Int) == 37) = true := by rw [y37]; rfl
            clear x37 y37
            go_enter Tryd.func7, Tryd.ntmps7
            go_wp2_with fail
            refine (alive_any _ G.out).mono ?_
            rintro e w1 ⟨rfl, hb1⟩
            have B1 := hid hb1
            have G1 := hid (G.out.below hb1)
            clear hb1
            go_wp2_with (go_at_call 9; refine (beyond2 _ _ _ z zt).mono ?_; rintro e w2 ⟨rfl, rfl⟩)
            have hb2 : Below w1.heap.size w1 (w1.alloc (.cells #[.int .i64 s.size, .int .i64 t.size] 3)) := (Below.refl _ _).alloc (Nat.le_refl _) _
            have B2 := hid (below_chain B1.out hb2)
            clear hb2
            generalize w1.alloc _ = w2 at *
            refine (encode_is _ (s ++ t) n.toNat n.toNat_lt Hcs.out (ES ++ ET) HEC.out).mono ?_
            rintro e w3 ⟨rfl, hb3⟩
            have B3 := hid (below_chain B2.out hb3)
            have G3 := hid (G.out.below B3.out)
            clear hb3
            go_wp2_with fail
            refine (encode_is _ s n.toNat n.toNat_lt (by omega) ES HES.out).mono ?_
            rintro e w4 ⟨rfl, hb4⟩
            have B4 := hid (below_chain B3.out hb4)
            have G4 := hid (G.out.below B4.out)
            clear hb4
            go_wp2_with fail
            refine (encode_is _ t n.toNat n.toNat_lt (by omega) ET HET.out).mono ?_
            rintro e w5 ⟨rfl, hb5⟩
            have B5 := hid (below_chain B4.out hb5)
            have G5 := hid (G.out.below B5.out)
            clear hb5
            go_wp2_with fail
            go_ret
            exact ⟨rfl, B5.out⟩
          · have e2 : ((y.toNat : Int) == 37) = false := by rw [beq_eq_false_iff_ne]; omega
            have Hop := hid (openB_no s (fun _ => by rw [hx]; exact x37) (fun _ _ => by rw [hy]; exact y37))
            clear x37 y37
            go_enter Tryd.func7, Tryd.ntmps7
            go_wp2_with fail
            refine (alive_any _ G.out).mono ?_
            rintro e w1 ⟨rfl, hb1⟩
            have B1 := hid hb1
            have G1 := hid (G.out.below hb1)
            clear hb1
            go_wp2_with (go_at_call 9; refine (beyond2 _ _ _ z zt).mono ?_; rintro e w2 ⟨rfl, rfl⟩)
            have hb2 : Below w1.heap.size w1 (w1.alloc (.cells #[.int .i64 s.size, .int .i64 t.size] 3)) := (Below.refl _ _).alloc (Nat.le_refl _) _
            have B2 := hid (below_chain B1.out hb2)
            clear hb2
            generalize w1.alloc _ = w2 at *
            refine (encode_is _ (s ++ t) n.toNat n.toNat_lt Hcs.out (ES ++ ET) HEC.out).mono ?_
            rintro e w3 ⟨rfl, hb3⟩
            have B3 := hid (below_chain B2.out hb3)
            have G3 := hid (G.out.below B3.out)
            clear hb3
            go_wp2_with fail
            refine (encode_is _ s n.toNat n.toNat_lt (by omega) ES HES.out).mono ?_
            rintro e w4 ⟨rfl, hb4⟩
            have B4 := hid (below_chain B3.out hb4)
            have G4 := hid (G.out.below B4.out)
            clear hb4
            go_wp2_with fail
            refine (encode_is _ t n.toNat n.toNat_lt (by omega) ET HET.out).mono ?_
            rintro e w5 ⟨rfl, hb5⟩
            have B5 := hid (below_chain B4.out hb5)
            have G5 := hid (G.out.below B5.out)
            clear hb5
            go_wp2_with fail
            refine (decode_is G5.out (s ++ t) Hcs.out (DS ++ DT) (HDC.out Hop.out)).mono ?_
            rintro e w6 ⟨rfl, hb6⟩
            have B6 := hid (below_chain B5.out hb6)
            have G6 := hid (G.out.below B6.out)
            clear hb6
            go_wp2_with fail
            refine (decode_is G6.out s (by omega) DS HDS.out).mono ?_
            rintro e w7 ⟨rfl, hb7⟩
            have B7 := hid (below_chain B6.out hb7)
            have G7 := hid (G.out.below B7.out)
            clear hb7
            go_wp2_with fail
            refine (decode_is G7.out t (by omega) DT HDT.out).mono ?_
            rintro e w8 ⟨rfl, hb8⟩
            have B8 := hid (below_chain B7.out hb8)
            have G8 := hid (G.out.below B8.out)
            clear hb8
            go_wp2_with fail
            go_ret
            exact ⟨rfl, B8.out⟩
        · have Hop := hid (openB_no s (fun _ => by rw [hx]; exact x37) (fun h => absurd h h1))
          clear x37
          go_enter Tryd.func7, Tryd.ntmps7
          go_wp2_with fail
          refine (alive_any _ G.out).mono ?_
          rintro e w1 ⟨rfl, hb1⟩
          have B1 := hid hb1
          have G1 := hid (G.out.below hb1)
          clear hb1
          go_wp2_with (go_at_call 9; refine (beyond2 _ _ _ z zt).mono ?_; rintro e w2 ⟨rfl, rfl⟩)
          have hb2 : Below w1.heap.size w1 (w1.alloc (.cells #[.int .i64 s.size, .int .i64 t.size] 3)) := (Below.refl _ _).alloc (Nat.le_refl _) _
          have B2 := hid (below_chain B1.out hb2)
          clear hb2
          generalize w1.alloc _ = w2 at *
          refine (encode_is _ (s ++ t) n.toNat n.toNat_lt Hcs.out (ES ++ ET) HEC.out).mono ?_
          rintro e w3 ⟨rfl, hb3⟩
          have B3 := hid (below_chain B2.out hb3)
          have G3 := hid (G.out.below B3.out)
          clear hb3
          go_wp2_with fail
          refine (encode_is _ s n.toNat n.toNat_lt (by omega) ES HES.out).mono ?_
          rintro e w4 ⟨rfl, hb4⟩
          have B4 := hid (below_chain B3.out hb4)
          have G4 := hid (G.out.below B4.out)
          clear hb4
          go_wp2_with fail
          refine (encode_is _ t n.toNat n.toNat_lt (by omega) ET HET.out).mono ?_
          rintro e w5 ⟨rfl, hb5⟩
          have B5 := hid (below_chain B4.out hb5)
          have G5 := hid (G.out.below B5.out)
          clear hb5
          go_wp2_with fail
          refine (decode_is G5.out (s ++ t) Hcs.out (DS ++ DT) (HDC.out Hop.out)).mono ?_
          rintro e w6 ⟨rfl, hb6⟩
          have B6 := hid (below_chain B5.out hb6)
          have G6 := hid (G.out.below B6.out)
          clear hb6
          go_wp2_with fail
          refine (decode_is G6.out s (by omega) DS HDS.out).mono ?_
          rintro e w7 ⟨rfl, hb7⟩
          have B7 := hid (below_chain B6.out hb7)
          have G7 := hid (G.out.below B7.out)
          clear hb7
          go_wp2_with fail
          refine (decode_is G7.out t (by omega) DT HDT.out).mono ?_
          rintro e w8 ⟨rfl, hb8⟩
          have B8 := hid (below_chain B7.out hb8)
          have G8 := hid (G.out.below B8.out)
          clear hb8
          go_wp2_with fail
          go_ret
          exact ⟨rfl, B8.out⟩
    · have Hop := hid (openB_no s (fun h => by omega) (fun h => by omega))
      go_enter Tryd.func7, Tryd.ntmps7
      go_wp2_with fail
      refine (alive_any _ G.out).mono ?_
      rintro e w1 ⟨rfl, hb1⟩
      have B1 := hid hb1
      have G1 := hid (G.out.below hb1)
      clear hb1
      go_wp2_with (go_at_call 9; refine (beyond2 _ _ _ z zt).mono ?_; rintro e w2 ⟨rfl, rfl⟩)
      have hb2 : Below w1.heap.size w1 (w1.alloc (.cells #[.int .i64 s.size, .int .i64 t.size] 3)) := (Below.refl _ _).alloc (Nat.le_refl _) _
      have B2 := hid (below_chain B1.out hb2)
      clear hb2
      generalize w1.alloc _ = w2 at *
      refine (encode_is _ (s ++ t) n.toNat n.toNat_lt Hcs.out (ES ++ ET) HEC.out).mono ?_
      rintro e w3 ⟨rfl, hb3⟩
      have B3 := hid (below_chain B2.out hb3)
      have G3 := hid (G.out.below B3.out)
      clear hb3
      go_wp2_with fail
      refine (encode_is _ s n.toNat n.toNat_lt (by omega) ES HES.out).mono ?_
      rintro e w4 ⟨rfl, hb4⟩
      have B4 := hid (below_chain B3.out hb4)
      have G4 := hid (G.out.below B4.out)
      clear hb4
      go_wp2_with fail
      refine (encode_is _ t n.toNat n.toNat_lt (by omega) ET HET.out).mono ?_
      rintro e w5 ⟨rfl, hb5⟩
      have B5 := hid (below_chain B4.out hb5)
      have G5 := hid (G.out.below B5.out)
      clear hb5
      go_wp2_with fail
      refine (decode_is G5.out (s ++ t) Hcs.out (DS ++ DT) (HDC.out Hop.out)).mono ?_
      rintro e w6 ⟨rfl, hb6⟩
      have B6 := hid (below_chain B5.out hb6)
      have G6 := hid (G.out.below B6.out)
      clear hb6
      go_wp2_with fail
      refine (decode_is G6.out s (by omega) DS HDS.out).mono ?_
      rintro e w7 ⟨rfl, hb7⟩
      have B7 := hid (below_chain B6.out hb7)
      have G7 := hid (G.out.below B7.out)
      clear hb7
      go_wp2_with fail
      refine (decode_is G7.out t (by omega) DT HDT.out).mono ?_
      rintro e w8 ⟨rfl, hb8⟩
      have B8 := hid (below_chain B7.out hb8)
      have G8 := hid (G.out.below B8.out)
      clear hb8
      go_wp2_with fail
      go_ret
      exact ⟨rfl, B8.out⟩
end Go.Proofs.YtcjjlmjamcmnpaaDoor
