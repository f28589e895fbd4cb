/- Walk of the law StsOpen: a quotation mark that is not closed is refused. -/
import Derived.Test.YtnmdcbneoipllaaDoorStsOnce
import Derived.Test.YtnmdcbneoipllaaDoorBeyond
namespace Go.Proofs.YtnmdcbneoipllaaDoor
open Go.RowKit Go.Lib Go.Proofs.Foot

theorem good_below {w w' : World} (h : GoodP w) (hb : Below w.heap.size w w') : GoodP w' := h.below hb
theorem take_no {l : List UInt8} {k : Nat} {d c : UInt8} (h : ∀ x ∈ l.take k, x ≠ d) (hk : l[k]? = some c) (hc : c ≠ d) : ∀ x ∈ l.take (k + 1), x ≠ d := by
  intro x hx
  rw [List.take_add_one, hk] at hx
  rcases List.mem_append.1 hx with hx | hx
  · exact h x hx
  · simp at hx; rw [hx]; exact hc
set_option maxHeartbeats 4000000 in
set_option maxRecDepth 100000 in
theorem stsOpen_walk (s : ByteArray) (_hs : s.size ≤ maxLen) (z : s.size ≤ 140737488351232) (t : ByteArray) (_ht : t.size ≤ maxLen) (zt : t.size ≤ 140737488351232) (w : World) (hL : laidMetH Tryd.prog Rows.stsOpenRow.laid w) (hsh : w.ShapedOpen Tryd.prog) :
    Calls Tryd.prog 9 #[.string s, .string t] w fun e w' => e = .returned (.bool true) ∧ Below w.heap.size w w' := by
  have G := hid (goodP_of hL (by kernel_rfl) (by kernel_rfl) (by kernel_rfl) hsh)
  clear hL hsh _hs _ht
  cases hb : beyond [s.size, t.size] with
  | true =>
    go_enter Tryd.func9, Tryd.ntmps9
    go_wp2_with fail
    refine (alive_any _ G.out).mono ?_
    rintro e w1 ⟨rfl, hb1⟩
    have B1 := hid hb1
    clear hb1
    go_wp2_with (go_at_call 12; refine (beyond2 _ _ _ z zt).mono ?_; rintro e w2 ⟨rfl, rfl⟩)
    have hb2 : Below w1.heap.size w1 (w1.alloc (.cells #[.int .i64 s.size, .int .i64 t.size] 3)) := (Below.refl _ _).alloc (Nat.le_refl _) _
    have B2 := hid (below_chain B1.out hb2)
    clear hb2
    refine (alive_any _ (good_below G.out B2.out)).mono ?_
    rintro e w3 ⟨rfl, hb3⟩
    have B3 := hid (below_chain B2.out hb3)
    clear hb3
    go_wp2_with fail
    go_ret
    exact ⟨rfl, B3.out⟩
  | false =>
    have hle := beyond_le (zs := [s.size, t.size]) (by rw [hb]; decide)
    have hst : s.size + t.size ≤ 1048576 := by simpa using hle
    clear hle
    by_cases h30 : 30000 < s.size + t.size
    · have h30i : (s.size : Int) + (t.size : Int) > 30000 := by omega
      go_enter Tryd.func9, Tryd.ntmps9
      go_wp2_with fail
      refine (alive_any _ G.out).mono ?_
      rintro e w1 ⟨rfl, hb1⟩
      have B1 := hid hb1
      clear hb1
      go_wp2_with fail
      refine (beyond2 _ _ _ z zt).mono ?_
      rintro e w2 ⟨rfl, rfl⟩
      have hb2 : Below w1.heap.size w1 (w1.alloc (.cells #[.int .i64 s.size, .int .i64 t.size] 3)) := (Below.refl _ _).alloc (Nat.le_refl _) _
      have B2 := hid (below_chain B1.out hb2)
      clear hb2
      generalize w1.alloc _ = w2 at *
      go_wp2_with fail
      refine (alive_any _ (good_below G.out B2.out)).mono ?_
      rintro e w3 ⟨rfl, hb3⟩
      have B3 := hid (below_chain B2.out hb3)
      clear hb3
      go_wp2
      go_ret
      exact ⟨rfl, B3.out⟩
    · have h30i : ¬ (s.size : Int) + (t.size : Int) > 30000 := by omega
      obtain ⟨T, hT⟩ : ∃ T : ByteArray, T = s ++ t := ⟨_, rfl⟩
      have hTl := hid (show T.data.toList = s.data.toList ++ t.data.toList by rw [hT, cat_l])
      have hTz : T.size ≤ 30000 := by rw [hT, cat_z]; omega
      have a0 := add_is hT (by omega) (by omega)
      obtain ⟨A1, hA1⟩ : ∃ r : ByteArray, r = (⟨#[109, 97, 120, 45, 97, 103, 101, 61, 49, 59]⟩ : ByteArray) ++ s := ⟨_, rfl⟩
      obtain ⟨A2, hA2⟩ : ∃ r : ByteArray, r = A1 ++ ⟨#[34]⟩ := ⟨_, rfl⟩
      obtain ⟨A3, hA3⟩ : ∃ r : ByteArray, r = A2 ++ t := ⟨_, rfl⟩
      have s1 : A1.size = 10 + s.size := by rw [hA1, cat_z]; rfl
      have s2 : A2.size = 10 + s.size + 1 := by rw [hA2, cat_z, s1]; rfl
      have s3 : A3.size = 10 + s.size + 1 + t.size := by rw [hA3, cat_z, s2]
      have l3 := hid (show A3.data.toList = maxAgeL ++ 61 :: 49 :: 59 :: (s.data.toList ++ 34 :: t.data.toList) by rw [hA3, cat_l, hA2, cat_l, hA1, cat_l]; simp [maxAgeL])
      have a1 := add_is hA1 (by decide) (by omega)
      have a2 := add_is hA2 (by omega) (by decide)
      have a3 := add_is hA3 (by omega) (by omega)
      have z3 := hid (show A3.size ≤ 65536 by omega)
      clear hT hA1 hA2 hA3 s1 s2 s3
      go_enter Tryd.func9, Tryd.ntmps9
      go_wp2_with fail
      refine (alive_any _ G.out).mono ?_
      rintro e w1 ⟨rfl, hb1⟩
      have B1 := hid hb1
      clear hb1
      go_wp2_with fail
      refine (beyond2 _ _ _ z zt).mono ?_
      rintro e w2 ⟨rfl, rfl⟩
      have hb2 : Below w1.heap.size w1 (w1.alloc (.cells #[.int .i64 s.size, .int .i64 t.size] 3)) := (Below.refl _ _).alloc (Nat.le_refl _) _
      have B2 := hid (below_chain B1.out hb2)
      clear hb2
      generalize w1.alloc _ = w2 at *
      go_wp2
      clear h30 h30i hb
      go_loop [6] (fun i => ∃ k : Nat, k ≤ T.size ∧ i = .int .i64 k ∧ Hid (∀ c ∈ T.data.toList.take k, c ≠ 34)) (fun i => T.size - (RowKit.intOf i).toNat)
      case atStart => exact ⟨0, Nat.zero_le _, rfl, hid (by simp)⟩
      case round =>
        obtain ⟨k, hk, rfl, HK⟩ := hrel
        by_cases hlt : k < T.size
        · obtain ⟨d, hd⟩ : ∃ d, T[k]'hlt = d := ⟨_, rfl⟩
          have hdl := hid (show T.data.toList[k]? = some d by rw [← hd]; exact Lib.data_getElem? T k hlt)
          have d256 : (d.toNat : Int) < 256 := by have := d.toNat_lt; omega
          by_cases hdc : d = 34
          · have e1 : ((d.toNat : Int) == 34) = true := by rw [hdc]; rfl
            clear hdc
            go_wp2
            go_ret
            exact ⟨rfl, B2.out⟩
          · have e1 : ((d.toNat : Int) == 34) = false := by
              rw [beq_eq_false_iff_ne]; intro h; exact hdc (UInt8.toNat.inj (by show _ = 34; omega))
            have hn := hid (take_no HK.out hdl.out hdc)
            clear hdc
            go_wp2
            go_round
            case rel => exact ⟨k + 1, by omega, by go_num, hn⟩
            case measure => simp [RowKit.intOf]; omega
        · have q := hid (show parseS A3.data.toList = none by
            rw [l3.out]
            refine open_none fun c hc => ?_
            refine HK.out c ?_
            rw [List.take_of_length_le (by rw [← Lib.size_eq]; omega), hTl.out]
            exact hc)
          have HB := hid (fun w G => bad_yes A3 z3.out trivial q.out w G)
          clear hTl HK
          go_wp2_with fail
          refine (HB.out _ (good_below G.out B2.out)).mono ?_
          rintro e w3 ⟨rfl, hb3⟩
          have B3 := hid (below_chain B2.out hb3)
          clear hb3
          go_wp2
          go_ret
          exact ⟨rfl, B3.out⟩
end Go.Proofs.YtnmdcbneoipllaaDoor
