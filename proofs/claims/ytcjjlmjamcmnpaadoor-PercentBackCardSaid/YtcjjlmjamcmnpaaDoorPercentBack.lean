/- Walk of the law PercentBack: a text without percent signs, encoded, is got back. -/
import Derived.Test.YtcjjlmjamcmnpaaDoorAlive
namespace Go.Proofs.YtcjjlmjamcmnpaaDoor
open Go.RowKit Go.Lib Go.Proofs.Foot

set_option maxRecDepth 100000 in
theorem percentBack_walk (s : ByteArray) (_hs : s.size ≤ maxLen) (z : s.size ≤ 140737488351232) (x : Int) (wx : (Lit.int .u8 x).wf = true) (w : World) (hL : laidMetH Tryd.prog Rows.percentBackRow.laid w) (hsh : w.ShapedOpen Tryd.prog) :
    Calls Tryd.prog 4 #[.string s, .int .u8 x] w fun e w' => e = .returned (.bool true) ∧ Below w.heap.size w w' := by
  obtain ⟨n, rfl⟩ := u8_of wx
  have G := hid (good_of hL (by kernel_rfl) hsh)
  clear hL hsh wx _hs
  cases hb : beyond [s.size] with
  | true =>
    go_enter Tryd.func4, Tryd.ntmps4
    go_wp2_with fail
    refine (alive_any _ G.out).mono ?_
    rintro e w1 ⟨rfl, hb1⟩
    have B1 := hid hb1
    have G1 := hid (G.out.below hb1)
    clear hb1
    go_wp2_with (go_at_call 9; refine (beyond1 _ _ z).mono ?_; rintro e w2 ⟨rfl, rfl⟩)
    have hb2 : Below w1.heap.size w1 (w1.alloc (.cells #[.int .i64 s.size] 3)) := (Below.refl _ _).alloc (Nat.le_refl _) _
    refine (alive_any _ (G1.out.below hb2)).mono ?_
    rintro e w3 ⟨rfl, hb3⟩
    have B3 := hid (below_chain (below_chain B1.out hb2) hb3)
    clear hb2 hb3
    go_wp2_with fail
    go_ret
    exact ⟨rfl, B3.out⟩
  | false =>
    have hle := beyond_le (zs := [s.size]) (by rw [hb]; decide)
    have hs : s.size ≤ 1048576 := by simpa using hle
    clear hle
    go_enter Tryd.func4, Tryd.ntmps4
    go_wp2_with fail
    refine (alive_any _ G.out).mono ?_
    rintro e w1 ⟨rfl, hb1⟩
    have B1 := hid hb1
    have G1 := hid (G.out.below hb1)
    clear hb1
    go_wp2_with (go_at_call 9; refine (beyond1 _ _ z).mono ?_; rintro e w2 ⟨rfl, rfl⟩)
    have hb2 : Below w1.heap.size w1 (w1.alloc (.cells #[.int .i64 s.size] 3)) := (Below.refl _ _).alloc (Nat.le_refl _) _
    have B2 := hid (below_chain B1.out hb2)
    have G2 := hid (G1.out.below hb2)
    clear hb2 hb
    generalize w1.alloc _ = w2 at *
    go_loop [5] (fun i => ∃ k : Nat, k ≤ s.size ∧ i = .int .i64 k ∧ Hid ((37 : UInt8) ∉ s.data.toList.take k)) (fun i => s.size - (RowKit.intOf i).toNat)
    case atStart => exact ⟨0, Nat.zero_le _, rfl, hid (by simp)⟩
    case round =>
      obtain ⟨k, hk, rfl, hno⟩ := hrel
      by_cases hlt : k < s.size
      · obtain ⟨c, hc⟩ : ∃ c, s[k]'hlt = c := ⟨_, rfl⟩
        by_cases h37 : c.toNat = 37
        · have e37 : ((c.toNat : Int) == 37) = true := by rw [h37]; rfl
          clear h37
          go_wp2
          go_ret
          exact ⟨rfl, B2.out⟩
        · have e37 : ((c.toNat : Int) == 37) = false := by rw [beq_eq_false_iff_ne]; omega
          have Hno : Hid ((37 : UInt8) ∉ s.data.toList.take (k + 1)) := by
            have hl : k < s.data.toList.length := by rw [← Lib.size_eq]; exact hlt
            have e : s.data.toList[k]'hl = c := hc
            rw [List.take_add_one, List.getElem?_eq_getElem hl, e]
            refine hid ?_
            simp only [Option.toList_some, List.mem_append, List.mem_singleton, not_or]
            exact ⟨hno.out, fun h => h37 (by rw [← h]; rfl)⟩
          clear h37 hno
          go_wp2
          go_round
          case rel => exact ⟨k + 1, by omega, by go_num, Hno⟩
          case measure => simp [RowKit.intOf]; omega
      · have Hall : Hid ((37 : UInt8) ∉ s.data.toList) := by
          have h := hno.out
          rw [List.take_of_length_le (by rw [← Lib.size_eq]; omega)] at h
          exact hid h
        have hel := encode_length n.toNat s.data.toList
        rw [← Lib.size_eq] at hel
        have He : Hid ((⟨(encode n.toNat s.data.toList).toArray⟩ : ByteArray).size ≤ 16777216) := by
          rw [Lib.size_eq]; refine hid ?_; show (encode n.toNat s.data.toList).toArray.toList.length ≤ _; simp; omega
        clear hno hel
        go_wp2_with fail
        refine (encodeA_any s n.toNat n.toNat_lt _ (by omega)).mono ?_
        rintro e w3 ⟨rfl, hb3⟩
        have B3 := hid (below_chain B2.out hb3)
        have G3 := hid (G2.out.below hb3)
        clear hb3
        go_wp2_with fail
        refine (decode_is G3.out _ He.out s (by show dec (encode n.toNat s.data.toList).toArray.toList = _; rw [List.toList_toArray]; exact dec_encode Hall.out)).mono ?_
        rintro e w4 ⟨rfl, hb4⟩
        have B4 := hid (below_chain B3.out hb4)
        clear hb4
        go_wp2_with fail
        go_ret
        exact ⟨rfl, B4.out⟩
end Go.Proofs.YtcjjlmjamcmnpaaDoor
