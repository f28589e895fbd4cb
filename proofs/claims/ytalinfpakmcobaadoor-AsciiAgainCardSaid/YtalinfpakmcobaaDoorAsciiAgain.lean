/- Walk of the law AsciiAgain: a text in small letters is as long, has no great ones, stays as it is, and is the same as ahead. -/
import Derived.Test.YtalinfpakmcobaaDoorAlv1
import Derived.Test.YtalinfpakmcobaaDoorRows
namespace Go.Proofs.YtalinfpakmcobaaDoor
open Go.RowKit Go.Lib Go.Proofs.Foot

set_option maxHeartbeats 1000000 in
set_option maxRecDepth 100000 in
theorem asciiAgain_walk (s : ByteArray) (_hs : s.size ≤ maxLen) (z : s.size ≤ 140737488351232) (w : World) (_hL : laidMetH Tryd.prog Rows.asciiAgainRow.laid w) (hsh : w.ShapedOpen Tryd.prog) :
    Calls Tryd.prog 6 #[.string s] w fun e w' => e = .returned (.bool true) ∧ Below w.heap.size w w' := by
  have G := hid hsh
  clear _hL hsh _hs
  cases hb : beyond [s.size] with
  | true =>
    go_enter Tryd.func6, Tryd.ntmps6
    go_wp2_with fail
    refine (alive_any _ G.out).mono ?_
    rintro e w1 ⟨rfl, hb1⟩
    have B1 := hid hb1
    clear hb1
    go_wp2_with (go_at_call 11; refine (beyond1 _ _ z).mono ?_; rintro e w2 ⟨rfl, rfl⟩)
    have hb2 : Below w1.heap.size w1 (w1.alloc (.cells #[.int .i64 s.size] 3)) := (Below.refl _ _).alloc (Nat.le_refl _) _
    have B2 := hid (below_chain B1.out hb2)
    clear hb2
    refine (alive_any _ (good_below G.out B2.out)).mono ?_
    rintro e w3 ⟨rfl, hb3⟩
    have B3 := hid (below_chain B2.out hb3)
    clear hb3
    go_wp2_with fail
    go_ret
    exact ⟨rfl, B3.out⟩
  | false =>
    have hle := beyond_le (zs := [s.size]) (by rw [hb]; decide)
    have hs : s.size ≤ 1048576 := by simpa using hle
    clear hle
    obtain ⟨T, hT⟩ : ∃ T : ByteArray, lower s.data.toList = T.data.toList := ⟨⟨(lower s.data.toList).toArray⟩, by simp⟩
    have hTz : T.size = s.size := by rw [Lib.size_eq, ← hT, lower_length, ← Lib.size_eq]
    have hTs : T.size ≤ 16777216 := by omega
    have HT := hid hT
    have Hno : Hid (∀ c ∈ T.data.toList, ¬ (65 ≤ c.toNat ∧ c.toNat ≤ 90)) := hid (by rw [← hT]; exact lower_no _)
    have Hll : Hid (lower T.data.toList = T.data.toList) := hid (by rw [← hT]; exact lower_lower _)
    have Hs1 : Hid (sameB s.data.toList T.data.toList = true) := hid (by unfold sameB; rw [Hll.out, HT.out]; simp)
    have Hs2 : Hid (sameB T.data.toList s.data.toList = true) := hid (by unfold sameB; rw [Hll.out, HT.out]; simp)
    have Hz := hid hTz
    clear hT hTz
    go_enter Tryd.func6, Tryd.ntmps6
    go_wp2_with fail
    refine (alive_any _ G.out).mono ?_
    rintro e w1 ⟨rfl, hb1⟩
    have B1 := hid hb1
    clear hb1
    go_wp2_with (go_at_call 11; refine (beyond1 _ _ z).mono ?_; rintro e w2 ⟨rfl, rfl⟩)
    have hb2 : Below w1.heap.size w1 (w1.alloc (.cells #[.int .i64 s.size] 3)) := (Below.refl _ _).alloc (Nat.le_refl _) _
    have B2 := hid (below_chain B1.out hb2)
    clear hb2 hb
    generalize w1.alloc _ = w2 at *
    refine (lower_is _ s (by omega) T HT.out).mono ?_
    rintro e w3 ⟨rfl, hb3⟩
    have B3 := hid (below_chain B2.out hb3)
    clear hb3
    go_wp2
    go_loop [4] (fun i => ∃ k : Nat, k ≤ T.size ∧ i = .int .i64 k) (fun i => T.size - (RowKit.intOf i).toNat)
    case atStart => exact ⟨0, Nat.zero_le _, rfl⟩
    case round =>
      obtain ⟨k, hk, rfl⟩ := hrel
      by_cases hlt : k < T.size
      · obtain ⟨c, hc⟩ : ∃ c, T[k]'hlt = c := ⟨_, rfl⟩
        have hn : ¬ (65 ≤ c.toNat ∧ c.toNat ≤ 90) := Hno.out c (by rw [← hc]; exact List.getElem_mem (by rw [← Lib.size_eq]; exact hlt))
        by_cases h65 : 65 ≤ c.toNat
        · have h90 : ¬ c.toNat ≤ 90 := by omega
          clear hn
          go_wp2
          go_round
          case rel => exact ⟨k + 1, by omega, by go_num⟩
          case measure => simp [RowKit.intOf]; omega
        · clear hn
          go_wp2
          go_round
          case rel => exact ⟨k + 1, by omega, by go_num⟩
          case measure => simp [RowKit.intOf]; omega
      · have e1 : ((T.size : Int) == (s.size : Int)) = true := by have := Hz.out; rw [beq_iff_eq]; omega
        go_wp2_with fail
        refine (lower_is _ T (by omega) T Hll.out).mono ?_
        rintro e w4 ⟨rfl, hb4⟩
        have B4 := hid (below_chain B3.out hb4)
        clear hb4
        go_wp2_with fail
        refine (same_is _ s T (by omega) (by omega) true Hs1.out).mono ?_
        rintro e w5 ⟨rfl, hb5⟩
        have B5 := hid (below_chain B4.out hb5)
        clear hb5
        go_wp2_with fail
        refine (same_is _ T s (by omega) (by omega) true Hs2.out).mono ?_
        rintro e w6 ⟨rfl, hb6⟩
        have B6 := hid (below_chain B5.out hb6)
        clear hb6
        go_wp2
        go_ret
        exact ⟨rfl, B6.out⟩
end Go.Proofs.YtalinfpakmcobaaDoor
