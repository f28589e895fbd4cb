/- Walk of the law PercentClean: an encoded text has none of the set's bytes, stays as it is, and is as long as it must be. -/
import Derived.Test.YtcjjlmjamcmnpaaDoorAlive
namespace Go.Proofs.YtcjjlmjamcmnpaaDoor
open Go.RowKit Go.Lib Go.Proofs.Foot

set_option maxHeartbeats 1000000 in
set_option maxRecDepth 100000 in
theorem percentClean_walk (s : ByteArray) (_hs : s.size ≤ maxLen) (z : s.size ≤ 140737488351232) (x : Int) (wx : (Lit.int .u8 x).wf = true) (w : World) (hL : laidMetH Tryd.prog Rows.percentCleanRow.laid w) (hsh : w.ShapedOpen Tryd.prog) :
    Calls Tryd.prog 5 #[.string s, .int .u8 x] w fun e w' => e = .returned (.bool true) ∧ Below w.heap.size w w' := by
  obtain ⟨n, rfl⟩ := u8_of wx
  have G := hid (good_of hL (by kernel_rfl) hsh)
  clear hL hsh wx _hs
  cases hb : beyond [s.size] with
  | true =>
    go_enter Tryd.func5, Tryd.ntmps5
    go_wp2_with fail
    refine (alive_any _ G.out).mono ?_
    rintro e w1 ⟨rfl, hb1⟩
    have B1 := hid hb1
    have G1 := hid (G.out.below hb1)
    clear hb1
    go_wp2_with (go_at_call 9; refine (beyond1 _ _ z).mono ?_; rintro e w2 ⟨rfl, rfl⟩)
    have hb2 : Below w1.heap.size w1 (w1.alloc (.cells #[.int .i64 s.size] 3)) := (Below.refl _ _).alloc (Nat.le_refl _) _
    refine (alive_any _ (G1.out.below hb2)).mono ?_
    rintro e w3 ⟨rfl, hb3⟩
    have B3 := hid (below_chain (below_chain B1.out hb2) hb3)
    clear hb2 hb3
    go_wp2_with fail
    go_ret
    exact ⟨rfl, B3.out⟩
  | false =>
    have hle := beyond_le (zs := [s.size]) (by rw [hb]; decide)
    have hs : s.size ≤ 1048576 := by simpa using hle
    clear hle
    obtain ⟨T, hT⟩ : ∃ T : ByteArray, T.data.toList = encode n.toNat s.data.toList := ⟨⟨(encode n.toNat s.data.toList).toArray⟩, by simp⟩
    have hTl := encode_len n.toNat s.data.toList
    rw [← hT, ← Lib.size_eq, ← Lib.size_eq] at hTl
    have hNle := hasN_le n.toNat s.data.toList
    rw [← Lib.size_eq] at hNle
    have hTs : T.size ≤ 16777216 := by omega
    have hcl := encode_clean n.toNat s.data.toList
    have hst := encode_none hcl
    rw [← hT] at hcl hst
    have HT := hid hT
    have HTl := hid hTl
    have Hcl := hid hcl
    have Hst := hid hst
    clear hT hTl hcl hst hNle
    go_enter Tryd.func5, Tryd.ntmps5
    go_wp2_with fail
    refine (alive_any _ G.out).mono ?_
    rintro e w1 ⟨rfl, hb1⟩
    have B1 := hid hb1
    clear hb1
    go_wp2_with (go_at_call 9; refine (beyond1 _ _ z).mono ?_; rintro e w2 ⟨rfl, rfl⟩)
    have hb2 : Below w1.heap.size w1 (w1.alloc (.cells #[.int .i64 s.size] 3)) := (Below.refl _ _).alloc (Nat.le_refl _) _
    have B2 := hid (below_chain B1.out hb2)
    clear hb2 hb
    generalize w1.alloc _ = w2 at *
    refine (encode_is _ s n.toNat n.toNat_lt (by omega) T HT.out.symm).mono ?_
    rintro e w3 ⟨rfl, hb3⟩
    have B3 := hid (below_chain B2.out hb3)
    clear hb3
    go_wp2
    go_loopw [6, 7] (fun m i wr => ∃ k : Nat, k ≤ s.size ∧ i = .int .i64 k ∧ m = .int .i64 (hasN n.toNat (s.data.toList.take k)) ∧ Hid (Below w.heap.size w wr)) (fun _ i _ => s.size - (RowKit.intOf i).toNat)
    case atStart => exact ⟨0, Nat.zero_le _, rfl, rfl, B3⟩
    case round =>
      obtain ⟨k, hk, rfl, rfl, hbel⟩ := hrel
      have hm := hasN_le n.toNat (s.data.toList.take k)
      have hmk : (s.data.toList.take k).length ≤ k := List.length_take_le _ _
      by_cases hlt : k < s.size
      · obtain ⟨c, hc⟩ : ∃ c, s[k]'hlt = c := ⟨_, rfl⟩
        have hl : k < s.data.toList.length := by rw [← Lib.size_eq]; exact hlt
        have e : s.data.toList[k]'hl = c := hc
        have hsn := hasN_snoc n.toNat hl
        rw [e] at hsn
        have Hsn := hid hsn
        clear hsn e hl
        cases hh : hasB n.toNat c with
        | true =>
          have Hh := hid hh
          clear hh
          go_wp2_with (go_at_call 14; refine (has_is _ n.toNat n.toNat_lt c true Hh.out).mono ?_; rintro e w4 ⟨rfl, hb4⟩)
          go_roundw
          case rel => exact ⟨k + 1, by omega, by go_num, by rw [Hsn.out, if_pos Hh.out]; go_num, hid (below_chain hbel.out hb4)⟩
          case measure => simp [RowKit.intOf]; omega
        | false =>
          have Hh := hid hh
          clear hh
          go_wp2_with (go_at_call 14; refine (has_is _ n.toNat n.toNat_lt c false Hh.out).mono ?_; rintro e w4 ⟨rfl, hb4⟩)
          go_roundw
          case rel => exact ⟨k + 1, by omega, by go_num, by rw [Hsn.out, if_neg (by rw [Hh.out]; decide)]; go_num, hid (below_chain hbel.out hb4)⟩
          case measure => simp [RowKit.intOf]; omega
      · have e : s.data.toList.take k = s.data.toList := List.take_of_length_le (by rw [← Lib.size_eq]; omega)
        rw [e] at hm ⊢
        have hm2 : hasN n.toNat s.data.toList ≤ s.size := by rw [Lib.size_eq]; exact hm
        clear e hm hmk
        obtain ⟨m, hmm⟩ : ∃ m, m = hasN n.toNat s.data.toList := ⟨_, rfl⟩
        rw [← hmm] at HTl hm2 ⊢
        clear hmm
        go_wp2
        go_loopw [8] (fun i wr => ∃ k : Nat, k ≤ T.size ∧ i = .int .i64 k ∧ Hid (Below w.heap.size w wr)) (fun i _ => T.size - (RowKit.intOf i).toNat)
        case atStart => exact ⟨0, Nat.zero_le _, rfl, hbel⟩
        case round =>
          obtain ⟨k, hk, rfl, hbel⟩ := hrel
          by_cases hlt : k < T.size
          · obtain ⟨c, hc⟩ : ∃ c, T[k]'hlt = c := ⟨_, rfl⟩
            have Hh : Hid (hasB n.toNat c = false) := by
              have hl : k < T.data.toList.length := by rw [← Lib.size_eq]; exact hlt
              have e : T.data.toList[k]'hl = c := hc
              exact hid (Hcl.out c (by rw [← e]; exact List.getElem_mem hl))
            go_wp2_with (go_at_call 14; refine (has_is _ n.toNat n.toNat_lt c false Hh.out).mono ?_; rintro e w4 ⟨rfl, hb4⟩)
            go_roundw
            case rel => exact ⟨k + 1, by omega, by go_num, hid (below_chain hbel.out hb4)⟩
            case measure => simp [RowKit.intOf]; omega
          · have eq1 : ((T.size : Int) == (s.size : Int) + 2 * (m : Int)) = true := by have := HTl.out; rw [beq_iff_eq]; omega
            go_wp2_with (go_at_call 13; refine (encode_is _ T n.toNat n.toNat_lt hTs T Hst.out).mono ?_; rintro e w4 ⟨rfl, hb4⟩)
            go_ret
            exact ⟨rfl, below_chain hbel.out hb4⟩
end Go.Proofs.YtcjjlmjamcmnpaaDoor
