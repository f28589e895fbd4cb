/- Walk of the law PercentWithin (printed by gen_within.py). -/
import Derived.Test.YtcjjlmjamcmnpaaDoorAlive
namespace Go.Proofs.YtcjjlmjamcmnpaaDoor
open Go.RowKit Go.Lib Go.Proofs.Foot

theorem has_lo (n : Nat) (hn : ¬ (n = 0 ∨ 5 < n)) {c : UInt8} (h : c.toNat < 32 ∨ 126 < c.toNat) : hasB n c = true := hasB_ctl hn h
theorem has1_mid {c : UInt8} (h : ¬ (c.toNat < 32 ∨ 126 < c.toNat)) : hasB 1 c = false := by
  rw [hasB_set (by decide) h]; rfl
theorem has_letter (n : Nat) (c : UInt8) (h : hasB n c = true) : (c.toNat < 97 ∨ 122 < c.toNat) ∧ (c.toNat < 65 ∨ 90 < c.toNat) ∧ (c.toNat < 48 ∨ 57 < c.toNat) ∧ c.toNat ≠ 37 := by
  have := all_set (fun p c => !p c || decide ((c.toNat < 97 ∨ 122 < c.toNat) ∧ (c.toNat < 65 ∨ 90 < c.toNat) ∧ (c.toNat < 48 ∨ 57 < c.toNat) ∧ c.toNat ≠ 37)) (by decide +kernel) n c
  simpa [h] using this
theorem has_45 (c : UInt8) (h : hasB 4 c = true) : hasB 5 c = true := by
  have := all_u8' (fun c => !hasB 4 c || hasB 5 c) (by decide +kernel) c
  simpa [h] using this

set_option maxHeartbeats 4000000 in
set_option maxRecDepth 100000 in
theorem percentWithin_walk (x : Int) (wx : (Lit.int .u8 x).wf = true) (y : Int) (wy : (Lit.int .u8 y).wf = true) (w : World) (hL : laidMetH Tryd.prog Rows.percentWithinRow.laid w) (hsh : w.ShapedOpen Tryd.prog) :
    Calls Tryd.prog 6 #[.int .u8 x, .int .u8 y] w fun e w' => e = .returned (.bool true) ∧ Below w.heap.size w w' := by
  obtain ⟨c, rfl⟩ := u8_of wx
  obtain ⟨n, rfl⟩ := u8_of wy
  have G := hid (good_of hL (by kernel_rfl) hsh)
  clear hL hsh wx wy
  have c256 := c.toNat_lt
  have n256 := n.toNat_lt
  by_cases hc : c.toNat < 32
  · have hctl : c.toNat < 32 ∨ 126 < c.toNat := .inl hc
    have H4 := hid (has_lo 4 (by decide) hctl)
    have H5 := hid (has_lo 5 (by decide) hctl)
    have H1 := hid (has_lo 1 (by decide) hctl)
    by_cases n0 : n.toNat = 0
    · have Hn : Hid (hasB n.toNat c = false) := hid (hasB_no (.inl n0) c)
      have en : ((n.toNat : Int) == 0) = true := by rw [n0]; rfl
      clear hctl n0
      go_enter Tryd.func6, Tryd.ntmps6
      all_goals (go_wp2_with fail)
      all_goals (refine (has_is _ n.toNat n.toNat_lt c false Hn.out).mono ?_)
      all_goals (rintro e w1 ⟨rfl, hb⟩)
      all_goals (have B1 := hid hb)
      all_goals (have G1 := hid (G.out.below B1.out))
      all_goals (clear hb)
      all_goals (go_wp2_with fail)
      all_goals (refine (has_is _ 4 (by decide) c true H4.out).mono ?_)
      all_goals (rintro e w2 ⟨rfl, hb⟩)
      all_goals (have B2 := hid (below_chain B1.out hb))
      all_goals (have G2 := hid (G.out.below B2.out))
      all_goals (clear hb)
      all_goals (go_wp2_with fail)
      all_goals (refine (has_is _ 5 (by decide) c true H5.out).mono ?_)
      all_goals (rintro e w3 ⟨rfl, hb⟩)
      all_goals (have B3 := hid (below_chain B2.out hb))
      all_goals (have G3 := hid (G.out.below B3.out))
      all_goals (clear hb)
      all_goals (go_wp2_with fail)
      all_goals (refine (alive_any _ G3.out).mono ?_)
      all_goals (rintro e w4 ⟨rfl, hb⟩)
      all_goals (have B4 := hid (below_chain B3.out hb))
      all_goals (have G4 := hid (G.out.below B4.out))
      all_goals (clear hb)
      all_goals (go_wp2_with fail)
      all_goals (refine (has_is _ 1 (by decide) c true H1.out).mono ?_)
      all_goals (rintro e w5 ⟨rfl, hb⟩)
      all_goals (have B5 := hid (below_chain B4.out hb))
      all_goals (have G5 := hid (G.out.below B5.out))
      all_goals (clear hb)
      all_goals (go_wp2_with fail)
      all_goals (refine (has_is _ 1 (by decide) c true H1.out).mono ?_)
      all_goals (rintro e w6 ⟨rfl, hb⟩)
      all_goals (have B6 := hid (below_chain B5.out hb))
      all_goals (have G6 := hid (G.out.below B6.out))
      all_goals (clear hb)
      all_goals (go_wp2_with fail)
      all_goals go_ret
      all_goals exact ⟨rfl, B6.out⟩
    · have en : ((n.toNat : Int) == 0) = false := by rw [beq_eq_false_iff_ne]; omega
      by_cases n5 : 5 < n.toNat
      · have Hn : Hid (hasB n.toNat c = false) := hid (hasB_no (.inr n5) c)
        clear hctl n0
        go_enter Tryd.func6, Tryd.ntmps6
        all_goals (go_wp2_with fail)
        all_goals (refine (has_is _ n.toNat n.toNat_lt c false Hn.out).mono ?_)
        all_goals (rintro e w1 ⟨rfl, hb⟩)
        all_goals (have B1 := hid hb)
        all_goals (have G1 := hid (G.out.below B1.out))
        all_goals (clear hb)
        all_goals (go_wp2_with fail)
        all_goals (refine (has_is _ 4 (by decide) c true H4.out).mono ?_)
        all_goals (rintro e w2 ⟨rfl, hb⟩)
        all_goals (have B2 := hid (below_chain B1.out hb))
        all_goals (have G2 := hid (G.out.below B2.out))
        all_goals (clear hb)
        all_goals (go_wp2_with fail)
        all_goals (refine (has_is _ 5 (by decide) c true H5.out).mono ?_)
        all_goals (rintro e w3 ⟨rfl, hb⟩)
        all_goals (have B3 := hid (below_chain B2.out hb))
        all_goals (have G3 := hid (G.out.below B3.out))
        all_goals (clear hb)
        all_goals (go_wp2_with fail)
        all_goals (refine (alive_any _ G3.out).mono ?_)
        all_goals (rintro e w4 ⟨rfl, hb⟩)
        all_goals (have B4 := hid (below_chain B3.out hb))
        all_goals (have G4 := hid (G.out.below B4.out))
        all_goals (clear hb)
        all_goals (go_wp2_with fail)
        all_goals (refine (has_is _ 1 (by decide) c true H1.out).mono ?_)
        all_goals (rintro e w5 ⟨rfl, hb⟩)
        all_goals (have B5 := hid (below_chain B4.out hb))
        all_goals (have G5 := hid (G.out.below B5.out))
        all_goals (clear hb)
        all_goals (go_wp2_with fail)
        all_goals (refine (has_is _ 1 (by decide) c true H1.out).mono ?_)
        all_goals (rintro e w6 ⟨rfl, hb⟩)
        all_goals (have B6 := hid (below_chain B5.out hb))
        all_goals (have G6 := hid (G.out.below B6.out))
        all_goals (clear hb)
        all_goals (go_wp2_with fail)
        all_goals go_ret
        all_goals exact ⟨rfl, B6.out⟩
      · have Hn := hid (has_lo n.toNat (by omega) hctl)
        clear hctl n0
        go_enter Tryd.func6, Tryd.ntmps6
        all_goals (go_wp2_with fail)
        all_goals (refine (has_is _ n.toNat n.toNat_lt c true Hn.out).mono ?_)
        all_goals (rintro e w1 ⟨rfl, hb⟩)
        all_goals (have B1 := hid hb)
        all_goals (have G1 := hid (G.out.below B1.out))
        all_goals (clear hb)
        all_goals (go_wp2_with fail)
        all_goals (refine (has_is _ 4 (by decide) c true H4.out).mono ?_)
        all_goals (rintro e w2 ⟨rfl, hb⟩)
        all_goals (have B2 := hid (below_chain B1.out hb))
        all_goals (have G2 := hid (G.out.below B2.out))
        all_goals (clear hb)
        all_goals (go_wp2_with fail)
        all_goals (refine (has_is _ 5 (by decide) c true H5.out).mono ?_)
        all_goals (rintro e w3 ⟨rfl, hb⟩)
        all_goals (have B3 := hid (below_chain B2.out hb))
        all_goals (have G3 := hid (G.out.below B3.out))
        all_goals (clear hb)
        all_goals (go_wp2_with fail)
        all_goals (refine (alive_any _ G3.out).mono ?_)
        all_goals (rintro e w4 ⟨rfl, hb⟩)
        all_goals (have B4 := hid (below_chain B3.out hb))
        all_goals (have G4 := hid (G.out.below B4.out))
        all_goals (clear hb)
        all_goals (go_wp2_with fail)
        all_goals (refine (has_is _ 1 (by decide) c true H1.out).mono ?_)
        all_goals (rintro e w5 ⟨rfl, hb⟩)
        all_goals (have B5 := hid (below_chain B4.out hb))
        all_goals (have G5 := hid (G.out.below B5.out))
        all_goals (clear hb)
        all_goals (go_wp2_with fail)
        all_goals (refine (has_is _ 1 (by decide) c true H1.out).mono ?_)
        all_goals (rintro e w6 ⟨rfl, hb⟩)
        all_goals (have B6 := hid (below_chain B5.out hb))
        all_goals (have G6 := hid (G.out.below B6.out))
        all_goals (clear hb)
        all_goals (go_wp2_with fail)
        all_goals go_ret
        all_goals exact ⟨rfl, B6.out⟩
  · have hc1 := hc
    clear hc
    by_cases hc : 126 < c.toNat
    · have hctl : c.toNat < 32 ∨ 126 < c.toNat := .inr hc
      have H4 := hid (has_lo 4 (by decide) hctl)
      have H5 := hid (has_lo 5 (by decide) hctl)
      have H1 := hid (has_lo 1 (by decide) hctl)
      have d1 : decide ((c.toNat : Int) ≤ 122) = false := decide_eq_false (by omega)
      have d2 : decide ((c.toNat : Int) ≤ 90) = false := decide_eq_false (by omega)
      have d3 : decide ((c.toNat : Int) ≤ 57) = false := decide_eq_false (by omega)
      have d4 : decide ((126 : Int) < c.toNat) = true := decide_eq_true (by omega)
      have d5 : ((c.toNat : Int) == 37) = false := by rw [beq_eq_false_iff_ne]; omega
      by_cases n0 : n.toNat = 0
      · have Hn : Hid (hasB n.toNat c = false) := hid (hasB_no (.inl n0) c)
        have en : ((n.toNat : Int) == 0) = true := by rw [n0]; rfl
        clear hctl n0
        go_enter Tryd.func6, Tryd.ntmps6
        all_goals (go_wp2_with fail)
        all_goals (refine (has_is _ n.toNat n.toNat_lt c false Hn.out).mono ?_)
        all_goals (rintro e w1 ⟨rfl, hb⟩)
        all_goals (have B1 := hid hb)
        all_goals (have G1 := hid (G.out.below B1.out))
        all_goals (clear hb)
        all_goals (go_wp2_with fail)
        all_goals (refine (has_is _ 4 (by decide) c true H4.out).mono ?_)
        all_goals (rintro e w2 ⟨rfl, hb⟩)
        all_goals (have B2 := hid (below_chain B1.out hb))
        all_goals (have G2 := hid (G.out.below B2.out))
        all_goals (clear hb)
        all_goals (go_wp2_with fail)
        all_goals (refine (has_is _ 5 (by decide) c true H5.out).mono ?_)
        all_goals (rintro e w3 ⟨rfl, hb⟩)
        all_goals (have B3 := hid (below_chain B2.out hb))
        all_goals (have G3 := hid (G.out.below B3.out))
        all_goals (clear hb)
        all_goals (go_wp2_with fail)
        all_goals (refine (alive_any _ G3.out).mono ?_)
        all_goals (rintro e w4 ⟨rfl, hb⟩)
        all_goals (have B4 := hid (below_chain B3.out hb))
        all_goals (have G4 := hid (G.out.below B4.out))
        all_goals (clear hb)
        all_goals (go_wp2_with fail)
        all_goals (refine (has_is _ 1 (by decide) c true H1.out).mono ?_)
        all_goals (rintro e w5 ⟨rfl, hb⟩)
        all_goals (have B5 := hid (below_chain B4.out hb))
        all_goals (have G5 := hid (G.out.below B5.out))
        all_goals (clear hb)
        all_goals (go_wp2_with fail)
        all_goals (refine (has_is _ 1 (by decide) c true H1.out).mono ?_)
        all_goals (rintro e w6 ⟨rfl, hb⟩)
        all_goals (have B6 := hid (below_chain B5.out hb))
        all_goals (have G6 := hid (G.out.below B6.out))
        all_goals (clear hb)
        all_goals (go_wp2_with fail)
        all_goals go_ret
        all_goals exact ⟨rfl, B6.out⟩
      · have en : ((n.toNat : Int) == 0) = false := by rw [beq_eq_false_iff_ne]; omega
        by_cases n5 : 5 < n.toNat
        · have Hn : Hid (hasB n.toNat c = false) := hid (hasB_no (.inr n5) c)
          clear hctl n0
          go_enter Tryd.func6, Tryd.ntmps6
          all_goals (go_wp2_with fail)
          all_goals (refine (has_is _ n.toNat n.toNat_lt c false Hn.out).mono ?_)
          all_goals (rintro e w1 ⟨rfl, hb⟩)
          all_goals (have B1 := hid hb)
          all_goals (have G1 := hid (G.out.below B1.out))
          all_goals (clear hb)
          all_goals (go_wp2_with fail)
          all_goals (refine (has_is _ 4 (by decide) c true H4.out).mono ?_)
          all_goals (rintro e w2 ⟨rfl, hb⟩)
          all_goals (have B2 := hid (below_chain B1.out hb))
          all_goals (have G2 := hid (G.out.below B2.out))
          all_goals (clear hb)
          all_goals (go_wp2_with fail)
          all_goals (refine (has_is _ 5 (by decide) c true H5.out).mono ?_)
          all_goals (rintro e w3 ⟨rfl, hb⟩)
          all_goals (have B3 := hid (below_chain B2.out hb))
          all_goals (have G3 := hid (G.out.below B3.out))
          all_goals (clear hb)
          all_goals (go_wp2_with fail)
          all_goals (refine (alive_any _ G3.out).mono ?_)
          all_goals (rintro e w4 ⟨rfl, hb⟩)
          all_goals (have B4 := hid (below_chain B3.out hb))
          all_goals (have G4 := hid (G.out.below B4.out))
          all_goals (clear hb)
          all_goals (go_wp2_with fail)
          all_goals (refine (has_is _ 1 (by decide) c true H1.out).mono ?_)
          all_goals (rintro e w5 ⟨rfl, hb⟩)
          all_goals (have B5 := hid (below_chain B4.out hb))
          all_goals (have G5 := hid (G.out.below B5.out))
          all_goals (clear hb)
          all_goals (go_wp2_with fail)
          all_goals (refine (has_is _ 1 (by decide) c true H1.out).mono ?_)
          all_goals (rintro e w6 ⟨rfl, hb⟩)
          all_goals (have B6 := hid (below_chain B5.out hb))
          all_goals (have G6 := hid (G.out.below B6.out))
          all_goals (clear hb)
          all_goals (go_wp2_with fail)
          all_goals go_ret
          all_goals exact ⟨rfl, B6.out⟩
        · have Hn := hid (has_lo n.toNat (by omega) hctl)
          clear hctl n0
          go_enter Tryd.func6, Tryd.ntmps6
          all_goals (go_wp2_with fail)
          all_goals (refine (has_is _ n.toNat n.toNat_lt c true Hn.out).mono ?_)
          all_goals (rintro e w1 ⟨rfl, hb⟩)
          all_goals (have B1 := hid hb)
          all_goals (have G1 := hid (G.out.below B1.out))
          all_goals (clear hb)
          all_goals (go_wp2_with fail)
          all_goals (refine (has_is _ 4 (by decide) c true H4.out).mono ?_)
          all_goals (rintro e w2 ⟨rfl, hb⟩)
          all_goals (have B2 := hid (below_chain B1.out hb))
          all_goals (have G2 := hid (G.out.below B2.out))
          all_goals (clear hb)
          all_goals (go_wp2_with fail)
          all_goals (refine (has_is _ 5 (by decide) c true H5.out).mono ?_)
          all_goals (rintro e w3 ⟨rfl, hb⟩)
          all_goals (have B3 := hid (below_chain B2.out hb))
          all_goals (have G3 := hid (G.out.below B3.out))
          all_goals (clear hb)
          all_goals (go_wp2_with fail)
          all_goals (refine (alive_any _ G3.out).mono ?_)
          all_goals (rintro e w4 ⟨rfl, hb⟩)
          all_goals (have B4 := hid (below_chain B3.out hb))
          all_goals (have G4 := hid (G.out.below B4.out))
          all_goals (clear hb)
          all_goals (go_wp2_with fail)
          all_goals (refine (has_is _ 1 (by decide) c true H1.out).mono ?_)
          all_goals (rintro e w5 ⟨rfl, hb⟩)
          all_goals (have B5 := hid (below_chain B4.out hb))
          all_goals (have G5 := hid (G.out.below B5.out))
          all_goals (clear hb)
          all_goals (go_wp2_with fail)
          all_goals (refine (has_is _ 1 (by decide) c true H1.out).mono ?_)
          all_goals (rintro e w6 ⟨rfl, hb⟩)
          all_goals (have B6 := hid (below_chain B5.out hb))
          all_goals (have G6 := hid (G.out.below B6.out))
          all_goals (clear hb)
          all_goals (go_wp2_with fail)
          all_goals go_ret
          all_goals exact ⟨rfl, B6.out⟩
    · have hc2 := hc
      clear hc
      have H1 := hid (has1_mid (c := c) (by omega))
      have m1 : decide ((c.toNat : Int) < 32) = false := decide_eq_false (by omega)
      have m2 : decide ((126 : Int) < c.toNat) = false := decide_eq_false (by omega)
      cases hn : hasB n.toNat c with
      | true =>
        obtain ⟨l1, l2, l3, l4⟩ := has_letter _ _ hn
        have e37 : ((c.toNat : Int) == 37) = false := by rw [beq_eq_false_iff_ne]; omega
        have Hn := hid hn
        clear hn
        cases h4 : hasB 4 c with
        | true =>
          have H5 := hid (has_45 c h4)
          have H4 := hid h4
          clear h4
          go_enter Tryd.func6, Tryd.ntmps6
          all_goals (go_wp2_with fail)
          all_goals (refine (has_is _ n.toNat n.toNat_lt c true Hn.out).mono ?_)
          all_goals (rintro e w1 ⟨rfl, hb⟩)
          all_goals (have B1 := hid hb)
          all_goals (have G1 := hid (G.out.below B1.out))
          all_goals (clear hb)
          all_goals (go_wp2_with fail)
          all_goals (refine (has_is _ 4 (by decide) c true H4.out).mono ?_)
          all_goals (rintro e w2 ⟨rfl, hb⟩)
          all_goals (have B2 := hid (below_chain B1.out hb))
          all_goals (have G2 := hid (G.out.below B2.out))
          all_goals (clear hb)
          all_goals (go_wp2_with fail)
          all_goals (refine (has_is _ 5 (by decide) c true H5.out).mono ?_)
          all_goals (rintro e w3 ⟨rfl, hb⟩)
          all_goals (have B3 := hid (below_chain B2.out hb))
          all_goals (have G3 := hid (G.out.below B3.out))
          all_goals (clear hb)
          all_goals (go_wp2_with fail)
          all_goals (refine (alive_any _ G3.out).mono ?_)
          all_goals (rintro e w4 ⟨rfl, hb⟩)
          all_goals (have B4 := hid (below_chain B3.out hb))
          all_goals (have G4 := hid (G.out.below B4.out))
          all_goals (clear hb)
          all_goals (go_wp2_with fail)
          all_goals (refine (has_is _ 1 (by decide) c false H1.out).mono ?_)
          all_goals (rintro e w5 ⟨rfl, hb⟩)
          all_goals (have B5 := hid (below_chain B4.out hb))
          all_goals (have G5 := hid (G.out.below B5.out))
          all_goals (clear hb)
          all_goals (go_wp2_with fail)
          all_goals (refine (has_is _ 1 (by decide) c false H1.out).mono ?_)
          all_goals (rintro e w6 ⟨rfl, hb⟩)
          all_goals (have B6 := hid (below_chain B5.out hb))
          all_goals (have G6 := hid (G.out.below B6.out))
          all_goals (clear hb)
          all_goals (go_wp2_with fail)
          all_goals go_ret
          all_goals exact ⟨rfl, B6.out⟩
        | false =>
          have H4 := hid h4
          clear h4
          go_enter Tryd.func6, Tryd.ntmps6
          all_goals (go_wp2_with fail)
          all_goals (refine (has_is _ n.toNat n.toNat_lt c true Hn.out).mono ?_)
          all_goals (rintro e w1 ⟨rfl, hb⟩)
          all_goals (have B1 := hid hb)
          all_goals (have G1 := hid (G.out.below B1.out))
          all_goals (clear hb)
          all_goals (go_wp2_with fail)
          all_goals (refine (has_is _ 4 (by decide) c false H4.out).mono ?_)
          all_goals (rintro e w2 ⟨rfl, hb⟩)
          all_goals (have B2 := hid (below_chain B1.out hb))
          all_goals (have G2 := hid (G.out.below B2.out))
          all_goals (clear hb)
          all_goals (go_wp2_with fail)
          all_goals (refine (alive_any _ G2.out).mono ?_)
          all_goals (rintro e w3 ⟨rfl, hb⟩)
          all_goals (have B3 := hid (below_chain B2.out hb))
          all_goals (have G3 := hid (G.out.below B3.out))
          all_goals (clear hb)
          all_goals (go_wp2_with fail)
          all_goals (refine (has_is _ 1 (by decide) c false H1.out).mono ?_)
          all_goals (rintro e w4 ⟨rfl, hb⟩)
          all_goals (have B4 := hid (below_chain B3.out hb))
          all_goals (have G4 := hid (G.out.below B4.out))
          all_goals (clear hb)
          all_goals (go_wp2_with fail)
          all_goals (refine (has_is _ 1 (by decide) c false H1.out).mono ?_)
          all_goals (rintro e w5 ⟨rfl, hb⟩)
          all_goals (have B5 := hid (below_chain B4.out hb))
          all_goals (have G5 := hid (G.out.below B5.out))
          all_goals (clear hb)
          all_goals (go_wp2_with fail)
          all_goals go_ret
          all_goals exact ⟨rfl, B5.out⟩
      | false =>
        have Hn := hid hn
        clear hn
        cases h4 : hasB 4 c with
        | true =>
          have H5 := hid (has_45 c h4)
          have H4 := hid h4
          clear h4
          go_enter Tryd.func6, Tryd.ntmps6
          all_goals (go_wp2_with fail)
          all_goals (refine (has_is _ n.toNat n.toNat_lt c false Hn.out).mono ?_)
          all_goals (rintro e w1 ⟨rfl, hb⟩)
          all_goals (have B1 := hid hb)
          all_goals (have G1 := hid (G.out.below B1.out))
          all_goals (clear hb)
          all_goals (go_wp2_with fail)
          all_goals (refine (has_is _ 4 (by decide) c true H4.out).mono ?_)
          all_goals (rintro e w2 ⟨rfl, hb⟩)
          all_goals (have B2 := hid (below_chain B1.out hb))
          all_goals (have G2 := hid (G.out.below B2.out))
          all_goals (clear hb)
          all_goals (go_wp2_with fail)
          all_goals (refine (has_is _ 5 (by decide) c true H5.out).mono ?_)
          all_goals (rintro e w3 ⟨rfl, hb⟩)
          all_goals (have B3 := hid (below_chain B2.out hb))
          all_goals (have G3 := hid (G.out.below B3.out))
          all_goals (clear hb)
          all_goals (go_wp2_with fail)
          all_goals (refine (alive_any _ G3.out).mono ?_)
          all_goals (rintro e w4 ⟨rfl, hb⟩)
          all_goals (have B4 := hid (below_chain B3.out hb))
          all_goals (have G4 := hid (G.out.below B4.out))
          all_goals (clear hb)
          all_goals (go_wp2_with fail)
          all_goals (refine (has_is _ 1 (by decide) c false H1.out).mono ?_)
          all_goals (rintro e w5 ⟨rfl, hb⟩)
          all_goals (have B5 := hid (below_chain B4.out hb))
          all_goals (have G5 := hid (G.out.below B5.out))
          all_goals (clear hb)
          all_goals (go_wp2_with fail)
          all_goals (refine (has_is _ 1 (by decide) c false H1.out).mono ?_)
          all_goals (rintro e w6 ⟨rfl, hb⟩)
          all_goals (have B6 := hid (below_chain B5.out hb))
          all_goals (have G6 := hid (G.out.below B6.out))
          all_goals (clear hb)
          all_goals (go_wp2_with fail)
          all_goals go_ret
          all_goals exact ⟨rfl, B6.out⟩
        | false =>
          have H4 := hid h4
          clear h4
          go_enter Tryd.func6, Tryd.ntmps6
          all_goals (go_wp2_with fail)
          all_goals (refine (has_is _ n.toNat n.toNat_lt c false Hn.out).mono ?_)
          all_goals (rintro e w1 ⟨rfl, hb⟩)
          all_goals (have B1 := hid hb)
          all_goals (have G1 := hid (G.out.below B1.out))
          all_goals (clear hb)
          all_goals (go_wp2_with fail)
          all_goals (refine (has_is _ 4 (by decide) c false H4.out).mono ?_)
          all_goals (rintro e w2 ⟨rfl, hb⟩)
          all_goals (have B2 := hid (below_chain B1.out hb))
          all_goals (have G2 := hid (G.out.below B2.out))
          all_goals (clear hb)
          all_goals (go_wp2_with fail)
          all_goals (refine (alive_any _ G2.out).mono ?_)
          all_goals (rintro e w3 ⟨rfl, hb⟩)
          all_goals (have B3 := hid (below_chain B2.out hb))
          all_goals (have G3 := hid (G.out.below B3.out))
          all_goals (clear hb)
          all_goals (go_wp2_with fail)
          all_goals (refine (has_is _ 1 (by decide) c false H1.out).mono ?_)
          all_goals (rintro e w4 ⟨rfl, hb⟩)
          all_goals (have B4 := hid (below_chain B3.out hb))
          all_goals (have G4 := hid (G.out.below B4.out))
          all_goals (clear hb)
          all_goals (go_wp2_with fail)
          all_goals (refine (has_is _ 1 (by decide) c false H1.out).mono ?_)
          all_goals (rintro e w5 ⟨rfl, hb⟩)
          all_goals (have B5 := hid (below_chain B4.out hb))
          all_goals (have G5 := hid (G.out.below B5.out))
          all_goals (clear hb)
          all_goals (go_wp2_with fail)
          all_goals go_ret
          all_goals exact ⟨rfl, B5.out⟩
end Go.Proofs.YtcjjlmjamcmnpaaDoor
