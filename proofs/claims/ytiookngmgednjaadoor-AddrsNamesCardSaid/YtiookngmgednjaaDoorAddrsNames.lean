/- Walk of the law AddrsNames: what ends with a name does not look like four bytes. -/
import Derived.Test.YtiookngmgednjaaDoorAb2
import Derived.Test.YtiookngmgednjaaDoorSpec04f
namespace Go.Proofs.YtiookngmgednjaaDoor
open Go.RowKit Go.Lib Go.Proofs.Foot

set_option maxHeartbeats 4000000 in
set_option maxRecDepth 100000 in
theorem addrsNames_walk (s : ByteArray) (_hs : s.size ≤ maxLen) (z : s.size ≤ 140737488351232) (x : Int) (wx : (Lit.int .u8 x).wf = true) (t : ByteArray) (_ht : t.size ≤ maxLen) (zt : t.size ≤ 140737488351232) (w : World) (hL : laidMetH Tryd.prog Rows.addrsNamesRow.laid w) (hsh : w.ShapedOpen Tryd.prog) :
    Calls Tryd.prog 8 #[.string s, .int .u8 x, .string t] w fun e w' => e = .returned (.bool true) ∧ Below w.heap.size w w' := by
  obtain ⟨c, rfl⟩ := u8_of wx
  have G := hid (ambOf Rows.laid_strconv_ErrSyntax Rows.laid_strconv_ErrRange ⟨_, _, rfl⟩ ⟨_, _, rfl⟩ hL hsh (by kernel_rfl) (by kernel_rfl) (by kernel_rfl) (by kernel_rfl) (by kernel_rfl) (by kernel_rfl))
  clear hL hsh _hs _ht wx
  cases hb : beyond [s.size, t.size] with
  | true =>
    go_enter Tryd.func8, Tryd.ntmps8
    go_wp2_with fail
    refine (alive_any _ G.out).mono ?_
    rintro e w1 ⟨rfl, hb1⟩
    have B1 := hid hb1
    clear hb1
    go_wp2_with (go_at_call 13; refine (beyond2 _ _ _ z zt).mono ?_; rintro e w2 ⟨rfl, rfl⟩)
    have hb2 : Below w1.heap.size w1 (w1.alloc (.cells #[.int .i64 s.size, .int .i64 t.size] 3)) := (Below.refl _ _).alloc (Nat.le_refl _) _
    have B2 := hid (below_chain B1.out hb2)
    clear hb2
    refine (alive_any _ (good_below G.out B2.out)).mono ?_
    rintro e w3 ⟨rfl, hb3⟩
    have B3 := hid (below_chain B2.out hb3)
    clear hb3
    go_wp2_with fail
    go_ret
    exact ⟨rfl, B3.out⟩
  | false =>
    have hle := beyond_le (zs := [s.size, t.size]) (by rw [hb]; decide)
    have hst : s.size + t.size ≤ 1048576 := by simpa using hle
    clear hle
    have htl : t.data.toList.length = t.size := (Lib.size_eq t).symm
    have Htl := hid htl
    obtain ⟨k26, h26⟩ : ∃ k26, k26 = c.toNat % 26 := ⟨_, rfl⟩
    have hk26 : k26 < 26 := by omega
    obtain ⟨L, hL⟩ : ∃ L : UInt8, L = UInt8.ofNat (97 + k26) := ⟨_, rfl⟩
    have hLn : L.toNat = 97 + k26 := by rw [hL, UInt8.toNat_ofNat']; omega
    have e26 : (c.toNat : Int).tmod 26 = (k26 : Int) := by rw [Int.tmod_eq_emod_of_nonneg (by omega)]; omega
    have eL : IntKind.u8.wrap (97 + (k26 : Int)) = (L.toNat : Int) := by rw [show IntKind.u8.wrap (97 + (k26 : Int)) = (97 + (k26 : Int)) % 256 from rfl, hLn]; omega
    have e2 := fun W => conv1 L (W.alloc (.cells #[.int .u8 L.toNat] 5)) W.heap.size (cell1 L W)
    have hdL : digB L = false := by
      cases hd : digB L with
      | false => rfl
      | true => have := (digB_iff L).1 hd; omega
    have h48 : L ≠ 48 := fun e => by rw [e] at hLn; have : (48 : UInt8).toNat = 48 := rfl; omega
    have hL46 : L ≠ 46 := fun e => by rw [e] at hLn; have : (46 : UInt8).toNat = 46 := rfl; omega
    obtain ⟨last, hlast⟩ : ∃ last : ByteArray, last = ⟨#[L]⟩ ++ t := ⟨_, rfl⟩
    obtain ⟨sp, hsp⟩ : ∃ sp : ByteArray, sp = s ++ ⟨#[46]⟩ := ⟨_, rfl⟩
    obtain ⟨sl, hsl⟩ : ∃ sl : ByteArray, sl = sp ++ last := ⟨_, rfl⟩
    obtain ⟨slp, hslp⟩ : ∃ slp : ByteArray, slp = sl ++ ⟨#[46]⟩ := ⟨_, rfl⟩
    have zl : last.size = 1 + t.size := by rw [hlast, catZ]; rfl
    have zp : sp.size = s.size + 1 := by rw [hsp, catZ]; rfl
    have zsl : sl.size = s.size + 1 + (1 + t.size) := by rw [hsl, catZ, zp, zl]
    have zslp : slp.size = s.size + 1 + (1 + t.size) + 1 := by rw [hslp, catZ, zsl]; rfl
    have a1 := addS hlast (by show (1 : Int) ≤ _; decide) (by omega)
    have a2 := addS hsp (by omega) (by show (1 : Int) ≤ _; decide)
    have a3 := addS hsl (by omega) (by omega)
    have a4 := addS hslp (by omega) (by show (1 : Int) ≤ _; decide)
    obtain ⟨C0, hC0⟩ : ∃ C0, C0 = adrC false (noughts 16) := ⟨_, rfl⟩
    have HN : Hid ((46 : UInt8) ∉ t.data.toList → ∀ w, Amb w → Calls Tryd.prog 14 #[.string last] w (fun e w' => e = .returned (.tuple #[.agg C0, .bool false, .int .i64 0]) ∧ Below w.heap.size w w') ∧
        Calls Tryd.prog 14 #[.string sl] w (fun e w' => e = .returned (.tuple #[.agg C0, .bool false, .int .i64 0]) ∧ Below w.heap.size w w') ∧
        Calls Tryd.prog 14 #[.string slp] w (fun e w' => e = .returned (.tuple #[.agg C0, .bool false, .int .i64 0]) ∧ Below w.heap.size w w')) := hid (by
      intro hfree w A0
      have hll : last.data.toList = L :: t.data.toList := by rw [hlast, catL]; rfl
      have hf : (46 : UInt8) ∉ L :: t.data.toList := by
        intro hm
        rcases List.mem_cons.1 hm with h | h
        · exact hL46 h.symm
        · exact hfree h
      have hsll : sl.data.toList = s.data.toList ++ 46 :: (L :: t.data.toList) := by rw [hsl, catL, hsp, catL, hll]; simp
      have hslpl : slp.data.toList = s.data.toList ++ 46 :: (L :: t.data.toList) ++ [46] := by rw [hslp, catL, hsll]
      obtain ⟨p1, p2, p3⟩ := parts_name (s := s.data.toList) hf (by simp)
      rw [hC0]
      exact ⟨fourA_lit last _ false 0 (by omega) (by rw [hll]; exact four_name hdL h48 p1) w A0, fourA_lit sl _ false 0 (by omega) (by rw [hsll]; exact four_name hdL h48 p2) w A0, fourA_lit slp _ false 0 (by omega) (by rw [hslpl]; exact four_name hdL h48 p3) w A0⟩)
    have q0 : ∀ V, (binOp .eql 24 (.agg C0) (.agg C0)).run Tryd.prog V = .ok (.bool true) V := by rw [hC0]; exact adr_eql false _ rfl
    have q1 : ∀ V, (binOp .eql 24 (.agg C0) (.agg #[.bool false, .int .u8 0, .int .u8 0, .int .u8 0, .int .u8 0, .int .u8 0, .int .u8 0, .int .u8 0, .int .u8 0, .int .u8 0, .int .u8 0, .int .u8 0, .int .u8 0, .int .u8 0, .int .u8 0, .int .u8 0, .int .u8 0])).run Tryd.prog V = .ok (.bool true) V := by rw [hC0]; exact adr_eql false (noughts 16) rfl
    have z0 : Hid ((17 : Nat) = C0.size ∧ (Tryd.prog.info? 24).map (·.size) = some C0.size ∧ C0.all (·.oneCell') = true) := hid (by rw [hC0]; exact ⟨rfl, infoAdr _ rfl _, adr_one _ _⟩)
    clear h26 hL hLn hdL h48 hL46 hlast hsp hsl hslp zl zp zsl zslp hC0 htl
    go_enter Tryd.func8, Tryd.ntmps8
    go_wp2_with fail
    refine (alive_any _ G.out).mono ?_
    rintro e w1 ⟨rfl, hb1⟩
    have B1 := hid hb1
    clear hb1
    go_wp2_with fail
    refine (beyond2 _ _ _ z zt).mono ?_
    rintro e w2 ⟨rfl, rfl⟩
    have hb2 : Below w1.heap.size w1 (w1.alloc (.cells #[.int .i64 s.size, .int .i64 t.size] 3)) := (Below.refl _ _).alloc (Nat.le_refl _) _
    have B2 := hid (below_chain B1.out hb2)
    clear hb2
    generalize w1.alloc _ = w2 at *
    go_wp2_with fail
    go_loop [7] (fun iv => ∃ k : Nat, k ≤ t.size ∧ iv = .int .i64 k ∧ Hid ((46 : UInt8) ∉ t.data.toList.take k)) (fun iv => t.size - (RowKit.intOf iv).toNat)
    case atStart => exact ⟨0, Nat.zero_le _, rfl, hid (by simp)⟩
    case round =>
      obtain ⟨k, hk, rfl, hfree⟩ := hrel
      by_cases hlt : k < t.size
      · obtain ⟨d, hd⟩ : ∃ d, t[k]'hlt = d := ⟨_, rfl⟩
        have hdl : t.data.toList[k]'(by rw [Htl.out]; exact hlt) = d := hd
        have hq : ((d.toNat : Int) == 46) = (d == 46) := by
          rw [Bool.eq_iff_iff, beq_iff_eq, beq_iff_eq]
          constructor
          · intro h; exact UInt8.toNat.inj (by show d.toNat = 46; omega)
          · intro h; rw [h]; rfl
        cases hdq : (d == 46) with
        | true =>
          rw [hdq] at hq
          clear hdl hdq
          go_wp2
          go_ret
          exact ⟨rfl, B2.out⟩
        | false =>
          have Hn := hid (show (46 : UInt8) ∉ t.data.toList.take (k + 1) by
            rw [List.take_succ_eq_append_getElem (by rw [Htl.out]; exact hlt), hdl]
            intro hm
            rcases List.mem_append.1 hm with h | h
            · exact hfree.out h
            · have := List.mem_singleton.1 h
              rw [← this] at hdq
              exact absurd hdq (by decide))
          rw [hdq] at hq
          clear hdl hdq hfree
          go_wp2
          exact ⟨⟨k + 1, by omega, by go_num, Hn⟩, by simp only [RowKit.intOf]; omega⟩
      · have hfr : (46 : UInt8) ∉ t.data.toList := by
          have := hfree.out
          rwa [List.take_of_length_le (by rw [Htl.out]; omega)] at this
        have HF := hid (HN.out hfr)
        have W2 := hid (show Adrs w [] w2 from ⟨fun p hp => (by cases hp), B2.out⟩)
        clear hfr hfree hk HN
        go_wp2_with fail
        have W3 := hid (W2.out.go (Below.alloc (Below.refl _ w2) (Nat.le_refl _) (.cells #[.int .u8 L.toNat] 5)))
        generalize w2.alloc _ = w3 at *
        refine ((HF.out _ (G.out.below W3.out.below)).1).mono ?_
        rintro e w4 ⟨rfl, hb4⟩
        have U4 := hid (W3.out.go hb4)
        clear hb4
        go_wp2_with (refine wpList_store_row rfl 24 _ _ rfl w4.heap.size C0 rfl rfl _ _ (heap_alloc_new w4 _) z0.out.2.1 z0.out.1 z0.out.2.2 ?_)
        have V4 := hid (U4.out.add #[.bool false, .int .u8 0, .int .u8 0, .int .u8 0, .int .u8 0, .int .u8 0, .int .u8 0, .int .u8 0, .int .u8 0, .int .u8 0, .int .u8 0, .int .u8 0, .int .u8 0, .int .u8 0, .int .u8 0, .int .u8 0, .int .u8 0] C0)
        generalize World.setRow _ w4.heap.size C0 = v4 at *
        have W4 := hid V4.out
        refine ((HF.out _ (G.out.below W4.out.below)).2.1).mono ?_
        rintro e w5 ⟨rfl, hb5⟩
        have U5 := hid (W4.out.go hb5)
        clear hb5
        go_wp2_with (refine wpList_store_row rfl 24 _ _ rfl w5.heap.size C0 rfl rfl _ _ (heap_alloc_new w5 _) z0.out.2.1 z0.out.1 z0.out.2.2 ?_)
        have V5 := hid (U5.out.add #[.bool false, .int .u8 0, .int .u8 0, .int .u8 0, .int .u8 0, .int .u8 0, .int .u8 0, .int .u8 0, .int .u8 0, .int .u8 0, .int .u8 0, .int .u8 0, .int .u8 0, .int .u8 0, .int .u8 0, .int .u8 0, .int .u8 0] C0)
        generalize World.setRow _ w5.heap.size C0 = v5 at *
        have W5 := hid V5.out
        refine ((HF.out _ (G.out.below W5.out.below)).2.2).mono ?_
        rintro e w6 ⟨rfl, hb6⟩
        have U6 := hid (W5.out.go hb6)
        clear hb6
        go_upto_region 12 with (refine wpList_store_row rfl 24 _ _ rfl w6.heap.size C0 rfl rfl _ _ (heap_alloc_new w6 _) z0.out.2.1 z0.out.1 z0.out.2.2 ?_)
        have V6 := hid (U6.out.add #[.bool false, .int .u8 0, .int .u8 0, .int .u8 0, .int .u8 0, .int .u8 0, .int .u8 0, .int .u8 0, .int .u8 0, .int .u8 0, .int .u8 0, .int .u8 0, .int .u8 0, .int .u8 0, .int .u8 0, .int .u8 0, .int .u8 0] C0)
        generalize World.setRow _ w6.heap.size C0 = v6 at *
        have r4 := V6.out.row (w4.heap.size, C0) (by simp)
        have r5 := V6.out.row (w5.heap.size, C0) (by simp)
        have r6 := V6.out.row (w6.heap.size, C0) (by simp)
        have BB := hid V6.out.below
        go_wp2_with (first
          | (refine load_adrG (by rfl) _ rfl w4.heap.size rfl _ _ _ r4 z0.out.2.1 ?_)
          | (refine load_adrG (by rfl) _ rfl w5.heap.size rfl _ _ _ r5 z0.out.2.1 ?_)
          | (refine load_adrG (by rfl) _ rfl w6.heap.size rfl _ _ _ r6 z0.out.2.1 ?_))
        go_ret
        exact ⟨rfl, BB.out⟩
end Go.Proofs.YtiookngmgednjaaDoor
