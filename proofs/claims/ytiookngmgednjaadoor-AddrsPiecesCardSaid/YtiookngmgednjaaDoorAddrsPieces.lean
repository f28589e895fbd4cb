/- Walk of the law AddrsPieces: sixteen bytes told with all their noughts. -/
import Derived.Test.YtiookngmgednjaaDoorDg4
import Derived.Test.YtiookngmgednjaaDoorSpec04f
import Derived.Deep.Cut
import Derived.Deep.RegionHeld3
namespace Go.Proofs.YtiookngmgednjaaDoor
open Go.RowKit Go.Lib Go.Proofs.Foot

def hexS (g : Bool) : ByteArray := if g then ⟨#[48, 49, 50, 51, 52, 53, 54, 55, 56, 57, 65, 66, 67, 68, 69, 70]⟩ else ⟨#[48, 49, 50, 51, 52, 53, 54, 55, 56, 57, 97, 98, 99, 100, 101, 102]⟩
theorem hexS_slice (g : Bool) (d : Nat) (h : d < 16) (V : World) : (Instr.slice 9 (.string (hexS g)) (some (.int .u8 d)) (some (.int .u8 ((d : Int) + 1))) none).run Tryd.prog V = .ok (.string ⟨#[hxG g d]⟩) V := by
  have hz : (hexS g).size = 16 := by cases g <;> rfl
  have he : ∀ g : Bool, ∀ d < 16, ((hexS g).extract d (d + 1)).data.toList = [hxG g d] := by decide +kernel
  have e : (hexS g).extract d (d + 1) = ⟨#[hxG g d]⟩ := bytes_ext (he g d h)
  have : (Instr.slice 9 (.string (hexS g)) (some (.int .u8 d)) (some (.int .u8 ((d : Int) + 1))) none).run Tryd.prog V = .ok (.string ((hexS g).extract d (d + 1))) V := run_slice_string V _ _ _ _ _ _ Tryd.underlying9 (by omega) (by omega) (by rw [hz]; show (d : Int) + 1 ≤ 16; omega)
  rw [this, e]
/-- The text after k bytes. -/
def textG (g : Bool) (B : List UInt8) : Nat → List UInt8
  | 0 => []
  | k + 1 => textG g B k ++ ((if 0 < k ∧ k % 2 = 0 then [58] else []) ++ byteG g (B.getD k 0))
theorem textG_len (g : Bool) (B : List UInt8) (k : Nat) : (textG g B k).length ≤ 3 * k := by
  induction k with
  | zero => exact Nat.le_refl _
  | succ k ih =>
    have h1 : (if 0 < k ∧ k % 2 = 0 then [58] else ([] : List UInt8)).length ≤ 1 := by split <;> simp
    have h2 : (byteG g (B.getD k 0)).length = 2 := rfl
    rw [textG, List.length_append, List.length_append]
    omega
theorem textG_16 (g : Bool) (b0 b1 b2 b3 b4 b5 b6 b7 b8 b9 b10 b11 b12 b13 b14 b15 : UInt8) : textG g [b0, b1, b2, b3, b4, b5, b6, b7, b8, b9, b10, b11, b12, b13, b14, b15] 16 = Lib.join (pcs g b0 b1 b2 b3 b4 b5 b6 b7 b8 b9 b10 b11 ++ [pieceG g b12 b13, pieceG g b14 b15]) [58] := by
  simp only [pcs, List.cons_append, List.nil_append, join_more, Lib.join_one, pieceG]
  simp [textG]
theorem textG_12 (g : Bool) (b0 b1 b2 b3 b4 b5 b6 b7 b8 b9 b10 b11 b12 b13 b14 b15 : UInt8) : textG g [b0, b1, b2, b3, b4, b5, b6, b7, b8, b9, b10, b11, b12, b13, b14, b15] 12 ++ 58 :: dot4 b12 b13 b14 b15 = Lib.join (pcs g b0 b1 b2 b3 b4 b5 b6 b7 b8 b9 b10 b11 ++ [dot4 b12 b13 b14 b15]) [58] := by
  simp only [pcs, List.cons_append, List.nil_append, join_more, Lib.join_one, pieceG]
  simp [textG]
theorem dot4_is (a b c d : UInt8) : dot4 a b c d = baseD 10 a.toNat ++ 46 :: (baseD 10 b.toNat ++ 46 :: (baseD 10 c.toNat ++ 46 :: baseD 10 d.toNat)) := by
  unfold dot4; rw [join_more, join_more, join_more, Lib.join_one]
theorem u8w {x : Nat} (h : x < 256) : IntKind.u8.wrap (x : Int) = (x : Int) := by rw [show IntKind.u8.wrap (x : Int) = (x : Int) % 256 from rfl]; omega
set_option maxHeartbeats 4000000 in
set_option maxRecDepth 100000 in
theorem addrsPieces_at (g : Bool) (b0 b1 b2 b3 b4 b5 b6 b7 b8 b9 b10 b11 b12 b13 b14 b15 : UInt8) (x0 x1 x2 x3 x4 x5 x6 x7 x8 x9 x10 x11 x12 x13 x14 x15 : Value) (e0 : x0 = .int .u8 b0.toNat) (e1 : x1 = .int .u8 b1.toNat) (e2 : x2 = .int .u8 b2.toNat) (e3 : x3 = .int .u8 b3.toNat) (e4 : x4 = .int .u8 b4.toNat) (e5 : x5 = .int .u8 b5.toNat) (e6 : x6 = .int .u8 b6.toNat) (e7 : x7 = .int .u8 b7.toNat) (e8 : x8 = .int .u8 b8.toNat) (e9 : x9 = .int .u8 b9.toNat) (e10 : x10 = .int .u8 b10.toNat) (e11 : x11 = .int .u8 b11.toNat) (e12 : x12 = .int .u8 b12.toNat) (e13 : x13 = .int .u8 b13.toNat) (e14 : x14 = .int .u8 b14.toNat) (e15 : x15 = .int .u8 b15.toNat) (w : World) (A0 : Amb w) :
    Calls Tryd.prog 10 #[.agg #[x0, x1, x2, x3, x4, x5, x6, x7, x8, x9, x10, x11, x12, x13, x14, x15], .bool g] w fun e w' => e = .returned (.bool true) ∧ Below w.heap.size w w' := by
  obtain ⟨B, hB⟩ : ∃ B : List UInt8, B = [b0, b1, b2, b3, b4, b5, b6, b7, b8, b9, b10, b11, b12, b13, b14, b15] := ⟨_, rfl⟩
  obtain ⟨C6, hC6⟩ : ∃ C6, C6 = adrC true [b0, b1, b2, b3, b4, b5, b6, b7, b8, b9, b10, b11, b12, b13, b14, b15] := ⟨_, rfl⟩
  have H16 := hid (textG_16 g b0 b1 b2 b3 b4 b5 b6 b7 b8 b9 b10 b11 b12 b13 b14 b15)
  have H12 := hid (textG_12 g b0 b1 b2 b3 b4 b5 b6 b7 b8 b9 b10 b11 b12 b13 b14 b15)
  have HS1 : Hid (∀ S : ByteArray, S.data.toList = textG g B 16 → ∀ w, Amb w → Calls Tryd.prog 16 #[.string S] w fun e w' => e = .returned (.tuple #[.agg C6, .int .i64 0]) ∧ Below w.heap.size w w') := hid (fun S hS w A => by
    have hz : S.size ≤ 1048576 := by rw [Lib.size_eq, hS]; have := textG_len g B 16; omega
    rw [hC6]; exact sixA_lit S true _ 0 hz (by rw [hS, hB, H16.out]; exact six_full g _ _ _ _ _ _ _ _ _ _ _ _ _ _ _ _) w A)
  have HS2 : Hid (∀ S : ByteArray, S.data.toList = textG g B 12 ++ 58 :: dot4 b12 b13 b14 b15 → ∀ w, Amb w → Calls Tryd.prog 16 #[.string S] w fun e w' => e = .returned (.tuple #[.agg C6, .int .i64 0]) ∧ Below w.heap.size w w') := hid (fun S hS w A => by
    have hz : S.size ≤ 1048576 := by rw [Lib.size_eq, hS, List.length_append, List.length_cons]; have := textG_len g B 12; have := dot4_len b12 b13 b14 b15; omega
    rw [hC6]; exact sixA_lit S true _ 0 hz (by rw [hS, hB, H12.out]; exact six_tail g _ _ _ _ _ _ _ _ _ _ _ _ _ _ _ _) w A)
  have q6 : Hid (∀ V, (binOp .eql 24 (.agg C6) (.agg C6)).run Tryd.prog V = .ok (.bool true) V) := hid (by rw [hC6]; exact adr_eql true _ rfl)
  have y6 : Hid ((17 : Nat) = C6.size ∧ (Tryd.prog.info? 24).map (·.size) = some C6.size ∧ C6.all (·.oneCell') = true) := hid (by rw [hC6]; exact ⟨rfl, infoAdr _ rfl _, adr_one _ _⟩)
  have HD : Hid ((Tryd.prog.info? 22).map (·.size) = some (#[x0, x1, x2, x3, x4, x5, x6, x7, x8, x9, x10, x11, x12, x13, x14, x15] : Array Value).size) := hid (by kernel_rfl)
  have G := hid A0
  have hX6 := hid (show C6 = #[.bool true, x0, x1, x2, x3, x4, x5, x6, x7, x8, x9, x10, x11, x12, x13, x14, x15] by rw [hC6, e0, e1, e2, e3, e4, e5, e6, e7, e8, e9, e10, e11, e12, e13, e14, e15]; rfl)
  have W0 := hid (Boxed.start w #[x0, x1, x2, x3, x4, x5, x6, x7, x8, x9, x10, x11, x12, x13, x14, x15])
  obtain ⟨DD, hDD⟩ : ∃ DD : Array Value, DD = #[x0, x1, x2, x3, x4, x5, x6, x7, x8, x9, x10, x11, x12, x13, x14, x15] := ⟨_, rfl⟩
  have HB := hid (show ∀ k < 16, DD[k]? = some (.int .u8 (B.getD k 0).toNat) from by
    intro k hk
    obtain rfl | rfl | rfl | rfl | rfl | rfl | rfl | rfl | rfl | rfl | rfl | rfl | rfl | rfl | rfl | rfl : k = 0 ∨ k = 1 ∨ k = 2 ∨ k = 3 ∨ k = 4 ∨ k = 5 ∨ k = 6 ∨ k = 7 ∨ k = 8 ∨ k = 9 ∨ k = 10 ∨ k = 11 ∨ k = 12 ∨ k = 13 ∨ k = 14 ∨ k = 15 := by omega
    all_goals (rw [hDD, hB, e0, e1, e2, e3, e4, e5, e6, e7, e8, e9, e10, e11, e12, e13, e14, e15]; rfl))
  have hd12 := hid (show DD[12]? = some (.int .u8 b12.toNat) by rw [HB.out 12 (by omega), hB]; rfl)
  have hd13 := hid (show DD[13]? = some (.int .u8 b13.toNat) by rw [HB.out 13 (by omega), hB]; rfl)
  have hd14 := hid (show DD[14]? = some (.int .u8 b14.toNat) by rw [HB.out 14 (by omega), hB]; rfl)
  have hd15 := hid (show DD[15]? = some (.int .u8 b15.toNat) by rw [HB.out 15 (by omega), hB]; rfl)
  have HDD := hid hDD
  have W1 := W0
  rw [← hDD] at W1
  clear hC6 A0 hB H16 H12 hDD W0 e0 e1 e2 e3 e4 e5 e6 e7 e8 e9 e10 e11 e12 e13 e14 e15
  go_enter Tryd.func10, Tryd.ntmps10
  go_upto_region 2 with fail
  rw [← HDD.out]
  generalize w.alloc _ = w1 at *
  go_cut [14] (fun v wx => v = .bool g ∧ w1 = wx)
  case first =>
    go_wp2
    go_meet
    exact ⟨rfl, rfl⟩
  obtain ⟨rfl, rfl⟩ := hcut
  go_upto_if 14 with fail
  go_cut [5] (fun v wx => v = .string (hexS g) ∧ w1 = wx)
  case first =>
    cases g
    all_goals
      go_wp2
      go_meet
      exact ⟨rfl, rfl⟩
  case rest =>
    obtain ⟨rfl, rfl⟩ := hcut
    go_wp2_with fail
    go_loopw [6, 7, 8] (fun sv tv iv wr => ∃ (k : Nat) (S T : ByteArray), k ≤ 16 ∧ iv = .int .i64 k ∧ sv = .string S ∧ tv = .string T ∧ S.size ≤ 3 * k ∧ Hid (Boxed w [] w.heap.size DD wr ∧ S.data.toList = textG g B k ∧ T.data.toList = if 11 < k then textG g B 12 ++ 58 :: dot4 b12 b13 b14 b15 else [])) (fun _ _ iv _ => 16 - (RowKit.intOf iv).toNat)
    case atStart => exact ⟨0, ⟨#[]⟩, ⟨#[]⟩, Nat.zero_le _, rfl, rfl, rfl, Nat.le_refl _, hid ⟨W1.out, rfl, rfl⟩⟩
    case round =>
      obtain ⟨k, S, T, hk, rfl, rfl, rfl, hSz, hh⟩ := hrel
      obtain ⟨hbx, hSl, hTl⟩ := hh.out
      have Hbx := hid hbx
      have HSl := hid hSl
      have HTl := hid hTl
      clear hh hbx hSl hTl
      by_cases hlt : k < 16
      · obtain ⟨bk, hbk⟩ : ∃ bk, B.getD k 0 = bk := ⟨_, rfl⟩
        have hck : Hid (∀ W, Boxed w [] w.heap.size DD W → W.cell? ⟨w.heap.size, k, none⟩ = some (.int .u8 bk.toNat)) := hid (fun W h => h.cell (by rw [HB.out k hlt, hbk]))
        have k16 : (k : Int) < 16 := by omega
        have hb256 := bk.toNat_lt
        obtain ⟨sep, hsep⟩ : ∃ sep : List UInt8, sep = if 0 < k ∧ k % 2 = 0 then [58] else [] := ⟨_, rfl⟩
        obtain ⟨S1, hS1⟩ : ∃ S1 : ByteArray, S1.data.toList = S.data.toList ++ sep := ⟨⟨(S.data.toList ++ sep).toArray⟩, by simp⟩
        have HS1s := hid hS1
        have hsz1 : S1.size ≤ 3 * k + 1 := by
          rw [Lib.size_eq, hS1, List.length_append, ← Lib.size_eq]
          have : sep.length ≤ 1 := by rw [hsep]; split <;> simp
          omega
        go_upto_region 9 with fail
        obtain ⟨q, hq⟩ : ∃ q : Bool, q = decide (0 < k ∧ k % 2 = 0) := ⟨_, rfl⟩
        go_cut [25] (fun v wx => v = .bool q ∧ wr = wx)
        case first =>
          by_cases h0 : k = 0
          · subst h0
            clear hS1 hsep HS1s
            go_wp2
            go_meet
            exact ⟨by rw [hq]; rfl, rfl⟩
          · have k0 : (k : Int) > 0 := by omega
            by_cases h2 : k % 2 = 0
            · have r2 : (k : Int).tmod 2 = 0 := by rw [Int.tmod_eq_emod_of_nonneg (by omega)]; omega
              have hqq := hid (show q = true by rw [hq]; exact decide_eq_true ⟨by omega, h2⟩)
              clear hS1 hsep HS1s hq h2
              go_wp2
              go_meet
              exact ⟨by rw [hqq.out], rfl⟩
            · have r2 : (k : Int).tmod 2 = 1 := by rw [Int.tmod_eq_emod_of_nonneg (by omega)]; omega
              have hqq := hid (show q = false by rw [hq]; exact decide_eq_false (fun h => h2 h.2))
              clear hS1 hsep HS1s hq h2
              go_wp2
              go_meet
              exact ⟨by rw [hqq.out], rfl⟩
        obtain ⟨rfl, rfl⟩ := hcut
        go_upto_if 25 with fail
        go_cut [6] (fun v wx => v = .string S1 ∧ wr = wx)
        case first =>
          cases q with
          | true =>
            have h2 := of_decide_eq_true hq.symm
            have e1 : S1 = S ++ ⟨#[58]⟩ := bytes_ext (by rw [hS1, hsep, if_pos h2, catL])
            have a1 := addS e1 (by omega) (by show (1 : Int) ≤ _; decide)
            clear hS1 hsep HS1s e1 hq h2
            go_wp2
            go_meet
            exact ⟨rfl, rfl⟩
          | false =>
            have h2 := of_decide_eq_false hq.symm
            have e1 : S1 = S := bytes_ext (by rw [hS1, hsep, if_neg h2]; simp)
            subst e1
            clear hS1 hsep HS1s hq h2
            go_wp2
            go_meet
            exact ⟨rfl, rfl⟩
        case rest =>
          obtain ⟨rfl, rfl⟩ := hcut
          obtain ⟨d1, hd1⟩ : ∃ d1 : Nat, (bk.toNat : Int) / 16 = (d1 : Int) := ⟨bk.toNat / 16, by omega⟩
          obtain ⟨d2, hd2⟩ : ∃ d2 : Nat, (bk.toNat : Int).tmod 16 = (d2 : Int) := ⟨bk.toNat % 16, by rw [Int.tmod_eq_emod_of_nonneg (by omega)]; omega⟩
          have hd1' : d1 = bk.toNat / 16 := by omega
          have hd2' : d2 = bk.toNat % 16 := by rw [Int.tmod_eq_emod_of_nonneg (by omega)] at hd2; omega
          have hd1n : d1 < 16 := by omega
          have hd2n : d2 < 16 := by omega
          have s1 := hexS_slice g d1 hd1n
          have s2 := hexS_slice g d2 hd2n
          have v1 : IntKind.u8.wrap (d1 : Int) = (d1 : Int) := u8w (by omega)
          have v2 : IntKind.u8.wrap ((d1 : Int) + 1) = (d1 : Int) + 1 := by rw [show IntKind.u8.wrap ((d1 : Int) + 1) = ((d1 : Int) + 1) % 256 from rfl]; omega
          have v3 : IntKind.u8.wrap ((d2 : Int) + 1) = (d2 : Int) + 1 := by rw [show IntKind.u8.wrap ((d2 : Int) + 1) = ((d2 : Int) + 1) % 256 from rfl]; omega
          obtain ⟨S2, hS2⟩ : ∃ S2 : ByteArray, S2 = S1 ++ ⟨#[hxG g d1]⟩ := ⟨_, rfl⟩
          obtain ⟨S3, hS3⟩ : ∃ S3 : ByteArray, S3 = S2 ++ ⟨#[hxG g d2]⟩ := ⟨_, rfl⟩
          have z2 : S2.size = S1.size + 1 := by rw [hS2, catZ]; rfl
          have z3 : S3.size = S1.size + 1 + 1 := by rw [hS3, catZ, z2]; rfl
          have a2 := addS hS2 (by omega) (by show (1 : Int) ≤ _; decide)
          have a3 := addS hS3 (by omega) (by show (1 : Int) ≤ _; decide)
          have HS3 := hid (show S3.data.toList = textG g B (k + 1) by
            rw [hS3, catL, hS2, catL, HS1s.out, HSl.out, hsep, textG, hbk]
            unfold byteG
            rw [← hd1', ← hd2']
            simp)
          have hz3 : S3.size ≤ 3 * (k + 1) := by omega
          clear hS1 hsep HS1s hS2 hS3 hd1' hd2' hbk hb256 hq
          go_wp2_with fail
          go_region_held3 (fun W => W.cell? ⟨w.heap.size, k, none⟩ = some (.int .u8 bk.toNat) ∧ Boxed w [] w.heap.size DD W) (exact ⟨hck.out _ Hbx.out.drew, Hbx.out.drew⟩) (fail)
          rename_i w5 hH
          have B5 := hid hH.2
          clear hH s1 s2 v1 v2 v3 hd1 hd2 a2 a3
          by_cases h11 : k = 11
          · subst h11
            obtain ⟨D12, hD12⟩ : ∃ X, X = baseT 10 b12.toNat := ⟨_, rfl⟩
            obtain ⟨D13, hD13⟩ : ∃ X, X = baseT 10 b13.toNat := ⟨_, rfl⟩
            obtain ⟨D14, hD14⟩ : ∃ X, X = baseT 10 b14.toNat := ⟨_, rfl⟩
            obtain ⟨D15, hD15⟩ : ∃ X, X = baseT 10 b15.toNat := ⟨_, rfl⟩
            have n12 := b12.toNat_lt
            have n13 := b13.toNat_lt
            have n14 := b14.toNat_lt
            have n15 := b15.toNat_lt
            have C12 : Hid (∀ w, Calls Tryd.prog 20 #[.int .u32 b12.toNat, .int .u32 10] w fun e w' => e = .returned (.string D12) ∧ Below w.heap.size w w') := hid (by rw [hD12]; exact dig10_any _ (by omega))
            have C13 : Hid (∀ w, Calls Tryd.prog 20 #[.int .u32 b13.toNat, .int .u32 10] w fun e w' => e = .returned (.string D13) ∧ Below w.heap.size w w') := hid (by rw [hD13]; exact dig10_any _ (by omega))
            have C14 : Hid (∀ w, Calls Tryd.prog 20 #[.int .u32 b14.toNat, .int .u32 10] w fun e w' => e = .returned (.string D14) ∧ Below w.heap.size w w') := hid (by rw [hD14]; exact dig10_any _ (by omega))
            have C15 : Hid (∀ w, Calls Tryd.prog 20 #[.int .u32 b15.toNat, .int .u32 10] w fun e w' => e = .returned (.string D15) ∧ Below w.heap.size w w') := hid (by rw [hD15]; exact dig10_any _ (by omega))
            have zz12 : D12.size ≤ 32 := by rw [hD12]; exact baseT_32 (by omega) (by omega)
            have zz13 : D13.size ≤ 32 := by rw [hD13]; exact baseT_32 (by omega) (by omega)
            have zz14 : D14.size ≤ 32 := by rw [hD14]; exact baseT_32 (by omega) (by omega)
            have zz15 : D15.size ≤ 32 := by rw [hD15]; exact baseT_32 (by omega) (by omega)
            have l12 : D12.data.toList = baseD 10 b12.toNat := by rw [hD12]; rfl
            have l13 : D13.data.toList = baseD 10 b13.toNat := by rw [hD13]; rfl
            have l14 : D14.data.toList = baseD 10 b14.toNat := by rw [hD14]; rfl
            have l15 : D15.data.toList = baseD 10 b15.toNat := by rw [hD15]; rfl
            have u12 : IntKind.u32.wrap (b12.toNat : Int) = (b12.toNat : Int) := by rw [show IntKind.u32.wrap (b12.toNat : Int) = (b12.toNat : Int) % 4294967296 from rfl]; omega
            have u13 : IntKind.u32.wrap (b13.toNat : Int) = (b13.toNat : Int) := by rw [show IntKind.u32.wrap (b13.toNat : Int) = (b13.toNat : Int) % 4294967296 from rfl]; omega
            have u14 : IntKind.u32.wrap (b14.toNat : Int) = (b14.toNat : Int) := by rw [show IntKind.u32.wrap (b14.toNat : Int) = (b14.toNat : Int) % 4294967296 from rfl]; omega
            have u15 : IntKind.u32.wrap (b15.toNat : Int) = (b15.toNat : Int) := by rw [show IntKind.u32.wrap (b15.toNat : Int) = (b15.toNat : Int) % 4294967296 from rfl]; omega
            obtain ⟨P0, hP0⟩ : ∃ r : ByteArray, r = S3 ++ ⟨#[58]⟩ := ⟨_, rfl⟩
            obtain ⟨P1, hP1⟩ : ∃ r : ByteArray, r = P0 ++ D12 := ⟨_, rfl⟩
            obtain ⟨P2, hP2⟩ : ∃ r : ByteArray, r = P1 ++ ⟨#[46]⟩ := ⟨_, rfl⟩
            obtain ⟨P3, hP3⟩ : ∃ r : ByteArray, r = P2 ++ D13 := ⟨_, rfl⟩
            obtain ⟨P4, hP4⟩ : ∃ r : ByteArray, r = P3 ++ ⟨#[46]⟩ := ⟨_, rfl⟩
            obtain ⟨P5, hP5⟩ : ∃ r : ByteArray, r = P4 ++ D14 := ⟨_, rfl⟩
            obtain ⟨P6, hP6⟩ : ∃ r : ByteArray, r = P5 ++ ⟨#[46]⟩ := ⟨_, rfl⟩
            obtain ⟨P7, hP7⟩ : ∃ r : ByteArray, r = P6 ++ D15 := ⟨_, rfl⟩
            have p0 : P0.size ≤ 300 := by rw [hP0, catZ]; show S3.size + 1 ≤ _; omega
            have p1 : P1.size ≤ 400 := by rw [hP1, catZ]; omega
            have p2 : P2.size ≤ 500 := by rw [hP2, catZ]; show P1.size + 1 ≤ _; omega
            have p3 : P3.size ≤ 600 := by rw [hP3, catZ]; omega
            have p4 : P4.size ≤ 700 := by rw [hP4, catZ]; show P3.size + 1 ≤ _; omega
            have p5 : P5.size ≤ 800 := by rw [hP5, catZ]; omega
            have p6 : P6.size ≤ 900 := by rw [hP6, catZ]; show P5.size + 1 ≤ _; omega
            have a0 := addS hP0 (by omega) (by show (1 : Int) ≤ _; decide)
            have a1 := addS hP1 (by omega) (by omega)
            have a2 := addS hP2 (by omega) (by show (1 : Int) ≤ _; decide)
            have a3 := addS hP3 (by omega) (by omega)
            have a4 := addS hP4 (by omega) (by show (1 : Int) ≤ _; decide)
            have a5 := addS hP5 (by omega) (by omega)
            have a6 := addS hP6 (by omega) (by show (1 : Int) ≤ _; decide)
            have a7 := addS hP7 (by omega) (by omega)
            have HP7 := hid (show P7.data.toList = textG g B 12 ++ 58 :: dot4 b12 b13 b14 b15 by
              rw [hP7, catL, hP6, catL, hP5, catL, hP4, catL, hP3, catL, hP2, catL, hP1, catL, hP0, catL, HS3.out, l12, l13, l14, l15, dot4_is]
              simp)
            clear hP0 hP1 hP2 hP3 hP4 hP5 hP6 hP7 p0 p1 p2 p3 p4 p5 p6 l12 l13 l14 l15 zz12 zz13 zz14 zz15 hD12 hD13 hD14 hD15
            go_upto_region 13 with fail
            refine wp_region_held_drew (S := fun W => Boxed w [] w.heap.size DD W) (by kernel_rfl) (B5.out.drew) (fun hHeld => ?_)
            refine wpAnyH_take (i := 0) (oi := _) (v := ?_) rfl (by kernel_rfl) (by kernel_rfl) (by kernel_rfl) (fun _ _ _ h => h) (Or.inl ⟨by rfl, ?_⟩) (by assumption) ?_
            rotate_left
            · intro W hSw
              go_simp
              try (with_reducible rfl)
            try simp only [Act.put, List.getElem_toArray, List.getElem_cons_zero, List.setIfInBounds_toArray, List.set_cons_zero, List.set_cons_succ]
            refine wpAnyH_take (i := 1) (oi := _) (v := ?_) rfl (by kernel_rfl) (by kernel_rfl) (by kernel_rfl) (fun _ _ _ h => h) (Or.inl ⟨by rfl, ?_⟩) (by assumption) ?_
            rotate_left
            · intro W hSw
              go_simp
              try (with_reducible rfl)
            try simp only [Act.put, List.getElem_toArray, List.getElem_cons_succ, List.getElem_cons_zero, List.setIfInBounds_toArray, List.set_cons_zero, List.set_cons_succ]
            refine wpAnyH_take (i := 2) (oi := _) (v := ?_) rfl (by kernel_rfl) (by kernel_rfl) (by kernel_rfl) (fun _ _ _ h => h) (Or.inl ⟨by rfl, ?_⟩) (by assumption) ?_
            rotate_left
            · intro W hSw
              go_simp
              try (with_reducible rfl)
            try simp only [Act.put, List.getElem_toArray, List.getElem_cons_succ, List.getElem_cons_zero, List.setIfInBounds_toArray, List.set_cons_zero, List.set_cons_succ]
            refine wpAnyH_take (i := 3) (oi := _) (v := _) rfl (by kernel_rfl) (by kernel_rfl) (by kernel_rfl) (fun _ _ _ h => h) (yields_byte (by rfl) _ rfl rfl hd12.out) (by assumption) ?_
            try simp only [Act.put, List.getElem_toArray, List.getElem_cons_succ, List.getElem_cons_zero, List.setIfInBounds_toArray, List.set_cons_zero, List.set_cons_succ]
            refine wpAnyH_take (i := 4) (oi := _) (v := ?_) rfl (by kernel_rfl) (by kernel_rfl) (by kernel_rfl) (fun _ _ _ h => h) (Or.inl ⟨by rfl, ?_⟩) (by assumption) ?_
            rotate_left
            · intro W hSw
              go_simp
              try (with_reducible rfl)
            try simp only [Act.put, List.getElem_toArray, List.getElem_cons_succ, List.getElem_cons_zero, List.setIfInBounds_toArray, List.set_cons_zero, List.set_cons_succ]
            refine wpAnyH_take (i := 8) (oi := _) (v := ?_) rfl (by kernel_rfl) (by kernel_rfl) (by kernel_rfl) (fun _ _ _ h => h) (Or.inl ⟨by rfl, ?_⟩) (by assumption) ?_
            rotate_left
            · intro W hSw
              go_simp
              try (with_reducible rfl)
            try simp only [Act.put, List.getElem_toArray, List.getElem_cons_succ, List.getElem_cons_zero, List.setIfInBounds_toArray, List.set_cons_zero, List.set_cons_succ]
            refine wpAnyH_take (i := 9) (oi := _) (v := _) rfl (by kernel_rfl) (by kernel_rfl) (by kernel_rfl) (fun _ _ _ h => h) (yields_byte (by rfl) _ rfl rfl hd13.out) (by assumption) ?_
            try simp only [Act.put, List.getElem_toArray, List.getElem_cons_succ, List.getElem_cons_zero, List.setIfInBounds_toArray, List.set_cons_zero, List.set_cons_succ]
            refine wpAnyH_take (i := 10) (oi := _) (v := ?_) rfl (by kernel_rfl) (by kernel_rfl) (by kernel_rfl) (fun _ _ _ h => h) (Or.inl ⟨by rfl, ?_⟩) (by assumption) ?_
            rotate_left
            · intro W hSw
              go_simp
              try (with_reducible rfl)
            try simp only [Act.put, List.getElem_toArray, List.getElem_cons_succ, List.getElem_cons_zero, List.setIfInBounds_toArray, List.set_cons_zero, List.set_cons_succ]
            refine wpAnyH_take (i := 14) (oi := _) (v := ?_) rfl (by kernel_rfl) (by kernel_rfl) (by kernel_rfl) (fun _ _ _ h => h) (Or.inl ⟨by rfl, ?_⟩) (by assumption) ?_
            rotate_left
            · intro W hSw
              go_simp
              try (with_reducible rfl)
            try simp only [Act.put, List.getElem_toArray, List.getElem_cons_succ, List.getElem_cons_zero, List.setIfInBounds_toArray, List.set_cons_zero, List.set_cons_succ]
            refine wpAnyH_take (i := 15) (oi := _) (v := _) rfl (by kernel_rfl) (by kernel_rfl) (by kernel_rfl) (fun _ _ _ h => h) (yields_byte (by rfl) _ rfl rfl hd14.out) (by assumption) ?_
            try simp only [Act.put, List.getElem_toArray, List.getElem_cons_succ, List.getElem_cons_zero, List.setIfInBounds_toArray, List.set_cons_zero, List.set_cons_succ]
            refine wpAnyH_take (i := 16) (oi := _) (v := ?_) rfl (by kernel_rfl) (by kernel_rfl) (by kernel_rfl) (fun _ _ _ h => h) (Or.inl ⟨by rfl, ?_⟩) (by assumption) ?_
            rotate_left
            · intro W hSw
              go_simp
              try (with_reducible rfl)
            try simp only [Act.put, List.getElem_toArray, List.getElem_cons_succ, List.getElem_cons_zero, List.setIfInBounds_toArray, List.set_cons_zero, List.set_cons_succ]
            refine wpAnyH_take (i := 20) (oi := _) (v := ?_) rfl (by kernel_rfl) (by kernel_rfl) (by kernel_rfl) (fun _ _ _ h => h) (Or.inl ⟨by rfl, ?_⟩) (by assumption) ?_
            rotate_left
            · intro W hSw
              go_simp
              try (with_reducible rfl)
            try simp only [Act.put, List.getElem_toArray, List.getElem_cons_succ, List.getElem_cons_zero, List.setIfInBounds_toArray, List.set_cons_zero, List.set_cons_succ]
            refine wpAnyH_take (i := 21) (oi := _) (v := _) rfl (by kernel_rfl) (by kernel_rfl) (by kernel_rfl) (fun _ _ _ h => h) (yields_byte (by rfl) _ rfl rfl hd15.out) (by assumption) ?_
            try simp only [Act.put, List.getElem_toArray, List.getElem_cons_succ, List.getElem_cons_zero, List.setIfInBounds_toArray, List.set_cons_zero, List.set_cons_succ]
            refine wpAnyH_take (i := 22) (oi := _) (v := ?_) rfl (by kernel_rfl) (by kernel_rfl) (by kernel_rfl) (fun _ _ _ h => h) (Or.inl ⟨by rfl, ?_⟩) (by assumption) ?_
            rotate_left
            · intro W hSw
              go_simp
              try (with_reducible rfl)
            try simp only [Act.put, List.getElem_toArray, List.getElem_cons_succ, List.getElem_cons_zero, List.setIfInBounds_toArray, List.set_cons_zero, List.set_cons_succ]
            refine wpAnyH_ready (rs := [5]) (by kernel_rfl) (by simp) ?_
            refine AllReadyH.cons (o := _) rfl (fun K hK => ?_) AllReadyH.nil
            go_simp
            refine (C12.out _).mono ?_
            rintro e u5 ⟨rfl, hb5⟩
            have hS5 := Boxed.go hHeld hb5
            clear hb5 hHeld
            go_wp2_with fail
            refine hK.out _ _ hS5 (fun hHeld => ?_)
            clear hK K
            try simp only [Act.put, List.getElem_toArray, List.getElem_cons_succ, List.getElem_cons_zero, List.setIfInBounds_toArray, List.set_cons_zero, List.set_cons_succ]
            refine wpAnyH_take (i := 6) (oi := _) (v := ?_) rfl (by kernel_rfl) (by kernel_rfl) (by kernel_rfl) (fun _ _ _ h => h) (Or.inl ⟨by rfl, ?_⟩) (by assumption) ?_
            rotate_left
            · intro W hSw
              go_simp
              try (with_reducible rfl)
            try simp only [Act.put, List.getElem_toArray, List.getElem_cons_succ, List.getElem_cons_zero, List.setIfInBounds_toArray, List.set_cons_zero, List.set_cons_succ]
            refine wpAnyH_take (i := 7) (oi := _) (v := ?_) rfl (by kernel_rfl) (by kernel_rfl) (by kernel_rfl) (fun _ _ _ h => h) (Or.inl ⟨by rfl, ?_⟩) (by assumption) ?_
            rotate_left
            · intro W hSw
              go_simp
              try (with_reducible rfl)
            try simp only [Act.put, List.getElem_toArray, List.getElem_cons_succ, List.getElem_cons_zero, List.setIfInBounds_toArray, List.set_cons_zero, List.set_cons_succ]
            refine wpAnyH_ready (rs := [11]) (by kernel_rfl) (by simp) ?_
            refine AllReadyH.cons (o := _) rfl (fun K hK => ?_) AllReadyH.nil
            go_simp
            refine (C13.out _).mono ?_
            rintro e u11 ⟨rfl, hb11⟩
            have hS11 := Boxed.go hHeld hb11
            clear hb11 hHeld
            go_wp2_with fail
            refine hK.out _ _ hS11 (fun hHeld => ?_)
            clear hK K
            try simp only [Act.put, List.getElem_toArray, List.getElem_cons_succ, List.getElem_cons_zero, List.setIfInBounds_toArray, List.set_cons_zero, List.set_cons_succ]
            refine wpAnyH_take (i := 12) (oi := _) (v := ?_) rfl (by kernel_rfl) (by kernel_rfl) (by kernel_rfl) (fun _ _ _ h => h) (Or.inl ⟨by rfl, ?_⟩) (by assumption) ?_
            rotate_left
            · intro W hSw
              go_simp
              try (with_reducible rfl)
            try simp only [Act.put, List.getElem_toArray, List.getElem_cons_succ, List.getElem_cons_zero, List.setIfInBounds_toArray, List.set_cons_zero, List.set_cons_succ]
            refine wpAnyH_take (i := 13) (oi := _) (v := ?_) rfl (by kernel_rfl) (by kernel_rfl) (by kernel_rfl) (fun _ _ _ h => h) (Or.inl ⟨by rfl, ?_⟩) (by assumption) ?_
            rotate_left
            · intro W hSw
              go_simp
              try (with_reducible rfl)
            try simp only [Act.put, List.getElem_toArray, List.getElem_cons_succ, List.getElem_cons_zero, List.setIfInBounds_toArray, List.set_cons_zero, List.set_cons_succ]
            refine wpAnyH_ready (rs := [17]) (by kernel_rfl) (by simp) ?_
            refine AllReadyH.cons (o := _) rfl (fun K hK => ?_) AllReadyH.nil
            go_simp
            refine (C14.out _).mono ?_
            rintro e u17 ⟨rfl, hb17⟩
            have hS17 := Boxed.go hHeld hb17
            clear hb17 hHeld
            go_wp2_with fail
            refine hK.out _ _ hS17 (fun hHeld => ?_)
            clear hK K
            try simp only [Act.put, List.getElem_toArray, List.getElem_cons_succ, List.getElem_cons_zero, List.setIfInBounds_toArray, List.set_cons_zero, List.set_cons_succ]
            refine wpAnyH_take (i := 18) (oi := _) (v := ?_) rfl (by kernel_rfl) (by kernel_rfl) (by kernel_rfl) (fun _ _ _ h => h) (Or.inl ⟨by rfl, ?_⟩) (by assumption) ?_
            rotate_left
            · intro W hSw
              go_simp
              try (with_reducible rfl)
            try simp only [Act.put, List.getElem_toArray, List.getElem_cons_succ, List.getElem_cons_zero, List.setIfInBounds_toArray, List.set_cons_zero, List.set_cons_succ]
            refine wpAnyH_take (i := 19) (oi := _) (v := ?_) rfl (by kernel_rfl) (by kernel_rfl) (by kernel_rfl) (fun _ _ _ h => h) (Or.inl ⟨by rfl, ?_⟩) (by assumption) ?_
            rotate_left
            · intro W hSw
              go_simp
              try (with_reducible rfl)
            try simp only [Act.put, List.getElem_toArray, List.getElem_cons_succ, List.getElem_cons_zero, List.setIfInBounds_toArray, List.set_cons_zero, List.set_cons_succ]
            refine wpAnyH_ready (rs := [23]) (by kernel_rfl) (by simp) ?_
            refine AllReadyH.cons (o := _) rfl (fun K hK => ?_) AllReadyH.nil
            go_simp
            refine (C15.out _).mono ?_
            rintro e u23 ⟨rfl, hb23⟩
            have hS23 := Boxed.go hHeld hb23
            clear hb23 hHeld
            go_wp2_with fail
            refine hK.out _ _ hS23 (fun hHeld => ?_)
            clear hK K
            try simp only [Act.put, List.getElem_toArray, List.getElem_cons_succ, List.getElem_cons_zero, List.setIfInBounds_toArray, List.set_cons_zero, List.set_cons_succ]
            refine wpAnyH_take (i := 24) (oi := _) (v := ?_) rfl (by kernel_rfl) (by kernel_rfl) (by kernel_rfl) (fun _ _ _ h => h) (Or.inl ⟨by rfl, ?_⟩) (by assumption) ?_
            rotate_left
            · intro W hSw
              go_simp
              try (with_reducible rfl)
            try simp only [Act.put, List.getElem_toArray, List.getElem_cons_succ, List.getElem_cons_zero, List.setIfInBounds_toArray, List.set_cons_zero, List.set_cons_succ]
            refine wpAnyH_take (i := 25) (oi := _) (v := ?_) rfl (by kernel_rfl) (by kernel_rfl) (by kernel_rfl) (fun _ _ _ h => h) (Or.inl ⟨by rfl, ?_⟩) (by assumption) ?_
            rotate_left
            · intro W hSw
              go_simp
              try (with_reducible rfl)
            try simp only [Act.put, List.getElem_toArray, List.getElem_cons_succ, List.getElem_cons_zero, List.setIfInBounds_toArray, List.set_cons_zero, List.set_cons_succ]
            refine wpAnyH_done (by kernel_rfl) ?_ _
            have B6 := hid hHeld
            clear hHeld
            go_wp2
            exact ⟨⟨11 + 1, S3, P7, by omega, by go_num, rfl, rfl, hz3, hid ⟨B6.out, HS3.out, by rw [if_pos (by omega)]; exact HP7.out⟩⟩, by simp only [RowKit.intOf]; omega⟩
          · have n11 : ((k : Int) == 11) = false := by rw [beq_eq_false_iff_ne]; omega
            have HT2 := hid (show T.data.toList = if 11 < k + 1 then textG g B 12 ++ 58 :: dot4 b12 b13 b14 b15 else [] by
              rw [HTl.out]
              by_cases h : 11 < k
              · rw [if_pos h, if_pos (by omega)]
              · rw [if_neg h, if_neg (by omega)])
            go_wp2
            exact ⟨⟨k + 1, S3, T, by omega, by go_num, rfl, rfl, hz3, hid ⟨B5.out, HS3.out, HT2.out⟩⟩, by simp only [RowKit.intOf]; omega⟩
      · obtain rfl : k = 16 := by omega
        have hT2 := HTl.out
        rw [if_pos (by omega)] at hT2
        have CS := hid (HS1.out S HSl.out)
        have CT := hid (HS2.out T hT2)
        clear hT2 HSl HTl HS1 HS2 hlt hk hSz
        go_wp2_with fail
        refine (CS.out _ (G.out.below Hbx.out.adr.below)).mono ?_
        rintro e w4 ⟨rfl, hb4⟩
        have U4 := hid (Hbx.out.go hb4)
        clear hb4
        go_wp2_with (refine wpList_store_row rfl 24 _ _ rfl w4.heap.size C6 rfl rfl _ _ (heap_alloc_new w4 _) y6.out.2.1 y6.out.1 y6.out.2.2 ?_)
        have V4 := hid (U4.out.add #[.bool false, .int .u8 0, .int .u8 0, .int .u8 0, .int .u8 0, .int .u8 0, .int .u8 0, .int .u8 0, .int .u8 0, .int .u8 0, .int .u8 0, .int .u8 0, .int .u8 0, .int .u8 0, .int .u8 0, .int .u8 0, .int .u8 0] C6)
        generalize World.setRow _ w4.heap.size C6 = v4 at *
        have W4 := hid V4.out
        refine (CT.out _ (G.out.below W4.out.adr.below)).mono ?_
        rintro e w5 ⟨rfl, hb5⟩
        have U5 := hid (W4.out.go hb5)
        clear hb5
        go_upto_region 16 with (refine wpList_store_row rfl 24 _ _ rfl w5.heap.size C6 rfl rfl _ _ (heap_alloc_new w5 _) y6.out.2.1 y6.out.1 y6.out.2.2 ?_)
        have V5 := hid (U5.out.add #[.bool false, .int .u8 0, .int .u8 0, .int .u8 0, .int .u8 0, .int .u8 0, .int .u8 0, .int .u8 0, .int .u8 0, .int .u8 0, .int .u8 0, .int .u8 0, .int .u8 0, .int .u8 0, .int .u8 0, .int .u8 0, .int .u8 0] C6)
        generalize World.setRow _ w5.heap.size C6 = v5 at *
        have W5 := hid V5.out
        have hr := W5.out.box
        rw [HDD.out] at hr
        have y7 := y6.out
        rw [hX6.out] at y7
        go_upto_region 17 with (first
          | (refine wpList_load_row rfl 22 _ rfl w.heap.size rfl _ _ _ _ hr Tryd.underlying22 rfl HD.out ?_)
          | (refine wpList_store_row rfl 24 _ _ rfl v5.heap.size #[.bool true, x0, x1, x2, x3, x4, x5, x6, x7, x8, x9, x10, x11, x12, x13, x14, x15] rfl rfl _ _ (heap_alloc_new v5 _) y7.2.1 y7.1 y7.2.2 ?_))
        rw [← hX6.out]
        clear hr y7
        have V6 := hid (W5.out.add #[.bool false, .int .u8 0, .int .u8 0, .int .u8 0, .int .u8 0, .int .u8 0, .int .u8 0, .int .u8 0, .int .u8 0, .int .u8 0, .int .u8 0, .int .u8 0, .int .u8 0, .int .u8 0, .int .u8 0, .int .u8 0, .int .u8 0] C6)
        generalize World.setRow _ v5.heap.size C6 = v6 at *
        have e6 := q6.out
        clear W1 W4 W5 U4 U5 V4 V5 CS CT Hbx
        go_wp2_with fail
        refine (alive_any _ (G.out.below V6.out.adr.below)).mono ?_
        rintro e w7 ⟨rfl, hb7⟩
        have V7 := hid (V6.out.go hb7)
        clear hb7 V6
        have r4 := V7.out.adr.row (w4.heap.size, C6) (by simp)
        have r5 := V7.out.adr.row (w5.heap.size, C6) (by simp)
        have r6 := V7.out.adr.row (v5.heap.size, C6) (by simp)
        have BB := hid V7.out.adr.below
        go_wp2_with (first
          | (refine load_adrG (by rfl) _ rfl w4.heap.size rfl _ _ _ r4 y6.out.2.1 ?_)
          | (refine load_adrG (by rfl) _ rfl w5.heap.size rfl _ _ _ r5 y6.out.2.1 ?_)
          | (refine load_adrG (by rfl) _ rfl v5.heap.size rfl _ _ _ r6 y6.out.2.1 ?_))
        go_ret
        exact ⟨rfl, BB.out⟩
theorem addrsPieces_walk (l : List Int) (hl : l.length = 16) (wl : ∀ i ∈ l, (Lit.int .u8 i).wf = true) (g : Bool) (w : World) (hL : laidMetH Tryd.prog Rows.addrsPiecesRow.laid w) (hsh : w.ShapedOpen Tryd.prog) :
    Calls Tryd.prog 10 #[.agg ⟨l.map (Value.int .u8)⟩, .bool g] w fun e w' => e = .returned (.bool true) ∧ Below w.heap.size w w' := by
  have A0 := ambOf Rows.laid_strconv_ErrSyntax Rows.laid_strconv_ErrRange ⟨_, _, rfl⟩ ⟨_, _, rfl⟩ hL hsh (by kernel_rfl) (by kernel_rfl) (by kernel_rfl) (by kernel_rfl) (by kernel_rfl) (by kernel_rfl)
  obtain ⟨b0, b1, b2, b3, b4, b5, b6, b7, b8, b9, b10, b11, b12, b13, b14, b15, e⟩ := sixteen_of hl wl
  rw [e]
  exact addrsPieces_at g b0 b1 b2 b3 b4 b5 b6 b7 b8 b9 b10 b11 b12 b13 b14 b15 _ _ _ _ _ _ _ _ _ _ _ _ _ _ _ _ rfl rfl rfl rfl rfl rfl rfl rfl rfl rfl rfl rfl rfl rfl rfl rfl w A0
end Go.Proofs.YtiookngmgednjaaDoor
