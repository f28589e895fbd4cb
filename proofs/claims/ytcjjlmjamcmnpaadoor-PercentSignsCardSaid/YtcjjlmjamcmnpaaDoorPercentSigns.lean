/- Walk of the law PercentSigns: three signs are the byte that they tell. -/
import Derived.Test.YtcjjlmjamcmnpaaDoorAlive
import Derived.Test.YtcjjlmjamcmnpaaDoorApp
import Derived.IntWalk
namespace Go.Proofs.YtcjjlmjamcmnpaaDoor
open Go.RowKit Go.Lib Go.Proofs.Foot

theorem cat_list' (s t : ByteArray) : (s ++ t).data.toList = s.data.toList ++ t.data.toList := by simp [ByteArray.data_append]
/-- 'string(b)', b a row of one known byte. -/
theorem conv1 (c : UInt8) (W : World) (g : Nat) (hc : W.cell? ⟨g, 0, none⟩ = some (.int .u8 c.toNat)) :
    (convert 32 9 (.slice (some ⟨g, 0, none⟩) 1 1)).run Tryd.prog W = .ok (.string ⟨#[c]⟩) W :=
  run_convert_bytes_back (P := Tryd.prog) W 32 9 5 ⟨g, 0, none⟩ 1 [c] Tryd.underlying32 Tryd.underlying5 Tryd.underlying9 (fun j hj => by
    obtain rfl : j = 0 := by simp at hj; omega
    exact hc)
theorem cell1 (c : UInt8) (W : World) : (W.alloc (.cells #[.int .u8 c.toNat] 5)).cell? ⟨W.heap.size, 0, none⟩ = some (.int .u8 c.toNat) := by
  rw [World.cell?_alloc_at _ _ _ _ rfl]; rfl

/-- A text whose single bytes are the digits in hexadecimal. -/
def DigText (A : ByteArray) : Prop := ∀ i < 16, ∃ a : UInt8, (A.extract i (i + 1)).data.toList = [a] ∧ hexI a = i
theorem dig_small : DigText ⟨#[48, 49, 50, 51, 52, 53, 54, 55, 56, 57, 97, 98, 99, 100, 101, 102]⟩ := fun i hi => by
  have := all_nib (fun i => decide (((⟨#[48, 49, 50, 51, 52, 53, 54, 55, 56, 57, 97, 98, 99, 100, 101, 102]⟩ : ByteArray).extract i (i + 1)).data.toList = [loHex i])) (by decide +kernel) hi
  exact ⟨loHex i, by simpa using this, hexI_loHex hi⟩
theorem dig_great : DigText ⟨#[48, 49, 50, 51, 52, 53, 54, 55, 56, 57, 65, 66, 67, 68, 69, 70]⟩ := fun i hi => by
  have := all_nib (fun i => decide (((⟨#[48, 49, 50, 51, 52, 53, 54, 55, 56, 57, 65, 66, 67, 68, 69, 70]⟩ : ByteArray).extract i (i + 1)).data.toList = [upHex i])) (by decide +kernel) hi
  exact ⟨upHex i, by simpa using this, hexI_upHex hi⟩
theorem signs_is {W : World} (hG : Good W) {A B : ByteArray} (hA : DigText A) (hB : DigText B) (c : UInt8) (t DT : ByteArray) (ht : t.size ≤ 1048576) (hDT : dec t.data.toList = DT.data.toList) :
    Calls Tryd.prog 10 #[.string (⟨#[37]⟩ ++ A.extract (c.toNat / 16) (c.toNat / 16 + 1) ++ B.extract (c.toNat % 16) (c.toNat % 16 + 1) ++ t)] W fun e w' => e = .returned (.string (⟨#[c]⟩ ++ DT)) ∧ Below W.heap.size W w' := by
  have h256 := c.toNat_lt
  obtain ⟨a, ha, hxa⟩ := hA (c.toNat / 16) (by omega)
  obtain ⟨b, hb, hxb⟩ := hB (c.toNat % 16) (by omega)
  have hl : (⟨#[37]⟩ ++ A.extract (c.toNat / 16) (c.toNat / 16 + 1) ++ B.extract (c.toNat % 16) (c.toNat % 16 + 1) ++ t : ByteArray).data.toList = 37 :: a :: b :: t.data.toList := by
    rw [cat_list', cat_list', cat_list', ha, hb]; rfl
  refine decode_is hG _ ?_ _ ?_
  · rw [Lib.size_eq, hl]; have := Lib.size_eq t; simp only [List.length_cons]; omega
  · rw [hl, dec_signs hxa hxb, hDT, cat_list']; rfl

set_option maxHeartbeats 12000000 in
set_option maxRecDepth 100000 in
theorem percentSigns_walk (x : Int) (wx : (Lit.int .u8 x).wf = true) (t : ByteArray) (_ht : t.size ≤ maxLen) (zt : t.size ≤ 140737488351232) (w : World) (hL : laidMetH Tryd.prog Rows.percentSignsRow.laid w) (hsh : w.ShapedOpen Tryd.prog) :
    Calls Tryd.prog 8 #[.int .u8 x, .string t] w fun e w' => e = .returned (.bool true) ∧ Below w.heap.size w w' := by
  obtain ⟨c, rfl⟩ := u8_of wx
  have G := hid (good_of hL (by kernel_rfl) hsh)
  clear hL hsh wx _ht
  cases hb : beyond [t.size] with
  | true =>
    go_enter Tryd.func8, Tryd.ntmps8
    go_wp2_with fail
    refine (alive_any _ G.out).mono ?_
    rintro e w1 ⟨rfl, hb1⟩
    have B1 := hid hb1
    have G1 := hid (G.out.below hb1)
    clear hb1
    go_wp2_with (go_at_call 9; refine (beyond1 _ _ zt).mono ?_; rintro e w2 ⟨rfl, rfl⟩)
    have hb2 : Below w1.heap.size w1 (w1.alloc (.cells #[.int .i64 t.size] 3)) := (Below.refl _ _).alloc (Nat.le_refl _) _
    refine (alive_any _ (G1.out.below hb2)).mono ?_
    rintro e w3 ⟨rfl, hb3⟩
    have B3 := hid (below_chain (below_chain B1.out hb2) hb3)
    clear hb2 hb3
    go_wp2_with fail
    go_ret
    exact ⟨rfl, B3.out⟩
  | false =>
    have hle := beyond_le (zs := [t.size]) (by rw [hb]; decide)
    have ht : t.size ≤ 1048576 := by simpa using hle
    obtain ⟨DT, hDT⟩ : ∃ T : ByteArray, dec t.data.toList = T.data.toList := ⟨⟨(dec t.data.toList).toArray⟩, by simp⟩
    have l4 := dec_length t.data.toList
    rw [hDT, ← Lib.size_eq, ← Lib.size_eq] at l4
    have hDs : DT.size ≤ 1048576 := by omega
    have hc1 : (⟨#[c]⟩ : ByteArray).size = 1 := rfl
    have HDT := hid hDT
    clear hle hDT l4
    go_enter Tryd.func8, Tryd.ntmps8
    go_wp2_with fail
    refine (alive_any _ G.out).mono ?_
    rintro e w1 ⟨rfl, hb1⟩
    have B1 := hid hb1
    have G1 := hid (G.out.below hb1)
    clear hb1
    go_wp2_with (go_at_call 9; refine (beyond1 _ _ zt).mono ?_; rintro e w2 ⟨rfl, rfl⟩)
    have hb2 : Below w1.heap.size w1 (w1.alloc (.cells #[.int .i64 t.size] 3)) := (Below.refl _ _).alloc (Nat.le_refl _) _
    have B2 := hid (below_chain B1.out hb2)
    have G2 := hid (G1.out.below hb2)
    clear hb2 hb
    generalize w1.alloc _ = w2 at *
    have Hd : Hid (∀ W, Below w2.heap.size w2 W → Calls Tryd.prog 10 #[.string t] W fun e w' => e = .returned (.string DT) ∧ Below W.heap.size W w') := hid (fun W hW => decode_is (G2.out.below hW) t (by omega) DT HDT.out)
    have e1 := conv1 c ((w2.alloc (.cells #[.int .u8 c.toNat] 5)).drew) w2.heap.size (cell1 c w2)
    have e2 := fun W => conv1 c (W.alloc (.cells #[.int .u8 c.toNat] 5)) W.heap.size (cell1 c W)
    go_region_with (go_at_call 10; refine (Hd.out _ (by first | exact Below.drew (Below.refl _ _) | exact Below.drew ((Below.refl _ _).alloc (Nat.le_refl _) _) | exact ((Below.refl _ _).drew).alloc (Nat.le_refl _) _)).mono ?_; rintro e w3 ⟨rfl, hb3⟩; try (have e3 := conv1 c w3 w2.heap.size ((hb3.cell (by show w2.heap.size < (w2.alloc _).heap.size; simp)).trans (cell1 c w2))))
    all_goals go_wp2
    all_goals (have HB3 := hid hb3; clear hb3 e2)
    all_goals
      go_loopw [8] (fun i wr => ∃ k : Nat, k ≤ 4 ∧ i = .int .i64 k ∧ Hid (Below w.heap.size w wr)) (fun i _ => 4 - (RowKit.intOf i).toNat)
      case atStart =>
        refine ⟨0, by omega, rfl, hid (below_chain B2.out ?_)⟩
        have hb3 := HB3.out
        first
          | exact ((Below.refl _ _).alloc (Nat.le_refl _) _).drew.trans (hb3.mono (by show w2.heap.size ≤ (w2.alloc _).heap.size; simp))
          | exact ((Below.refl _ w2).drew.trans hb3).alloc hb3.size _
          | exact ((Below.refl _ w2).drew.trans hb3)
      case round =>
        obtain ⟨k, hk, rfl, hbel⟩ := hrel
        have hk4 : k = 0 ∨ k = 1 ∨ k = 2 ∨ k = 3 ∨ k = 4 := by omega
        have c256 := c.toNat_lt
        rcases hk4 with rfl | rfl | rfl | rfl | rfl
        · have Hs := hid (fun W (hb : Below wr.heap.size wr W) => signs_is ((G.out.below hbel.out).below hb) dig_small dig_small c t DT ht HDT.out)
          go_wp2
          have q1 : IntKind.u8.wrap ((c.toNat : Int) / 16) = (c.toNat : Int) / 16 := IntWalk.u8_in _ (by omega)
          have q2 : IntKind.u8.wrap ((c.toNat : Int) / 16 + 1) = (c.toNat : Int) / 16 + 1 := IntWalk.u8_in _ (by omega)
          have q3 : (c.toNat : Int).tmod 16 = (c.toNat : Int) % 16 := Int.tmod_eq_emod_of_nonneg (by omega)
          have q4 : IntKind.u8.wrap ((c.toNat : Int) % 16 + 1) = (c.toNat : Int) % 16 + 1 := IntWalk.u8_in _ (by omega)
          have s1 : 0 ≤ (c.toNat : Int) / 16 ∧ (c.toNat : Int) / 16 ≤ (c.toNat : Int) / 16 + 1 ∧ (c.toNat : Int) / 16 + 1 ≤ 16 := by omega
          have s2 : 0 ≤ (c.toNat : Int) % 16 ∧ (c.toNat : Int) % 16 ≤ (c.toNat : Int) % 16 + 1 ∧ (c.toNat : Int) % 16 + 1 ≤ 16 := by omega
          go_region_with (go_at_call 10; refine (Hs.out _ (Below.refl _ wr).drew).mono ?_; rintro e w5 ⟨rfl, hb5⟩)
          all_goals clear q1 q2 q3 q4 s1 s2
          all_goals go_wp2
          all_goals go_roundw
          all_goals first
            | exact ⟨1, by omega, rfl, hid (below_chain hbel.out ((Below.refl _ wr).drew.trans hb5))⟩
            | (simp [RowKit.intOf])
        · have Hs := hid (fun W (hb : Below wr.heap.size wr W) => signs_is ((G.out.below hbel.out).below hb) dig_great dig_small c t DT ht HDT.out)
          go_wp2
          have q1 : IntKind.u8.wrap ((c.toNat : Int) / 16) = (c.toNat : Int) / 16 := IntWalk.u8_in _ (by omega)
          have q2 : IntKind.u8.wrap ((c.toNat : Int) / 16 + 1) = (c.toNat : Int) / 16 + 1 := IntWalk.u8_in _ (by omega)
          have q3 : (c.toNat : Int).tmod 16 = (c.toNat : Int) % 16 := Int.tmod_eq_emod_of_nonneg (by omega)
          have q4 : IntKind.u8.wrap ((c.toNat : Int) % 16 + 1) = (c.toNat : Int) % 16 + 1 := IntWalk.u8_in _ (by omega)
          have s1 : 0 ≤ (c.toNat : Int) / 16 ∧ (c.toNat : Int) / 16 ≤ (c.toNat : Int) / 16 + 1 ∧ (c.toNat : Int) / 16 + 1 ≤ 16 := by omega
          have s2 : 0 ≤ (c.toNat : Int) % 16 ∧ (c.toNat : Int) % 16 ≤ (c.toNat : Int) % 16 + 1 ∧ (c.toNat : Int) % 16 + 1 ≤ 16 := by omega
          go_region_with (go_at_call 10; refine (Hs.out _ (Below.refl _ wr).drew).mono ?_; rintro e w5 ⟨rfl, hb5⟩)
          all_goals clear q1 q2 q3 q4 s1 s2
          all_goals go_wp2
          all_goals go_roundw
          all_goals first
            | exact ⟨2, by omega, rfl, hid (below_chain hbel.out ((Below.refl _ wr).drew.trans hb5))⟩
            | (simp [RowKit.intOf])
        · have Hs := hid (fun W (hb : Below wr.heap.size wr W) => signs_is ((G.out.below hbel.out).below hb) dig_small dig_great c t DT ht HDT.out)
          go_wp2
          have q1 : IntKind.u8.wrap ((c.toNat : Int) / 16) = (c.toNat : Int) / 16 := IntWalk.u8_in _ (by omega)
          have q2 : IntKind.u8.wrap ((c.toNat : Int) / 16 + 1) = (c.toNat : Int) / 16 + 1 := IntWalk.u8_in _ (by omega)
          have q3 : (c.toNat : Int).tmod 16 = (c.toNat : Int) % 16 := Int.tmod_eq_emod_of_nonneg (by omega)
          have q4 : IntKind.u8.wrap ((c.toNat : Int) % 16 + 1) = (c.toNat : Int) % 16 + 1 := IntWalk.u8_in _ (by omega)
          have s1 : 0 ≤ (c.toNat : Int) / 16 ∧ (c.toNat : Int) / 16 ≤ (c.toNat : Int) / 16 + 1 ∧ (c.toNat : Int) / 16 + 1 ≤ 16 := by omega
          have s2 : 0 ≤ (c.toNat : Int) % 16 ∧ (c.toNat : Int) % 16 ≤ (c.toNat : Int) % 16 + 1 ∧ (c.toNat : Int) % 16 + 1 ≤ 16 := by omega
          go_region_with (go_at_call 10; refine (Hs.out _ (Below.refl _ wr).drew).mono ?_; rintro e w5 ⟨rfl, hb5⟩)
          all_goals clear q1 q2 q3 q4 s1 s2
          all_goals go_wp2
          all_goals go_roundw
          all_goals first
            | exact ⟨3, by omega, rfl, hid (below_chain hbel.out ((Below.refl _ wr).drew.trans hb5))⟩
            | (simp [RowKit.intOf])
        · have Hs := hid (fun W (hb : Below wr.heap.size wr W) => signs_is ((G.out.below hbel.out).below hb) dig_great dig_great c t DT ht HDT.out)
          go_wp2
          have q1 : IntKind.u8.wrap ((c.toNat : Int) / 16) = (c.toNat : Int) / 16 := IntWalk.u8_in _ (by omega)
          have q2 : IntKind.u8.wrap ((c.toNat : Int) / 16 + 1) = (c.toNat : Int) / 16 + 1 := IntWalk.u8_in _ (by omega)
          have q3 : (c.toNat : Int).tmod 16 = (c.toNat : Int) % 16 := Int.tmod_eq_emod_of_nonneg (by omega)
          have q4 : IntKind.u8.wrap ((c.toNat : Int) % 16 + 1) = (c.toNat : Int) % 16 + 1 := IntWalk.u8_in _ (by omega)
          have s1 : 0 ≤ (c.toNat : Int) / 16 ∧ (c.toNat : Int) / 16 ≤ (c.toNat : Int) / 16 + 1 ∧ (c.toNat : Int) / 16 + 1 ≤ 16 := by omega
          have s2 : 0 ≤ (c.toNat : Int) % 16 ∧ (c.toNat : Int) % 16 ≤ (c.toNat : Int) % 16 + 1 ∧ (c.toNat : Int) % 16 + 1 ≤ 16 := by omega
          go_region_with (go_at_call 10; refine (Hs.out _ (Below.refl _ wr).drew).mono ?_; rintro e w5 ⟨rfl, hb5⟩)
          all_goals clear q1 q2 q3 q4 s1 s2
          all_goals go_wp2
          all_goals go_roundw
          all_goals first
            | exact ⟨4, by omega, rfl, hid (below_chain hbel.out ((Below.refl _ wr).drew.trans hb5))⟩
            | (simp [RowKit.intOf])
        · go_wp2
          go_ret
          exact ⟨rfl, hbel.out⟩
end Go.Proofs.YtcjjlmjamcmnpaaDoor
