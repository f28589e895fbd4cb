/- Walk: chapter 07's alive. And what all its outright laws share. -/
import Derived.Test.YtnkfgedpdokcpaaDoorTx3
import Derived.Test.YtnkfgedpdokcpaaDoorBeyond
namespace Go.Proofs.YtnkfgedpdokcpaaDoor
open Go.RowKit Go.Lib Go.Proofs.Foot

theorem good_below {w w' : World} (h : Good w) (hb : Below w.heap.size w w') : Good w' := h.below hb
theorem cookie_is (w : World) (G : Good w) (s : ByteArray) (hs : s.size ≤ 16777216) (V : Value) (hV : dateV (dateP s.data.toList) = V) :
    Calls Tryd.prog 11 #[.string s] w fun e w' => e = .returned V ∧ Below w.heap.size w w' := by
  rw [← hV]; exact cookieA_any s hs w G
theorem sec_is (w : World) (y m k h i x : Int) (V : Value) (hV : secVal y m k h i x = V) :
    Calls Tryd.prog 19 #[.int .i64 y, .int .i64 m, .int .i64 k, .int .i64 h, .int .i64 i, .int .i64 x] w fun e w' => e = .returned V ∧ w = w' := by
  rw [← hV]; exact secondsA_any y m k h i x w
theorem day_is (w : World) (n : Int) (V : Value) (hV : dayVal n = V) :
    Calls Tryd.prog 18 #[.int .i64 n] w fun e w' => e = .returned V ∧ w = w' := by
  rw [← hV]; exact dayA_any n w
theorem day_1994 : DayIs (784111777 : Nat) 1994 11 6 0 :=
  ⟨by kernel_rfl, ⟨by decide, by decide, by decide, by decide, by decide⟩, by decide, by decide, by decide, by decide, by decide, by decide, by decide, by decide⟩
theorem is_1994 : IsText (⟨#[83, 117, 110, 44, 32, 48, 54, 32, 78, 111, 118, 32, 49, 57, 57, 52, 32, 48, 56, 58, 52, 57, 58, 51, 55, 32, 71, 77, 84]⟩ : ByteArray).data.toList 784111777 := ⟨by decide, 1994, 11, 6, 0, day_1994, by decide +kernel⟩

set_option maxHeartbeats 1000000 in
set_option maxRecDepth 100000 in
theorem alive_any (w : World) (h : Good w) : Calls Tryd.prog 17 #[] w fun e w' => e = .returned (.bool true) ∧ Below w.heap.size w w' := by
  have H := hid h
  clear h
  go_enter Tryd.func17, Tryd.ntmps17
  go_wp2_with fail
  refine (cookie_is _ H.out ⟨#[83, 117, 110, 100, 97, 121, 44, 32, 48, 54, 45, 78, 111, 118, 45, 57, 52, 32, 48, 56, 58, 52, 57, 58, 51, 55, 32, 71, 77, 84]⟩ (by decide) (.tuple #[.int .i64 784111777, .bool true]) (by kernel_rfl)).mono ?_
  rintro e w1 ⟨rfl, hb1⟩
  have B1 := hid hb1
  clear hb1
  go_wp2_with fail
  refine (cookie_is _ (H.out.below B1.out) ⟨#[51, 48, 32, 70, 101, 98, 32, 50, 48, 48, 48, 32, 48, 58, 48, 58, 48]⟩ (by decide) (.tuple #[.int .i64 0, .bool false]) (by kernel_rfl)).mono ?_
  rintro e w2 ⟨rfl, hb2⟩
  have B2 := hid (below_chain B1.out hb2)
  clear hb2
  go_wp2_with fail
  refine (textA_is 784111777 ⟨#[83, 117, 110, 44, 32, 48, 54, 32, 78, 111, 118, 32, 49, 57, 57, 52, 32, 48, 56, 58, 52, 57, 58, 51, 55, 32, 71, 77, 84]⟩ is_1994 _ (H.out.below B2.out)).mono ?_
  rintro e w3 ⟨rfl, hb3⟩
  have B3 := hid (below_chain B2.out hb3)
  clear hb3
  go_wp2_with fail
  refine (parseA_yes ⟨#[83, 117, 110, 44, 32, 48, 54, 32, 78, 111, 118, 32, 49, 57, 57, 52, 32, 48, 56, 58, 52, 57, 58, 51, 55, 32, 71, 77, 84]⟩ (by decide) 784111777 is_1994 _ (H.out.below B3.out)).mono ?_
  rintro e w4 ⟨rfl, hb4⟩
  have B4 := hid (below_chain B3.out hb4)
  clear hb4
  go_wp2_with fail
  refine (sec_is _ 2000 2 29 0 0 0 (.tuple #[.int .i64 951782400, .bool true]) (by kernel_rfl)).mono ?_
  rintro e w' ⟨rfl, rfl⟩
  go_wp2_with fail
  refine (day_is _ (-1) (.tuple #[.int .i64 1969, .int .i64 12, .int .i64 31, .int .i64 3]) (by kernel_rfl)).mono ?_
  rintro e w' ⟨rfl, rfl⟩
  go_wp2
  go_ret
  exact ⟨rfl, B4.out⟩
end Go.Proofs.YtnkfgedpdokcpaaDoor
