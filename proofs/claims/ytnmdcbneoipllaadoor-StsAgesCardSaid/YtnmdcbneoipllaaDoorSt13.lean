/- Walk: chapter 11's alive. -/
import Derived.Test.YtnmdcbneoipllaaDoorSt12
namespace Go.Proofs.YtnmdcbneoipllaaDoor
open Go.RowKit Go.Lib Go.Proofs.Foot

theorem is_lit (s : ByteArray) (n : Nat) (b : Bool) (hs : s.size ≤ 65536) (h : parseS s.data.toList = some (n, b)) (w : World) (G : GoodP w) :
    Calls Tryd.prog 17 #[.string s, .int .i64 n, .bool b] w fun e w' => e = .returned (.bool true) ∧ Below w.heap.size w w' := is_yes s hs trivial n b h w G
theorem bad_lit (s : ByteArray) (hs : s.size ≤ 65536) (h : parseS s.data.toList = none) (w : World) (G : GoodP w) :
    Calls Tryd.prog 20 #[.string s] w fun e w' => e = .returned (.bool true) ∧ Below w.heap.size w w' := bad_yes s hs trivial h w G
theorem wish5 : wishT 5 true = ⟨#[109, 97, 120, 45, 97, 103, 101, 61, 53, 59, 32, 105, 110, 99, 108, 117, 100, 101, 83, 117, 98, 68, 111, 109, 97, 105, 110, 115]⟩ := by decide +kernel
set_option maxHeartbeats 1000000 in
set_option maxRecDepth 100000 in
theorem alive_any (w : World) (G : GoodP w) :
    Calls Tryd.prog 15 #[] w fun e w' => e = .returned (.bool true) ∧ Below w.heap.size w w' := by
  have HA := hid (fun w (G : GoodP w) => textA_yes 5 true (by decide) w G.good)
  rw [wish5] at HA
  have HB := hid (fun w => textA_no (-1) false (by decide) w)
  have HG := hid G
  clear G
  go_enter Tryd.func15, Tryd.ntmps15
  go_wp2_with fail
  refine (HA.out _ HG.out).mono ?_
  rintro e w1 ⟨rfl, hb1⟩
  have B1 := hid hb1
  clear hb1
  go_wp2_with fail
  refine (HB.out _).mono ?_
  rintro e w2 ⟨rfl, hb2⟩
  have B2 := hid (below_chain B1.out hb2)
  clear hb2
  go_wp2_with fail
  refine (is_lit ⟨#[109, 97, 120, 45, 97, 103, 101, 61, 51, 49, 53, 51, 54, 48, 48, 48, 59, 32, 105, 110, 99, 108, 117, 100, 101, 83, 117, 98, 68, 111, 109, 97, 105, 110, 115]⟩ 31536000 true (by decide) (by decide +kernel) _ (HG.out.below B2.out)).mono ?_
  rintro e w3 ⟨rfl, hb3⟩
  have B3 := hid (below_chain B2.out hb3)
  clear hb3
  go_wp2_with fail
  refine (is_lit ⟨#[77, 65, 88, 45, 65, 71, 69, 61, 34, 48, 34, 32, 59, 59]⟩ 0 false (by decide) (by decide +kernel) _ (HG.out.below B3.out)).mono ?_
  rintro e w4 ⟨rfl, hb4⟩
  have B4 := hid (below_chain B3.out hb4)
  clear hb4
  go_wp2_with fail
  refine (is_lit ⟨#[109, 97, 120, 45, 97, 103, 101, 32, 61, 32, 53, 59, 120, 59, 121, 61, 34, 97, 59, 92, 34, 61, 98, 34]⟩ 5 false (by decide) (by decide +kernel) _ (HG.out.below B4.out)).mono ?_
  rintro e w5 ⟨rfl, hb5⟩
  have B5 := hid (below_chain B4.out hb5)
  clear hb5
  go_wp2_with fail
  refine (bad_lit ⟨#[]⟩ (by decide) (by decide +kernel) _ (HG.out.below B5.out)).mono ?_
  rintro e w6 ⟨rfl, hb6⟩
  have B6 := hid (below_chain B5.out hb6)
  clear hb6
  go_wp2_with fail
  refine (bad_lit ⟨#[109, 97, 120, 45, 97, 103, 101, 61, 49, 59, 32, 77, 97, 120, 45, 65, 103, 101, 61, 49]⟩ (by decide) (by decide +kernel) _ (HG.out.below B6.out)).mono ?_
  rintro e w7 ⟨rfl, hb7⟩
  have B7 := hid (below_chain B6.out hb7)
  clear hb7
  go_wp2_with fail
  refine (bad_lit ⟨#[109, 97, 120, 45, 97, 103, 101, 61, 49, 32, 50]⟩ (by decide) (by decide +kernel) _ (HG.out.below B7.out)).mono ?_
  rintro e w8 ⟨rfl, hb8⟩
  have B8 := hid (below_chain B7.out hb8)
  clear hb8
  go_wp2
  go_ret
  exact ⟨rfl, B8.out⟩
end Go.Proofs.YtnmdcbneoipllaaDoor
