/- Walk: chapter 03's alive. And what all its outright laws share. -/
import Derived.Test.YtcjjlmjamcmnpaaDoorDec
import Derived.Test.YtcjjlmjamcmnpaaDoorEnc
import Derived.Test.YtcjjlmjamcmnpaaDoorBeyond
import Derived.Test.YtcjjlmjamcmnpaaDoorLaid
import Derived.Test.YtcjjlmjamcmnpaaDoorRows
namespace Go.Proofs.YtcjjlmjamcmnpaaDoor
open Go.RowKit Go.Lib Go.Proofs.Foot

/-- What the laws take of a world: the variables' shapes, and an error in ErrSyntax. -/
def Good (w : World) : Prop := w.ShapedOpen Tryd.prog ∧ ∃ te pe, w.cell? ⟨1, 0, none⟩ = some (.iface te pe)
theorem Good.below {w w' : World} (h : Good w) (hb : Below w.heap.size w w') : Good w' := by
  obtain ⟨hs, te, pe, hc⟩ := h
  exact ⟨hs.keptBut (hb.frame (fun _ => False)) (fun _ h => h.elim), te, pe, (hb.cell (Lib.lt_of_cell hc)).trans hc⟩
theorem good_of {laid : List (String × DataW Unit)} {w : World} (hL : laidMetH Tryd.prog laid w) (hf : (laid.filter fun x => x.1 == "strconv.ErrSyntax") = [("strconv.ErrSyntax", Rows.laid_strconv_ErrSyntax)]) (hsh : w.ShapedOpen Tryd.prog) : Good w :=
  ⟨hsh, laid_iface (n := "strconv.ErrSyntax") Rows.laid_strconv_ErrSyntax ⟨_, _, rfl⟩ hL (show Tryd.prog.globalNamed "strconv.ErrSyntax" = some 1 by kernel_rfl) (show (Tryd.prog.globals[1]?).map (·.type) = some 41 by kernel_rfl) ⟨_, Tryd.underlying41⟩ hf (by kernel_rfl)⟩
theorem Good.decode {w : World} (h : Good w) (s : ByteArray) (hs : s.size ≤ 16777216) :
    Calls Tryd.prog 10 #[.string s] w fun e w' => e = .returned (.string ⟨(dec s.data.toList).toArray⟩) ∧ Below w.heap.size w w' := by
  obtain ⟨hs', te, pe, hc⟩ := h
  exact decodeA_any s w hs hs' _ hc (.inr ⟨te, pe, rfl⟩)
theorem decode_is {w : World} (h : Good w) (s : ByteArray) (hs : s.size ≤ 16777216) (r : ByteArray) (hr : dec s.data.toList = r.data.toList) :
    Calls Tryd.prog 10 #[.string s] w fun e w' => e = .returned (.string r) ∧ Below w.heap.size w w' := by
  have := h.decode s hs
  rw [hr] at this; exact this
theorem encode_is (w : World) (s : ByteArray) (n : Nat) (hn : n < 256) (hs : s.size ≤ 16777216) (r : ByteArray) (hr : encode n s.data.toList = r.data.toList) :
    Calls Tryd.prog 13 #[.string s, .int .u8 n] w fun e w' => e = .returned (.string r) ∧ Below w.heap.size w w' := by
  have := encodeA_any s n hn w hs
  rw [hr] at this; exact this
theorem has_is (w : World) (n : Nat) (hn : n < 256) (c : UInt8) (b : Bool) (hb : hasB n c = b) :
    Calls Tryd.prog 14 #[.int .u8 n, .int .u8 c.toNat] w fun e w' => e = .returned (.bool b) ∧ Below w.heap.size w w' := by
  rw [← hb]; exact has_any n hn c w

set_option maxRecDepth 100000 in
theorem alive_any (w : World) (h : Good w) : Calls Tryd.prog 12 #[] w fun e w' => e = .returned (.bool true) ∧ Below w.heap.size w w' := by
  have H := hid h
  clear h
  go_enter Tryd.func12, Tryd.ntmps12
  go_wp2_with fail
  refine (encode_is _ ⟨#[97, 32, 98, 34, 195, 169, 37]⟩ 4 (by decide) (by decide) ⟨#[97, 37, 50, 48, 98, 37, 50, 50, 37, 67, 51, 37, 65, 57, 37]⟩ (by decide +kernel)).mono ?_
  rintro e w1 ⟨rfl, hb1⟩
  have H1 := hid (H.out.below hb1)
  have B1 := hid hb1
  clear hb1
  go_wp2_with fail
  refine (encode_is _ ⟨#[97, 39, 98, 35]⟩ 3 (by decide) (by decide) ⟨#[97, 37, 50, 55, 98, 37, 50, 51]⟩ (by decide +kernel)).mono ?_
  rintro e w2 ⟨rfl, hb2⟩
  have H2 := hid (H1.out.below hb2)
  have B2 := hid (below_chain B1.out hb2)
  clear hb2
  go_wp2_with fail
  refine (encode_is _ ⟨#[117, 58, 112, 64, 104]⟩ 5 (by decide) (by decide) ⟨#[117, 37, 51, 65, 112, 37, 52, 48, 104]⟩ (by decide +kernel)).mono ?_
  rintro e w3 ⟨rfl, hb3⟩
  have H3 := hid (H2.out.below hb3)
  have B3 := hid (below_chain B2.out hb3)
  clear hb3
  go_wp2_with fail
  refine (decode_is H3.out ⟨#[37, 52, 49, 37, 55, 97, 37, 67, 51, 37, 97, 57]⟩ (by decide) ⟨#[65, 122, 195, 169]⟩ (by decide +kernel)).mono ?_
  rintro e w4 ⟨rfl, hb4⟩
  have H4 := hid (H3.out.below hb4)
  have B4 := hid (below_chain B3.out hb4)
  clear hb4
  go_wp2_with fail
  refine (decode_is H4.out ⟨#[37, 52]⟩ (by decide) ⟨#[37, 52]⟩ (by decide +kernel)).mono ?_
  rintro e w5 ⟨rfl, hb5⟩
  have H5 := hid (H4.out.below hb5)
  have B5 := hid (below_chain B4.out hb5)
  clear hb5
  go_wp2_with fail
  refine (decode_is H5.out ⟨#[37, 37, 52, 49]⟩ (by decide) ⟨#[37, 65]⟩ (by decide +kernel)).mono ?_
  rintro e w6 ⟨rfl, hb6⟩
  have B6 := hid (below_chain B5.out hb6)
  clear hb6
  go_wp2_with fail
  refine (has_is _ 4 (by decide) 63 true (by decide +kernel)).mono ?_
  rintro e w7 ⟨rfl, hb7⟩
  have B7 := hid (below_chain B6.out hb7)
  clear hb7
  go_wp2_with fail
  refine (has_is _ 0 (by decide) 0 false (by decide +kernel)).mono ?_
  rintro e w8 ⟨rfl, hb8⟩
  have B8 := hid (below_chain B7.out hb8)
  clear hb8
  go_wp2_with fail
  go_ret
  exact ⟨rfl, B8.out⟩
end Go.Proofs.YtcjjlmjamcmnpaaDoor
