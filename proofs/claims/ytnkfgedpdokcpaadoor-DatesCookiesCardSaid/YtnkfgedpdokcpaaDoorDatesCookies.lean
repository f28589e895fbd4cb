/- Walk of the law DatesCookies: Cookie of dates and of the reference agree. -/
import Derived.Test.YtnkfgedpdokcpaaDoorRk5
import Derived.Test.YtnkfgedpdokcpaaDoorBeyond
import Derived.Test.YtnkfgedpdokcpaaDoorRows
namespace Go.Proofs.YtnkfgedpdokcpaaDoor
open Go.RowKit Go.Lib Go.Proofs.Foot

theorem good_of {laid : List (String × DataW Unit)} {w : World} (hL : laidMetH Tryd.prog laid w) (hf : (laid.filter fun x => x.1 == "strconv.ErrSyntax") = [("strconv.ErrSyntax", Rows.laid_strconv_ErrSyntax)]) (hf2 : (laid.filter fun x => x.1 == "strconv.ErrRange") = [("strconv.ErrRange", Rows.laid_strconv_ErrRange)]) (hsh : w.ShapedOpen Tryd.prog) : Good w :=
  ⟨hsh, laid_iface (n := "strconv.ErrSyntax") Rows.laid_strconv_ErrSyntax ⟨_, _, rfl⟩ hL (show Tryd.prog.globalNamed "strconv.ErrSyntax" = some 2 by kernel_rfl) (show (Tryd.prog.globals[2]?).map (·.type) = some 70 by kernel_rfl) ⟨_, Tryd.underlying70⟩ hf (by kernel_rfl),
    laid_iface (n := "strconv.ErrRange") Rows.laid_strconv_ErrRange ⟨_, _, rfl⟩ hL (show Tryd.prog.globalNamed "strconv.ErrRange" = some 3 by kernel_rfl) (show (Tryd.prog.globals[3]?).map (·.type) = some 70 by kernel_rfl) ⟨_, Tryd.underlying70⟩ hf2 (by kernel_rfl)⟩
theorem dateV_form (d : Dt) : ∃ v o, dateV d = .tuple #[.int .i64 v, .bool o] := by
  unfold dateV secVal
  split
  · split
    · exact ⟨_, _, rfl⟩
    · exact ⟨_, _, rfl⟩
  · exact ⟨_, _, rfl⟩

theorem datesCookies_walk (s : ByteArray) (_hs : s.size ≤ maxLen) (z : s.size ≤ 140737488351232) (w : World) (hL : laidMetH Tryd.prog Rows.datesCookiesRow.laid w) (hsh : w.ShapedOpen Tryd.prog) :
    Calls Tryd.prog 3 #[.string s] w fun e w' => e = .returned (.bool true) ∧ Below w.heap.size w w' := by
  have G := hid (good_of hL (by kernel_rfl) (by kernel_rfl) hsh)
  clear hL hsh _hs
  cases hb : beyond [s.size] with
  | true =>
    go_enter Tryd.func3, Tryd.ntmps3
    go_wp2_with (go_at_call 10; refine (beyond1 _ _ z).mono ?_; rintro e w1 ⟨rfl, rfl⟩)
    go_ret
    exact ⟨rfl, (Below.refl _ _).alloc (Nat.le_refl _) _⟩
  | false =>
    have hle := beyond_le (zs := [s.size]) (by rw [hb]; decide)
    have hs : s.size ≤ 1048576 := by simpa using hle
    clear hle
    have HA := hid (fun w G => cookieA_any s (by omega) w G)
    have HR := hid (fun w => cookieR_any s (by omega) w)
    obtain ⟨v, o, hv⟩ := dateV_form (dateP s.data.toList)
    rw [hv] at HA HR
    clear hv
    go_enter Tryd.func3, Tryd.ntmps3
    go_wp2_with (go_at_call 10; refine (beyond1 _ _ z).mono ?_; rintro e w1 ⟨rfl, rfl⟩)
    have hb1 : Below w.heap.size w (w.alloc (.cells #[.int .i64 s.size] 3)) := (Below.refl _ _).alloc (Nat.le_refl _) _
    refine (HA.out _ (G.out.below hb1)).mono ?_
    rintro e w2 ⟨rfl, hb2⟩
    go_wp2_with fail
    refine (HR.out _).mono ?_
    rintro e w3 ⟨rfl, hb3⟩
    have B3 := hid (below_chain (below_chain hb1 hb2) hb3)
    clear hb1 hb2 hb3
    go_wp2
    go_ret
    exact ⟨rfl, B3.out⟩
end Go.Proofs.YtnkfgedpdokcpaaDoor
