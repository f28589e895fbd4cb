/- Walks: chapter 11's is and bad. -/
import Derived.Test.YtnmdcbneoipllaaDoorSt11
import Derived.Test.YtnmdcbneoipllaaDoorRows
namespace Go.Proofs.YtnmdcbneoipllaaDoor
open Go.RowKit Go.Lib Go.Proofs.Foot

theorem goodP_of {laid : List (String × DataW Unit)} {w : World} (hL : laidMetH Tryd.prog laid w) (hf : (laid.filter fun x => x.1 == "strconv.ErrSyntax") = [("strconv.ErrSyntax", Rows.laid_strconv_ErrSyntax)]) (hf2 : (laid.filter fun x => x.1 == "strconv.ErrRange") = [("strconv.ErrRange", Rows.laid_strconv_ErrRange)])
    (hf3 : (laid.filter fun x => x.1 == "internal/strconv.uint64pow10") = [("internal/strconv.uint64pow10", Lib.tabData .u64 Lib.pow10Tab)]) (hsh : w.ShapedOpen Tryd.prog) : GoodP w :=
  ⟨hsh, laid_iface (n := "strconv.ErrSyntax") Rows.laid_strconv_ErrSyntax ⟨_, _, rfl⟩ hL (show Tryd.prog.globalNamed "strconv.ErrSyntax" = some 2 by kernel_rfl) (show (Tryd.prog.globals[2]?).map (·.type) = some 66 by kernel_rfl) ⟨_, Tryd.underlying66⟩ hf (by kernel_rfl),
    laid_iface (n := "strconv.ErrRange") Rows.laid_strconv_ErrRange ⟨_, _, rfl⟩ hL (show Tryd.prog.globalNamed "strconv.ErrRange" = some 3 by kernel_rfl) (show (Tryd.prog.globals[3]?).map (·.type) = some 66 by kernel_rfl) ⟨_, Tryd.underlying66⟩ hf2 (by kernel_rfl),
    laid_tab Lib.pow10Tab hL (show Tryd.prog.globalNamed "internal/strconv.uint64pow10" = some 0 by kernel_rfl) (show (Tryd.prog.globals[0]?).map (·.type) = some 101 by kernel_rfl) Tryd.underlying101 Tryd.underlying34 (by kernel_rfl) (by kernel_rfl) hf3 (by kernel_rfl)⟩
theorem alive1 : parseS [109, 97, 120, 45, 97, 103, 101, 61, 51, 49, 53, 51, 54, 48, 48, 48, 59, 32, 105, 110, 99, 108, 117, 100, 101, 83, 117, 98, 68, 111, 109, 97, 105, 110, 115] = some (31536000, true) := by decide +kernel
theorem alive2 : parseS [] = none := by decide +kernel
theorem is_yes (s : ByteArray) (hs : s.size ≤ 65536) (ha : Asc s.data.toList) (n : Nat) (b : Bool) (h : parseS s.data.toList = some (n, b)) (w : World) (G : GoodP w) :
    Calls Tryd.prog 17 #[.string s, .int .i64 n, .bool b] w fun e w' => e = .returned (.bool true) ∧ Below w.heap.size w w' := by
  have HP := hid (parse_any s hs ha w G)
  rw [h] at HP
  clear h
  cases b with
  | true =>
    go_enter Tryd.func17, Tryd.ntmps17
    go_wp2_with fail
    refine HP.out.mono ?_
    rintro e w1 ⟨rfl, hb1⟩
    have B1 := hid hb1
    clear hb1
    unfold parseV
    go_wp2
    go_ret
    exact ⟨rfl, B1.out.alloc B1.out.size _⟩
  | false =>
    go_enter Tryd.func17, Tryd.ntmps17
    go_wp2_with fail
    refine HP.out.mono ?_
    rintro e w1 ⟨rfl, hb1⟩
    have B1 := hid hb1
    clear hb1
    unfold parseV
    go_wp2
    go_ret
    exact ⟨rfl, B1.out.alloc B1.out.size _⟩
theorem bad_yes (s : ByteArray) (hs : s.size ≤ 65536) (ha : Asc s.data.toList) (h : parseS s.data.toList = none) (w : World) (G : GoodP w) :
    Calls Tryd.prog 20 #[.string s] w fun e w' => e = .returned (.bool true) ∧ Below w.heap.size w w' := by
  have HP := hid (parse_any s hs ha w G)
  rw [h] at HP
  clear h
  go_enter Tryd.func20, Tryd.ntmps20
  go_wp2_with fail
  refine HP.out.mono ?_
  rintro e w1 ⟨rfl, hb1⟩
  have B1 := hid hb1
  clear hb1
  unfold parseV
  go_wp2
  go_ret
  exact ⟨rfl, B1.out.alloc B1.out.size _⟩
end Go.Proofs.YtnmdcbneoipllaaDoor
