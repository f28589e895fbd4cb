/- From a row's listed variables to what the contracts take of a world. -/
import Derived.Test.YtnkfgedpdokcpaaDoorCk1
import Derived.Test.YtnkfgedpdokcpaaDoorRows
namespace Go.Proofs.YtnkfgedpdokcpaaDoor
open Go.RowKit Go.Lib Go.Proofs.Foot

theorem good_of {laid : List (String × DataW Unit)} {w : World} (hL : laidMetH Tryd.prog laid w) (hf : (laid.filter fun x => x.1 == "strconv.ErrSyntax") = [("strconv.ErrSyntax", Rows.laid_strconv_ErrSyntax)]) (hf2 : (laid.filter fun x => x.1 == "strconv.ErrRange") = [("strconv.ErrRange", Rows.laid_strconv_ErrRange)])
    (hf3 : (laid.filter fun x => x.1 == "internal/strconv.uint64pow10") = [("internal/strconv.uint64pow10", Lib.tabData .u64 Lib.pow10Tab)]) (hsh : w.ShapedOpen Tryd.prog) : Good w :=
  ⟨hsh, laid_iface (n := "strconv.ErrSyntax") Rows.laid_strconv_ErrSyntax ⟨_, _, rfl⟩ hL (show Tryd.prog.globalNamed "strconv.ErrSyntax" = some 2 by kernel_rfl) (show (Tryd.prog.globals[2]?).map (·.type) = some 70 by kernel_rfl) ⟨_, Tryd.underlying70⟩ hf (by kernel_rfl),
    laid_iface (n := "strconv.ErrRange") Rows.laid_strconv_ErrRange ⟨_, _, rfl⟩ hL (show Tryd.prog.globalNamed "strconv.ErrRange" = some 3 by kernel_rfl) (show (Tryd.prog.globals[3]?).map (·.type) = some 70 by kernel_rfl) ⟨_, Tryd.underlying70⟩ hf2 (by kernel_rfl),
    laid_tab Lib.pow10Tab hL (show Tryd.prog.globalNamed "internal/strconv.uint64pow10" = some 1 by kernel_rfl) (show (Tryd.prog.globals[1]?).map (·.type) = some 104 by kernel_rfl) Tryd.underlying104 Tryd.underlying29 (by kernel_rfl) (by kernel_rfl) hf3 (by kernel_rfl)⟩
end Go.Proofs.YtnkfgedpdokcpaaDoor
