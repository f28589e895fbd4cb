/- From a row's listed variables to what the contracts take of a world. -/
import Derived.Test.YthfndlphhgchnaaGreatDoorCk1
import Derived.Test.YthfndlphhgchnaaGreatDoorRows
namespace Go.Proofs.YthfndlphhgchnaaGreatDoor
open Go.RowKit Go.Lib Go.Proofs.Foot

theorem good_of {laid : List (String × DataW Unit)} {w : World} (hL : laidMetH Tryz.prog laid w) (hf : (laid.filter fun x => x.1 == "strconv.ErrSyntax") = [("strconv.ErrSyntax", Rows.laid_strconv_ErrSyntax)]) (hf2 : (laid.filter fun x => x.1 == "strconv.ErrRange") = [("strconv.ErrRange", Rows.laid_strconv_ErrRange)])
    (hf3 : (laid.filter fun x => x.1 == "internal/strconv.uint64pow10") = [("internal/strconv.uint64pow10", Lib.tabData .u64 Lib.pow10Tab)]) (hsh : w.ShapedOpen Tryz.prog) : Good w :=
  ⟨hsh, laid_iface (n := "strconv.ErrSyntax") Rows.laid_strconv_ErrSyntax ⟨_, _, rfl⟩ hL (show Tryz.prog.globalNamed "strconv.ErrSyntax" = some 4 by kernel_rfl) (show (Tryz.prog.globals[4]?).map (·.type) = some 80 by kernel_rfl) ⟨_, Tryz.underlying80⟩ hf (by kernel_rfl),
    laid_iface (n := "strconv.ErrRange") Rows.laid_strconv_ErrRange ⟨_, _, rfl⟩ hL (show Tryz.prog.globalNamed "strconv.ErrRange" = some 5 by kernel_rfl) (show (Tryz.prog.globals[5]?).map (·.type) = some 80 by kernel_rfl) ⟨_, Tryz.underlying80⟩ hf2 (by kernel_rfl),
    laid_tab Lib.pow10Tab hL (show Tryz.prog.globalNamed "internal/strconv.uint64pow10" = some 1 by kernel_rfl) (show (Tryz.prog.globals[1]?).map (·.type) = some 140 by kernel_rfl) Tryz.underlying140 Tryz.underlying118 (by kernel_rfl) (by kernel_rfl) hf3 (by kernel_rfl)⟩
end Go.Proofs.YthfndlphhgchnaaGreatDoor
