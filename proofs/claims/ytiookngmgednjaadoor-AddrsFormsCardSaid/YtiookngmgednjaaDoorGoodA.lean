/- What the program's own tables say of the world (digits). -/
import Derived.Test.YtiookngmgednjaaDoorAd3
import Derived.Test.YtiookngmgednjaaDoorLaid
import Derived.Lib.TrailingZeros
namespace Go.Proofs.YtiookngmgednjaaDoor
open Go.RowKit Go.Lib

theorem goodA_of {laid : List (String × DataW Unit)} {w : World} (hL : laidMetH Tryd.prog laid w) (hf3 : (laid.filter fun x => x.1 == "internal/strconv.uint64pow10") = [("internal/strconv.uint64pow10", Lib.tabData .u64 Lib.pow10Tab)])
    (hf4 : (laid.filter fun x => x.1 == "math/bits.deBruijn64tab") = [("math/bits.deBruijn64tab", Lib.tabData .u8 (Lib.deBruijn64tab.map fun (n : Nat) => (n : Int)))]) : GoodA w := by
  refine ⟨laid_tab Lib.pow10Tab hL (show Tryd.prog.globalNamed "internal/strconv.uint64pow10" = some 0 by kernel_rfl) (show (Tryd.prog.globals[0]?).map (·.type) = some 107 by kernel_rfl) Tryd.underlying107 Tryd.underlying84 (by kernel_rfl) (by kernel_rfl) hf3 (by kernel_rfl), ?_⟩
  have h := laid_tab (Lib.deBruijn64tab.map fun (n : Nat) => (n : Int)) hL (show Tryd.prog.globalNamed "math/bits.deBruijn64tab" = some 3 by kernel_rfl) (show (Tryd.prog.globals[3]?).map (·.type) = some 127 by kernel_rfl) Tryd.underlying127 Tryd.underlying5 (by kernel_rfl) (by kernel_rfl) hf4 (by kernel_rfl)
  exact h.cell (show Tryd.prog.globalNamed "math/bits.deBruijn64tab" = some 3 by kernel_rfl) 15 (by decide)
end Go.Proofs.YtiookngmgednjaaDoor
