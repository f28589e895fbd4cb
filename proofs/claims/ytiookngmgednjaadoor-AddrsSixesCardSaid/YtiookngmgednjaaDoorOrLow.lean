/- Two bytes joined: the or of a byte shifted by eight and a byte (65,536 cases in the kernel: 50 s). -/
import Derived.Test.YtiookngmgednjaaDoorProg
import Derived.Laws.BitsLemmas
import Derived.Lib.Strings
import Derived.RowKit
namespace Go.Proofs.YtiookngmgednjaaDoor
open Go.RowKit Go.Lib
theorem or_low (x y : UInt8) : bits .or .i64 ((x.toNat : Int) * 256) (y.toNat : Int) = ((256 * x.toNat + y.toNat : Nat) : Int) := by
  have h : ∀ a : Fin 256, ∀ b : Fin 256, bits .or .i64 ((a.val : Int) * 256) (b.val : Int) = ((256 * a.val + b.val : Nat) : Int) := by decide +kernel
  exact h ⟨x.toNat, x.toNat_lt⟩ ⟨y.toNat, y.toNat_lt⟩
end Go.Proofs.YtiookngmgednjaaDoor
