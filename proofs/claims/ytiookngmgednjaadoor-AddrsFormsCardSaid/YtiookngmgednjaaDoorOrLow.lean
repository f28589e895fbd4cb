/- Two bytes joined: the or of a byte shifted by eight and a byte. -/
import Derived.Test.YtiookngmgednjaaDoorProg
import Derived.Laws.BitsLemmas
import Derived.Lib.Strings
import Derived.RowKit
namespace Go.Proofs.YtiookngmgednjaaDoor
open Go.RowKit Go.Lib
theorem or_low (x y : UInt8) : bits .or .i64 ((x.toNat : Int) * 256) (y.toNat : Int) = ((256 * x.toNat + y.toNat : Nat) : Int) := by
  have hx := x.toNat_lt
  have hy := y.toNat_lt
  have h1 : x.toNat * 2 ^ 8 ||| y.toNat = x.toNat * 2 ^ 8 + y.toNat := by rw [← Nat.shiftLeft_eq, Nat.shiftLeft_add_eq_or_of_lt (by omega)]
  have ho : ∀ z : Nat, z < 9223372036854775808 → (BitVec.ofInt 64 (z : Int)).toNat = z := fun z hz => by
    rw [BitVec.ofInt_natCast, BitVec.toNat_ofNat]; exact Nat.mod_eq_of_lt (by omega)
  have e : ((x.toNat : Int) * 256) = ((x.toNat * 2 ^ 8 : Nat) : Int) := by omega
  rw [e]
  show IntKind.i64.wrap ((BitVec.ofInt 64 ((x.toNat * 2 ^ 8 : Nat) : Int) ||| BitVec.ofInt 64 (y.toNat : Int)).toNat : Int) = _
  rw [BitVec.toNat_or, ho _ (by omega), ho _ (by omega), h1, IntKind.wrap_i64]
  omega
end Go.Proofs.YtiookngmgednjaaDoor
