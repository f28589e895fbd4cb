/- The law DatesForms holds at whatever arguments and in whatever world (the walk: DatesForms). -/
import Derived.Test.YtnkfgedpdokcpaaDoorDatesForms
namespace Go.Proofs.YtnkfgedpdokcpaaDoor
open Go.RowKit Go.Lib Go.Proofs.Foot

theorem byte_of7 {x : Int} (wx : (Lit.int .u8 x).wf = true) : ∃ c : UInt8, x = (c.toNat : Int) := by
  have hmin : IntKind.u8.min = 0 := rfl
  have hmax : IntKind.u8.max = 255 := rfl
  have hx := wf_bounds wx
  obtain ⟨n, rfl⟩ := Int.eq_ofNat_of_zero_le (show 0 ≤ x by omega)
  have hn : n < 256 := by omega
  exact ⟨UInt8.ofNat n, by rw [UInt8.toNat_ofNat']; congr 1; omega⟩
theorem datesForms_walk (x : Int) (wx : (Lit.int .u64 x).wf = true) (y : Int) (wy : (Lit.int .u8 y).wf = true) (z : Int) (wz : (Lit.int .u8 z).wf = true) (w : World) (hL : laidMetH Tryd.prog Rows.datesFormsRow.laid w) (hsh : w.ShapedOpen Tryd.prog) :
    Calls Tryd.prog 9 #[.int .u64 x, .int .u8 y, .int .u8 z] w fun e w' => e = .returned (.bool true) ∧ Below w.heap.size w w' := by
  have hmin : IntKind.u64.min = 0 := rfl
  have hmax : IntKind.u64.max = 18446744073709551615 := rfl
  have hx := wf_bounds wx
  obtain ⟨n, rfl⟩ := Int.eq_ofNat_of_zero_le (show 0 ≤ x by omega)
  obtain ⟨o, rfl⟩ := byte_of7 wy
  obtain ⟨c, rfl⟩ := byte_of7 wz
  exact datesForms_at n (by omega) o c w (good_of hL (by kernel_rfl) (by kernel_rfl) (by kernel_rfl) hsh)
end Go.Proofs.YtnkfgedpdokcpaaDoor
