/- Walk of the law StsTexts: Text of sts and of the reference agree. -/
import Derived.Test.YtnmdcbneoipllaaDoorSt1
import Derived.Test.YtnmdcbneoipllaaDoorRows
namespace Go.Proofs.YtnmdcbneoipllaaDoor
open Go.RowKit Go.Lib

theorem good_of {laid : List (String × DataW Unit)} {w : World} (hL : laidMetH Tryd.prog laid w) (hf3 : (laid.filter fun x => x.1 == "internal/strconv.uint64pow10") = [("internal/strconv.uint64pow10", Lib.tabData .u64 Lib.pow10Tab)]) (hsh : w.ShapedOpen Tryd.prog) : Good w :=
  ⟨hsh, laid_tab Lib.pow10Tab hL (show Tryd.prog.globalNamed "internal/strconv.uint64pow10" = some 0 by kernel_rfl) (show (Tryd.prog.globals[0]?).map (·.type) = some 101 by kernel_rfl) Tryd.underlying101 Tryd.underlying34 (by kernel_rfl) (by kernel_rfl) hf3 (by kernel_rfl)⟩

theorem stsTexts_walk (n : Int) (_wn : (Lit.int .i64 n).wf = true) (b : Bool) (w : World) (hL : laidMetH Tryd.prog Rows.stsTextsRow.laid w) (hsh : w.ShapedOpen Tryd.prog) :
    Calls Tryd.prog 3 #[.agg #[.int .i64 n, .bool b]] w fun e w' => e = .returned (.bool true) ∧ Below w.heap.size w w' := by
  have G := hid (good_of hL (by kernel_rfl) hsh)
  clear hL hsh _wn
  obtain ⟨T, o, hA, hR⟩ := text_both n b
  have HA := hid hA
  have HR := hid hR
  clear hA hR
  go_enter Tryd.func3, Tryd.ntmps3
  go_wp2_with fail
  have hb1 : Below w.heap.size w (w.alloc (.cells #[.int .i64 n, .bool b] 23)) := (Below.refl _ _).alloc (Nat.le_refl _) _
  have B1 := hid hb1
  clear hb1
  have h0 : (w.alloc (.cells #[.int .i64 n, .bool b] 23)).cell? ⟨w.heap.size, 0, none⟩ = some (.int .i64 n) := by rw [World.cell?_alloc_at _ _ _ _ rfl]; rfl
  have h1 : (w.alloc (.cells #[.int .i64 n, .bool b] 23)).cell? ⟨w.heap.size, 1, none⟩ = some (.bool b) := by rw [World.cell?_alloc_at _ _ _ _ rfl]; rfl
  have hlt : w.heap.size < (w.alloc (.cells #[.int .i64 n, .bool b] 23)).heap.size := by simp
  generalize w.alloc _ = w1 at *
  refine (HA.out _ (G.out.below B1.out)).mono ?_
  rintro e w2 ⟨rfl, hb2⟩
  have c0 := (hb2.cell (p := ⟨w.heap.size, 0, none⟩) hlt).trans h0
  have c1 := (hb2.cell (p := ⟨w.heap.size, 1, none⟩) hlt).trans h1
  have B2 := hid (below_chain B1.out hb2)
  clear hb2 h0 h1 hlt
  go_wp2_with fail
  refine (HR.out _).mono ?_
  rintro e w3 ⟨rfl, hb3⟩
  have B3 := hid (below_chain B2.out hb3)
  clear hb3
  go_wp2
  go_ret
  exact ⟨rfl, B3.out⟩
end Go.Proofs.YtnmdcbneoipllaaDoor
