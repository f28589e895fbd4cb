/- Walk of the law AddrsTexts: both tell every address alike. -/
import Derived.Test.YtiookngmgednjaaDoorAd4
import Derived.Test.YtiookngmgednjaaDoorAd6
import Derived.Test.YtiookngmgednjaaDoorLaid
import Derived.Test.YtiookngmgednjaaDoorRows
import Derived.Deep.RegionHeld3
import Derived.Lib.TrailingZeros
namespace Go.Proofs.YtiookngmgednjaaDoor
open Go.RowKit Go.Lib

theorem goodA_of {laid : List (String × DataW Unit)} {w : World} (hL : laidMetH Tryd.prog laid w) (hf3 : (laid.filter fun x => x.1 == "internal/strconv.uint64pow10") = [("internal/strconv.uint64pow10", Lib.tabData .u64 Lib.pow10Tab)])
    (hf4 : (laid.filter fun x => x.1 == "math/bits.deBruijn64tab") = [("math/bits.deBruijn64tab", Lib.tabData .u8 (Lib.deBruijn64tab.map fun (n : Nat) => (n : Int)))]) : GoodA w := by
  refine ⟨laid_tab Lib.pow10Tab hL (show Tryd.prog.globalNamed "internal/strconv.uint64pow10" = some 0 by kernel_rfl) (show (Tryd.prog.globals[0]?).map (·.type) = some 107 by kernel_rfl) Tryd.underlying107 Tryd.underlying84 (by kernel_rfl) (by kernel_rfl) hf3 (by kernel_rfl), ?_⟩
  have h := laid_tab (Lib.deBruijn64tab.map fun (n : Nat) => (n : Int)) hL (show Tryd.prog.globalNamed "math/bits.deBruijn64tab" = some 3 by kernel_rfl) (show (Tryd.prog.globals[3]?).map (·.type) = some 127 by kernel_rfl) Tryd.underlying127 Tryd.underlying5 (by kernel_rfl) (by kernel_rfl) hf4 (by kernel_rfl)
  exact h.cell (show Tryd.prog.globalNamed "math/bits.deBruijn64tab" = some 3 by kernel_rfl) 15 (by decide)
theorem textA_both (six : Bool) (B : List UInt8) (hB : B.length = 16) : ∃ T : ByteArray, (∀ w, GoodA w → Calls Tryd.prog 11 #[.agg (adrC six B)] w fun e w' => e = .returned (.string T) ∧ Below w.heap.size w w') ∧
    ∀ w, Calls Tryd.prog 12 #[.agg (adrC six B)] w fun e w' => e = .returned (.string T) ∧ Below w.heap.size w w' := by
  cases six
  · exact ⟨_, fun w G => textA_four B hB w G, fun w => refText_four B hB w⟩
  · exact ⟨_, fun w G => textA_six B hB w G, fun w => refText_six B hB w⟩
theorem bytes_of {l : List Int} (h : ∀ i ∈ l, (Lit.int .u8 i).wf = true) : ∃ B : List UInt8, l.map (Value.int .u8) = B.map fun c => Value.int .u8 c.toNat := by
  induction l with
  | nil => exact ⟨[], rfl⟩
  | cons x l ih =>
    obtain ⟨B, hB⟩ := ih fun i hi => h i (by simp [hi])
    obtain ⟨c, hc⟩ := u8_of (h x (by simp))
    exact ⟨c :: B, by rw [List.map_cons, List.map_cons, hB, hc]⟩
theorem adr_of {b : Bool} {l : List Int} (hl : l.length = 16) (h : ∀ i ∈ l, (Lit.int .u8 i).wf = true) : ∃ B : List UInt8, B.length = 16 ∧ (⟨.bool b :: l.map (Value.int .u8)⟩ : Array Value) = adrC b B := by
  obtain ⟨B, hB⟩ := bytes_of h
  refine ⟨B, ?_, by rw [adrC, hB]⟩
  have := congrArg List.length hB
  simpa [hl] using this.symm
/-- The seventeen cells of an address. -/
theorem adr_cells (b : Bool) (B : List UInt8) (hB : B.length = 16) : ∃ x0 x1 x2 x3 x4 x5 x6 x7 x8 x9 x10 x11 x12 x13 x14 x15 x16 : Value, adrC b B = #[x0, x1, x2, x3, x4, x5, x6, x7, x8, x9, x10, x11, x12, x13, x14, x15, x16] := by
  match B, hB with
  | [_, _, _, _, _, _, _, _, _, _, _, _, _, _, _, _], _ => exact ⟨_, _, _, _, _, _, _, _, _, _, _, _, _, _, _, _, _, rfl⟩
/-- The address lies there whole, in block g. -/
def AdrIn (w : World) (g : Nat) (x0 x1 x2 x3 x4 x5 x6 x7 x8 x9 x10 x11 x12 x13 x14 x15 x16 : Value) (u : World) : Prop := (u.cell? ⟨g, 0, none⟩ = some x0 ∧ u.cell? ⟨g, 1, none⟩ = some x1 ∧ u.cell? ⟨g, 2, none⟩ = some x2 ∧ u.cell? ⟨g, 3, none⟩ = some x3 ∧ u.cell? ⟨g, 4, none⟩ = some x4 ∧ u.cell? ⟨g, 5, none⟩ = some x5 ∧ u.cell? ⟨g, 6, none⟩ = some x6 ∧ u.cell? ⟨g, 7, none⟩ = some x7 ∧ u.cell? ⟨g, 8, none⟩ = some x8 ∧ u.cell? ⟨g, 9, none⟩ = some x9 ∧ u.cell? ⟨g, 10, none⟩ = some x10 ∧ u.cell? ⟨g, 11, none⟩ = some x11 ∧ u.cell? ⟨g, 12, none⟩ = some x12 ∧ u.cell? ⟨g, 13, none⟩ = some x13 ∧ u.cell? ⟨g, 14, none⟩ = some x14 ∧ u.cell? ⟨g, 15, none⟩ = some x15 ∧ u.cell? ⟨g, 16, none⟩ = some x16) ∧ Below w.heap.size w u ∧ g < u.heap.size
theorem AdrIn.go {w u v : World} {g : Nat} {x0 x1 x2 x3 x4 x5 x6 x7 x8 x9 x10 x11 x12 x13 x14 x15 x16 : Value} (h : AdrIn w g x0 x1 x2 x3 x4 x5 x6 x7 x8 x9 x10 x11 x12 x13 x14 x15 x16 u) (hb : Below u.heap.size u v) : AdrIn w g x0 x1 x2 x3 x4 x5 x6 x7 x8 x9 x10 x11 x12 x13 x14 x15 x16 v := by
  obtain ⟨⟨h1_0, h1_1, h1_2, h1_3, h1_4, h1_5, h1_6, h1_7, h1_8, h1_9, h1_10, h1_11, h1_12, h1_13, h1_14, h1_15, h1_16⟩, h2, h3⟩ := h
  refine ⟨⟨?_, ?_, ?_, ?_, ?_, ?_, ?_, ?_, ?_, ?_, ?_, ?_, ?_, ?_, ?_, ?_, ?_⟩, below_chain h2 hb, Nat.lt_of_lt_of_le h3 hb.size⟩
  all_goals (rw [hb.cell (by exact h3)]; assumption)
theorem AdrIn.bel {w u : World} {g : Nat} {x0 x1 x2 x3 x4 x5 x6 x7 x8 x9 x10 x11 x12 x13 x14 x15 x16 : Value} (h : AdrIn w g x0 x1 x2 x3 x4 x5 x6 x7 x8 x9 x10 x11 x12 x13 x14 x15 x16 u) : Below w.heap.size w u := h.2.1
theorem AdrIn.new (w : World) (x0 x1 x2 x3 x4 x5 x6 x7 x8 x9 x10 x11 x12 x13 x14 x15 x16 : Value) (t : TypeId) : AdrIn w w.heap.size x0 x1 x2 x3 x4 x5 x6 x7 x8 x9 x10 x11 x12 x13 x14 x15 x16 (w.alloc (.cells #[x0, x1, x2, x3, x4, x5, x6, x7, x8, x9, x10, x11, x12, x13, x14, x15, x16] t)).drew := by
  refine ⟨⟨?_, ?_, ?_, ?_, ?_, ?_, ?_, ?_, ?_, ?_, ?_, ?_, ?_, ?_, ?_, ?_, ?_⟩, ((Below.refl _ _).alloc (Nat.le_refl _) _).drew, by simp⟩
  all_goals
    show (w.alloc (.cells #[x0, x1, x2, x3, x4, x5, x6, x7, x8, x9, x10, x11, x12, x13, x14, x15, x16] t)).cell? _ = _
    rw [cell_of_row _ _ _ _ _ _ (heap_alloc_new _ _)]
    rfl
set_option maxHeartbeats 1000000 in
set_option maxRecDepth 100000 in
theorem addrsTexts_walk (b : Bool) (l : List Int) (hl : l.length = 16) (wl : ∀ i ∈ l, (Lit.int .u8 i).wf = true) (w : World) (hL : laidMetH Tryd.prog Rows.addrsTextsRow.laid w) (_hsh : w.ShapedOpen Tryd.prog) :
    Calls Tryd.prog 3 #[.agg ⟨.bool b :: l.map (Value.int .u8)⟩] w fun e w' => e = .returned (.bool true) ∧ Below w.heap.size w w' := by
  have G := hid (goodA_of hL (by kernel_rfl) (by kernel_rfl))
  clear hL
  obtain ⟨B, hB, e⟩ := adr_of (b := b) hl wl
  rw [e]
  clear e wl hl
  obtain ⟨T, hA, hR⟩ := textA_both b B hB
  obtain ⟨x0, x1, x2, x3, x4, x5, x6, x7, x8, x9, x10, x11, x12, x13, x14, x15, x16, hC⟩ := adr_cells b B hB
  rw [hC] at hA hR ⊢
  have HA := hid hA
  have HR := hid hR
  have Hin := hid (AdrIn.new w x0 x1 x2 x3 x4 x5 x6 x7 x8 x9 x10 x11 x12 x13 x14 x15 x16 24)
  clear hA hR hC hB
  go_enter Tryd.func3, Tryd.ntmps3
  go_wp2_with fail
  generalize w.alloc _ = w1 at *
  go_region_held3 (fun w' => (w'.cell? ⟨w.heap.size, 0, none⟩ = some x0 ∧ w'.cell? ⟨w.heap.size, 1, none⟩ = some x1 ∧ w'.cell? ⟨w.heap.size, 2, none⟩ = some x2 ∧ w'.cell? ⟨w.heap.size, 3, none⟩ = some x3 ∧ w'.cell? ⟨w.heap.size, 4, none⟩ = some x4 ∧ w'.cell? ⟨w.heap.size, 5, none⟩ = some x5 ∧ w'.cell? ⟨w.heap.size, 6, none⟩ = some x6 ∧ w'.cell? ⟨w.heap.size, 7, none⟩ = some x7 ∧ w'.cell? ⟨w.heap.size, 8, none⟩ = some x8 ∧ w'.cell? ⟨w.heap.size, 9, none⟩ = some x9 ∧ w'.cell? ⟨w.heap.size, 10, none⟩ = some x10 ∧ w'.cell? ⟨w.heap.size, 11, none⟩ = some x11 ∧ w'.cell? ⟨w.heap.size, 12, none⟩ = some x12 ∧ w'.cell? ⟨w.heap.size, 13, none⟩ = some x13 ∧ w'.cell? ⟨w.heap.size, 14, none⟩ = some x14 ∧ w'.cell? ⟨w.heap.size, 15, none⟩ = some x15 ∧ w'.cell? ⟨w.heap.size, 16, none⟩ = some x16) ∧ Below w.heap.size w w' ∧ w.heap.size < w'.heap.size)
    (first
      | exact AdrIn.go ‹_› ‹_›
      | exact Hin.out)
    (first
      | (go_at_call 11; refine (HA.out _ (G.out.below (AdrIn.bel (by assumption)))).mono ?_; rintro e w1 ⟨rfl, hb1⟩)
      | (go_at_call 12; refine (HR.out _).mono ?_; rintro e w1 ⟨rfl, hb1⟩))
  rename_i hH
  obtain ⟨-, hBB, -⟩ := hH
  go_wp2
  go_ret
  exact ⟨rfl, hBB⟩
end Go.Proofs.YtiookngmgednjaaDoor
