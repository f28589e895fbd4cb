/- What the program's error variables say of the world; an address's block; the length of Four's answer. -/
import Derived.Test.YtiookngmgednjaaDoorAd13
import Derived.Test.YtiookngmgednjaaDoorLaid
namespace Go.Proofs.YtiookngmgednjaaDoor
open Go.RowKit Go.Lib Go.Proofs.Foot

theorem goodE_of {laid : List (String × DataW Unit)} {w : World} (D1 D2 : DataW Unit) (hD1 : ∃ nm d, D1 = .iface nm d) (hD2 : ∃ nm d, D2 = .iface nm d) (hL : laidMetH Tryd.prog laid w)
    (hf1 : (laid.filter fun x => x.1 == "strconv.ErrSyntax") = [("strconv.ErrSyntax", D1)]) (hf2 : (laid.filter fun x => x.1 == "strconv.ErrRange") = [("strconv.ErrRange", D2)]) (hn1 : D1.handleName? = none) (hn2 : D2.handleName? = none) : GoodE w := by
  obtain ⟨t1, p1, h1⟩ := laid_iface D1 hD1 hL (show Tryd.prog.globalNamed "strconv.ErrSyntax" = some 6 by kernel_rfl) (show (Tryd.prog.globals[6]?).map (·.type) = some 70 by kernel_rfl) ⟨_, Tryd.underlying70⟩ hf1 hn1
  obtain ⟨t2, p2, h2⟩ := laid_iface D2 hD2 hL (show Tryd.prog.globalNamed "strconv.ErrRange" = some 7 by kernel_rfl) (show (Tryd.prog.globals[7]?).map (·.type) = some 70 by kernel_rfl) ⟨_, Tryd.underlying70⟩ hf2 hn2
  exact ⟨⟨_, h1, .inr ⟨_, _, rfl⟩⟩, _, h2, .inr ⟨_, _, rfl⟩⟩
theorem fourR_len (o : Option Nat) : (fourR o).1.length = 16 := by cases o <;> rfl
theorem fourS_len (l : List UInt8) : (fourS l).1.length = 16 := by
  rw [fourS_is (l := l) rfl rfl]
  split
  · split
    · rfl
    · exact fourR_len _
  · rfl
/-- The block of an address just laid and stored. -/
theorem laid_row (w : World) (Z C : Array Value) (t : TypeId) : ((w.alloc (.cells Z t)).setRow w.heap.size C).heap[w.heap.size]? = some (.cells C t (0, 0)) := setRow_heap _ _ _ _ _ _ (heap_alloc_new _ _)
theorem laid_below (w : World) (Z C : Array Value) (t : TypeId) : Below w.heap.size w ((w.alloc (.cells Z t)).setRow w.heap.size C) := below_setRow ((Below.refl _ _).alloc (Nat.le_refl _) _) (Nat.le_refl _) _
theorem laid_size (w : World) (Z C : Array Value) (t : TypeId) : w.heap.size < ((w.alloc (.cells Z t)).setRow w.heap.size C).heap.size := (Array.getElem?_eq_some_iff.1 (laid_row w Z C t)).1
end Go.Proofs.YtiookngmgednjaaDoor
