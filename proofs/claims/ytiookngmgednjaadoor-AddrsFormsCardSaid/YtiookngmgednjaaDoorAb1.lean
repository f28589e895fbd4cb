/- Bytes of a statement's argument, and what a drawn region may load. -/
import Derived.Test.YtiookngmgednjaaDoorAl4
import Derived.Test.YtiookngmgednjaaDoorSpec04e
import Derived.Test.YtiookngmgednjaaDoorRows
import Derived.Test.YtiookngmgednjaaDoorBeyond
namespace Go.Proofs.YtiookngmgednjaaDoor
open Go.RowKit Go.Lib Go.Proofs.Foot

theorem list_u8 {l : List Int} (h : ∀ i ∈ l, (Lit.int .u8 i).wf = true) : ∃ B : List UInt8, l.map (Value.int .u8) = B.map fun c => Value.int .u8 c.toNat := by
  induction l with
  | nil => exact ⟨[], rfl⟩
  | cons x l ih =>
    obtain ⟨B, hB⟩ := ih fun i hi => h i (by simp [hi])
    obtain ⟨c, hc⟩ := u8_of (h x (by simp))
    exact ⟨c :: B, by rw [List.map_cons, List.map_cons, hB, hc]⟩
theorem sixteen_of {l : List Int} (hl : l.length = 16) (h : ∀ i ∈ l, (Lit.int .u8 i).wf = true) : ∃ b0 b1 b2 b3 b4 b5 b6 b7 b8 b9 b10 b11 b12 b13 b14 b15 : UInt8, (⟨l.map (Value.int .u8)⟩ : Array Value) = #[.int .u8 b0.toNat, .int .u8 b1.toNat, .int .u8 b2.toNat, .int .u8 b3.toNat, .int .u8 b4.toNat, .int .u8 b5.toNat, .int .u8 b6.toNat, .int .u8 b7.toNat, .int .u8 b8.toNat, .int .u8 b9.toNat, .int .u8 b10.toNat, .int .u8 b11.toNat, .int .u8 b12.toNat, .int .u8 b13.toNat, .int .u8 b14.toNat, .int .u8 b15.toNat] := by
  obtain ⟨B, hB⟩ := list_u8 h
  have hBl : B.length = 16 := by
    have := congrArg List.length hB
    simpa [hl] using this.symm
  match B, hBl with
  | [b0, b1, b2, b3, b4, b5, b6, b7, b8, b9, b10, b11, b12, b13, b14, b15], _ =>
    exact ⟨b0, b1, b2, b3, b4, b5, b6, b7, b8, b9, b10, b11, b12, b13, b14, b15, by rw [hB]; rfl⟩
theorem ambOf {laid : List (String × DataW Unit)} {w : World} (D1 D2 : DataW Unit) (hD1 : ∃ nm d, D1 = .iface nm d) (hD2 : ∃ nm d, D2 = .iface nm d) (hL : laidMetH Tryd.prog laid w) (hsh : w.ShapedOpen Tryd.prog)
    (hf1 : (laid.filter fun x => x.1 == "strconv.ErrSyntax") = [("strconv.ErrSyntax", D1)]) (hf2 : (laid.filter fun x => x.1 == "strconv.ErrRange") = [("strconv.ErrRange", D2)]) (hn1 : D1.handleName? = none) (hn2 : D2.handleName? = none)
    (hf3 : (laid.filter fun x => x.1 == "internal/strconv.uint64pow10") = [("internal/strconv.uint64pow10", Lib.tabData .u64 Lib.pow10Tab)])
    (hf4 : (laid.filter fun x => x.1 == "math/bits.deBruijn64tab") = [("math/bits.deBruijn64tab", Lib.tabData .u8 (Lib.deBruijn64tab.map fun (n : Nat) => (n : Int)))]) : Amb w :=
  ⟨goodE_of D1 D2 hD1 hD2 hL hf1 hf2 hn1 hn2, goodA_of hL hf3 hf4, hsh⟩
/-- Addresses in their blocks, and an array of bytes in one. -/
structure Boxed (w0 : World) (L : List (Nat × Array Value)) (g : Nat) (D : Array Value) (W : World) : Prop where
  adr : Adrs w0 L W
  box : W.heap[g]? = some (.cells D 22 (0, 0))
theorem Boxed.go {w0 w w' : World} {L : List (Nat × Array Value)} {g : Nat} {D : Array Value} (h : Boxed w0 L g D w) (hb : Below w.heap.size w w') : Boxed w0 L g D w' :=
  ⟨h.adr.go hb, (hb.block g (Array.getElem?_eq_some_iff.1 h.box).1).trans h.box⟩
theorem Boxed.drew {w0 w : World} {L : List (Nat × Array Value)} {g : Nat} {D : Array Value} (h : Boxed w0 L g D w) : Boxed w0 L g D w.drew := ⟨h.adr.drew, h.box⟩
theorem Boxed.add {w0 w : World} {L : List (Nat × Array Value)} {g : Nat} {D : Array Value} (h : Boxed w0 L g D w) (Z C : Array Value) : Boxed w0 ((w.heap.size, C) :: L) g D ((w.alloc (.cells Z 24)).setRow w.heap.size C) :=
  ⟨h.adr.add Z C, ((laid_below w Z C 24).block g (Array.getElem?_eq_some_iff.1 h.box).1).trans h.box⟩
theorem Boxed.cell {w0 w : World} {L : List (Nat × Array Value)} {g : Nat} {D : Array Value} (h : Boxed w0 L g D w) {k : Nat} {v : Value} (hv : D[k]? = some v) : w.cell? ⟨g, k, none⟩ = some v := by
  rw [cell_of_row _ _ _ _ _ _ h.box]; exact hv
theorem Boxed.start (w : World) (D : Array Value) : Boxed w [] w.heap.size D (w.alloc (.cells D 22)) :=
  ⟨⟨fun p hp => (by cases hp), (Below.refl _ _).alloc (Nat.le_refl _) _⟩, heap_alloc_new _ _⟩
theorem yields_boxed {ops : Array Oper} {op : Oper} {a : Act} {w0 : World} {L : List (Nat × Array Value)} {g b : Nat} {C D : Array Value} (hw : Region.wanted op (yielded ops a.tmps) = true) (x : Operand) (ho : op.op = .load 24 x)
    (hx : a.eval x = .pointer (some ⟨g, 0, none⟩)) (hm : (g, C) ∈ L) (h17 : (Tryd.prog.info? 24).map (·.size) = some C.size) : YieldsIf Tryd.prog ops (fun W => Boxed w0 L b D W) op (.agg C) a :=
  .inl ⟨hw, fun w hw' => by
    unfold execOp
    simp only [ho, hx, Instr.loadAt, Instr.sureAddr, Sem.run_bind, Sem.run_pure, Result.andThen_ok, Adrs.load hm h17 w hw'.adr]⟩
theorem yields_byte {ops : Array Oper} {op : Oper} {a : Act} {w0 : World} {L : List (Nat × Array Value)} {g k : Nat} {D : Array Value} {v : Value} (hw : Region.wanted op (yielded ops a.tmps) = true) (x : Operand) (ho : op.op = .load 5 x)
    (hx : a.eval x = .pointer (some ⟨g, k, none⟩)) (hv : D[k]? = some v) : YieldsIf Tryd.prog ops (fun W => Boxed w0 L g D W) op v a :=
  .inl ⟨hw, fun w hw' => by
    have hc := hw'.cell hv
    unfold execOp
    simp only [ho, hx, Instr.loadAt, Instr.sureAddr, Sem.run_bind, Sem.run_pure, Result.andThen_ok]
    go_simp⟩
end Go.Proofs.YtiookngmgednjaaDoor
