/- Small laws for AddrsForms: the text after some parts, and numbers of 32 bits shifted. -/
import Derived.Test.YtiookngmgednjaaDoorDg4
import Derived.Test.YtiookngmgednjaaDoorSpec04f
import Derived.Laws.BitsAllLaws
namespace Go.Proofs.YtiookngmgednjaaDoor
open Go.RowKit Go.Lib Go.Proofs.Foot

/-- The text after i parts of k. -/
def tF (n : Nat) (f : Nat → Nat) (k : Nat) : Nat → List UInt8
  | 0 => []
  | i + 1 => tF n f k i ++ ((if 0 < i then [46] else []) ++ formP (f i) (xOf n k i))
theorem tF_all (n : Nat) (f : Nat → Nat) (k : Nat) (h1 : 1 ≤ k) (h4 : k ≤ 4) : tF n f k k = Lib.join (formL n f k) [46] := by
  obtain rfl | rfl | rfl | rfl : k = 1 ∨ k = 2 ∨ k = 3 ∨ k = 4 := by omega
  · show _ = Lib.join [formP (f 0) (xOf n 1 0)] [46]
    simp only [tF, Lib.join_one]; simp
  · show _ = Lib.join [formP (f 0) (xOf n 2 0), formP (f 1) (xOf n 2 1)] [46]
    simp only [tF, join_more, Lib.join_one]; simp
  · show _ = Lib.join [formP (f 0) (xOf n 3 0), formP (f 1) (xOf n 3 1), formP (f 2) (xOf n 3 2)] [46]
    simp only [tF, join_more, Lib.join_one]; simp
  · show _ = Lib.join [formP (f 0) (xOf n 4 0), formP (f 1) (xOf n 4 1), formP (f 2) (xOf n 4 2), formP (f 3) (xOf n 4 3)] [46]
    simp only [tF, join_more, Lib.join_one]; simp
theorem form_len (f n : Nat) (hn : n < 4294967296) : (formP f n).length ≤ 37 := by
  have h : ∀ b, 2 ≤ b → (baseD b n).length ≤ 32 := fun b hb => baseD_le hb 32 n (by omega) (by rw [show (2 : Nat) ^ 32 = 4294967296 from rfl]; exact hn)
  have h8 := h 8 (by omega)
  have h10 := h 10 (by omega)
  have h16 := h 16 (by omega)
  unfold formP
  split
  · omega
  · split
    · simp only [List.length_cons]; omega
    · split
      · simp only [List.length_cons]; omega
      · split
        · simp only [List.length_cons]; omega
        · simp only [List.length_cons]; omega
theorem xOf_lt (n k i : Nat) : xOf n k i < 4294967296 := by
  unfold xOf
  split
  · have h : n % 2 ^ (32 - 8 * i) < 2 ^ (32 - 8 * i) := Nat.mod_lt _ (Nat.pow_pos (by omega))
    have h2 : (2 : Nat) ^ (32 - 8 * i) ≤ 2 ^ 32 := Nat.pow_le_pow_right (by omega) (by omega)
    have h3 : (2 : Nat) ^ 32 = 4294967296 := rfl
    omega
  · omega
theorem tF_len (n : Nat) (f : Nat → Nat) (k i : Nat) : (tF n f k i).length ≤ 38 * i := by
  induction i with
  | zero => exact Nat.le_refl _
  | succ i ih =>
    have h1 : (if 0 < i then [46] else ([] : List UInt8)).length ≤ 1 := by split <;> simp
    have h2 := form_len (f i) (xOf n k i) (xOf_lt n k i)
    rw [tF, List.length_append, List.length_append]
    omega
theorem u32_in (x : Nat) (h : x < 4294967296) : IntKind.u32.wrap (x : Int) = (x : Int) := by rw [IntKind.wrap_u32']; omega
theorem u32_mask (x : Nat) (h : x < 4294967296) : bits .and .u32 (x : Int) 255 = ((x % 256 : Nat) : Int) := by
  have h1 := u32_and_nat x 255 h (by omega)
  rw [nat_mask8] at h1
  exact h1
theorem five_of {l : List Int} (hl : l.length = 5) (h : ∀ i ∈ l, (Lit.int .u8 i).wf = true) : ∃ b0 b1 b2 b3 b4 : UInt8, (⟨l.map (Value.int .u8)⟩ : Array Value) = #[.int .u8 b0.toNat, .int .u8 b1.toNat, .int .u8 b2.toNat, .int .u8 b3.toNat, .int .u8 b4.toNat] := by
  obtain ⟨B, hB⟩ := list_u8 h
  have hBl : B.length = 5 := by
    have := congrArg List.length hB
    simpa [hl] using this.symm
  match B, hBl with
  | [b0, b1, b2, b3, b4], _ =>
    exact ⟨b0, b1, b2, b3, b4, by rw [hB]; rfl⟩
/-- Addresses in their blocks, and an array of five bytes in one. -/
structure Boxf (w0 : World) (L : List (Nat × Array Value)) (g : Nat) (D : Array Value) (W : World) : Prop where
  adr : Adrs w0 L W
  box : W.heap[g]? = some (.cells D 38 (0, 0))
theorem Boxf.go {w0 w w' : World} {L : List (Nat × Array Value)} {g : Nat} {D : Array Value} (h : Boxf w0 L g D w) (hb : Below w.heap.size w w') : Boxf w0 L g D w' :=
  ⟨h.adr.go hb, (hb.block g (Array.getElem?_eq_some_iff.1 h.box).1).trans h.box⟩
theorem Boxf.drew {w0 w : World} {L : List (Nat × Array Value)} {g : Nat} {D : Array Value} (h : Boxf w0 L g D w) : Boxf w0 L g D w.drew := ⟨h.adr.drew, h.box⟩
theorem Boxf.add {w0 w : World} {L : List (Nat × Array Value)} {g : Nat} {D : Array Value} (h : Boxf w0 L g D w) (Z C : Array Value) : Boxf w0 ((w.heap.size, C) :: L) g D ((w.alloc (.cells Z 24)).setRow w.heap.size C) :=
  ⟨h.adr.add Z C, ((laid_below w Z C 24).block g (Array.getElem?_eq_some_iff.1 h.box).1).trans h.box⟩
theorem Boxf.cell {w0 w : World} {L : List (Nat × Array Value)} {g : Nat} {D : Array Value} (h : Boxf w0 L g D w) {k : Nat} {v : Value} (hv : D[k]? = some v) : w.cell? ⟨g, k, none⟩ = some v := by
  rw [cell_of_row _ _ _ _ _ _ h.box]; exact hv
theorem Boxf.start (w : World) (D : Array Value) : Boxf w [] w.heap.size D (w.alloc (.cells D 38)) :=
  ⟨⟨fun p hp => (by cases hp), (Below.refl _ _).alloc (Nat.le_refl _) _⟩, heap_alloc_new _ _⟩
theorem yields_boxf {ops : Array Oper} {op : Oper} {a : Act} {w0 : World} {L : List (Nat × Array Value)} {g b : Nat} {C D : Array Value} (hw : Region.wanted op (yielded ops a.tmps) = true) (x : Operand) (ho : op.op = .load 24 x)
    (hx : a.eval x = .pointer (some ⟨g, 0, none⟩)) (hm : (g, C) ∈ L) (h17 : (Tryd.prog.info? 24).map (·.size) = some C.size) : YieldsIf Tryd.prog ops (fun W => Boxf w0 L b D W) op (.agg C) a :=
  .inl ⟨hw, fun w hw' => by
    unfold execOp
    simp only [ho, hx, Instr.loadAt, Instr.sureAddr, Sem.run_bind, Sem.run_pure, Result.andThen_ok, Adrs.load hm h17 w hw'.adr]⟩
end Go.Proofs.YtiookngmgednjaaDoor
