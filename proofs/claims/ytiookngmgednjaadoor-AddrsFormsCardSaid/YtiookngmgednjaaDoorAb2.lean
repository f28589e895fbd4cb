/- Small words for chapter 04's outright laws: texts added, a byte as a text, a load behind a guard. -/
import Derived.Test.YtiookngmgednjaaDoorAb1
namespace Go.Proofs.YtiookngmgednjaaDoor
open Go.RowKit Go.Lib Go.Proofs.Foot

theorem good_below {w0 w : World} (G : Amb w0) (hb : Below w0.heap.size w0 w) : Amb w := G.below hb
/-- 'string(b)', b a row of one known byte. -/
theorem conv1 (c : UInt8) (W : World) (g : Nat) (hc : W.cell? ⟨g, 0, none⟩ = some (.int .u8 c.toNat)) :
    (convert 42 9 (.slice (some ⟨g, 0, none⟩) 1 1)).run Tryd.prog W = .ok (.string ⟨#[c]⟩) W :=
  run_convert_bytes_back (P := Tryd.prog) W 42 9 5 ⟨g, 0, none⟩ 1 [c] Tryd.underlying42 Tryd.underlying5 Tryd.underlying9 (fun j hj => by
    obtain rfl : j = 0 := by simp at hj; omega
    exact hc)
theorem cell1 (c : UInt8) (W : World) : (W.alloc (.cells #[.int .u8 c.toNat] 5)).cell? ⟨W.heap.size, 0, none⟩ = some (.int .u8 c.toNat) := by
  rw [World.cell?_alloc_at _ _ _ _ rfl]; rfl
theorem addS {s t r : ByteArray} (hr : r = s ++ t) (hs : (s.size : Int) ≤ 8388608) (ht : (t.size : Int) ≤ 8388608) : ∀ V, (Op.stringOp .add s t).run Tryd.prog V = .ok (.string r) V := fun V => by rw [hr]; exact run_string_add V _ _ hs ht
theorem catL (s t : ByteArray) : (s ++ t).data.toList = s.data.toList ++ t.data.toList := by simp [ByteArray.data_append]
theorem catZ (s t : ByteArray) : (s ++ t).size = s.size + t.size := by rw [Lib.size_eq, catL, List.length_append, ← Lib.size_eq, ← Lib.size_eq]
/-- The load of an address behind a guard that holds. -/
theorem load_adrG {ops : Array Oper} {rest : List Oper} {o : Oper} {a : Act} {w : World} {Q : Exit → Act → World → Prop} (hw : Region.wanted o (yielded ops a.tmps) = true) (x : Operand) (ho : o.op = .load 24 x)
    (g : Nat) (hx : a.eval x = .pointer (some ⟨g, 0, none⟩)) (t : TypeId) (cs : Array Value) (fr : Nat × Nat) (hg : w.heap[g]? = some (.cells cs t fr)) (hi : (Tryd.prog.info? 24).map (·.size) = some cs.size)
    (h : wpList Tryd.prog ops Q rest (a.put o.dst (.agg cs)) w) : wpList Tryd.prog ops Q (o :: rest) a w := by
  refine wpList_step fun K hK => ?_
  rw [if_pos hw]
  exact wp_load_row 24 x ho g hx t cs fr _ hg Tryd.underlying24 rfl hi (hK _ _ h)
end Go.Proofs.YtiookngmgednjaaDoor
