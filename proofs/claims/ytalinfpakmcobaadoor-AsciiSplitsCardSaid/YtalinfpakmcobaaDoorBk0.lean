/- A Book of two lists of texts: what lies where. -/
import Derived.Test.YtalinfpakmcobaaDoorAlv1
import Derived.Test.YtalinfpakmcobaaDoorAppS
import Derived.Laws.OwnMore
import Derived.Deep.MidRow
namespace Go.Proofs.YtalinfpakmcobaaDoor
open Go.RowKit Go.Lib Go.Proofs.Foot

/-- The mark of list n, as a text. -/
def mkT (n : Nat) : ByteArray := ⟨#[35, UInt8.ofNat (48 + n)]⟩
/-- A Book's cells: so many lists, all of texts. -/
def bkC (n : Nat) (tv : Value) : Array Value := #[.int .i64 n, .slice none 0 0, .slice none 0 0, tv, .slice none 0 0, .slice none 0 0, .slice none 0 0, .slice none 0 0, .slice none 0 0]
def Bk (w : World) (g n : Nat) (tv : Value) : Prop := w.heap[g]? = some (.cells (bkC n tv) 37 (0, 0))
theorem Bk.cell {w : World} {g n : Nat} {tv : Value} (h : Bk w g n tv) {k : Nat} {v : Value} (hv : (bkC n tv)[k]? = some v) : w.cell? ⟨g, k, none⟩ = some v := by
  rw [cell_of_row _ _ _ _ _ _ h]; exact hv
theorem Bk.free {w : World} {g n : Nat} {tv : Value} (h : Bk w g n tv) (k : Nat) : w.frozen? ⟨g, k, none⟩ = false := frozen_of_heap h k
theorem Bk.lt {w : World} {g n : Nat} {tv : Value} (h : Bk w g n tv) : g < w.heap.size := (Array.getElem?_eq_some_iff.1 h).1
theorem Bk.kept {w w' : World} {g n : Nat} {tv : Value} (h : Bk w g n tv) (hb : w'.heap[g]? = w.heap[g]?) : Bk w' g n tv := hb.trans h
/-- What lies of list number 'm' in the row. -/
def heldC (g n : Nat) (v : Value) (m : Nat) : List Value := [.slice (some ⟨g, 0, none⟩) n n, v, .int .i64 m]
/-- The blocks of a Book of two lists, none of them the other. -/
structure Dis (B gk gt ga gb : Nat) : Prop where
  k : B ≤ gk
  t : B ≤ gt
  a : B ≤ ga
  b : B ≤ gb
  kt : gk ≠ gt
  ka : gk ≠ ga
  kb : gk ≠ gb
  ta : gt ≠ ga
  tb : gt ≠ gb
  ab : ga ≠ gb
/-- A Book of two lists of n texts: A in block ga, B in block gb; what was put behind them: va, vb. -/
structure Pz (w0 : World) (gk gt cap ga gb n : Nat) (va vb : Value) (A B : List ByteArray) (w : World) : Prop where
  bk : Bk w gk 2 (.slice (some ⟨gt, 0, none⟩) 2 cap)
  own : w.ownsRow w0.heap.size 72 3 (.slice (some ⟨gt, 0, none⟩) 2 cap) 2 (heldC ga n va 1 ++ heldC gb n vb 2)
  ta : Texts w ga A
  tb : Texts w gb B
  below : Below w0.heap.size w0 w
section
variable {w0 w w' : World} {gk gt cap ga gb n : Nat} {va vb : Value} {A B : List ByteArray}
theorem own_lt {w : World} {B0 : Nat} {e : TypeId} {g n cap : Nat} {xs : List Value} {sz : Nat} (h : w.ownsRow B0 e sz (.slice (some ⟨g, 0, none⟩) n cap) n xs) : g < w.heap.size := (h.lt g rfl).2
theorem Pz.go (h : Pz w0 gk gt cap ga gb n va vb A B w) (hb : Below w.heap.size w w') : Pz w0 gk gt cap ga gb n va vb A B w' :=
  ⟨h.bk.kept (hb.block _ h.bk.lt), (Touch.of_below (S := fun _ => False) hb).own h.own (fun _ _ hf => hf), h.ta.below hb h.ta.lt, h.tb.below hb h.tb.lt, below_chain h.below hb⟩
theorem Pz.drew (h : Pz w0 gk gt cap ga gb n va vb A B w) : Pz w0 gk gt cap ga gb n va vb A B w.drew := ⟨h.bk, h.own, h.ta, h.tb, h.below.drew⟩
theorem texts_other {w : World} {g g' k : Nat} {l : List ByteArray} {v : Value} (h : Texts w g l) (hne : g' ≠ g) : Texts (w.setCell ⟨g', k, none⟩ v) g l :=
  (heap_setCell_other w ⟨g', k, none⟩ g v (fun e => hne e.symm)).trans h
theorem own_other {w : World} {B0 : Nat} {e : TypeId} {sz : Nat} {g n cap : Nat} {xs : List Value} {g' k : Nat} {v : Value} (h : w.ownsRow B0 e sz (.slice (some ⟨g, 0, none⟩) n cap) n xs) (hne : g' ≠ g) : (w.setCell ⟨g', k, none⟩ v).ownsRow B0 e sz (.slice (some ⟨g, 0, none⟩) n cap) n xs :=
  (((Touch.refl (fun b => b = g') w).setCell (p := ⟨g', k, none⟩) (.inl rfl) v)).own h (fun b hb he => by
    simp only [Value.ownBlock, Option.some.injEq] at hb
    exact hne (he.symm.trans hb.symm))
theorem bk_other {w : World} {g m : Nat} {tv : Value} {g' k : Nat} {v : Value} (h : Bk w g m tv) (hne : g' ≠ g) : Bk (w.setCell ⟨g', k, none⟩ v) g m tv :=
  h.kept (heap_setCell_other w ⟨g', k, none⟩ g v (fun e => hne e.symm))
theorem Pz.setA (h : Pz w0 gk gt cap ga gb n va vb A B w) (d : Dis w0.heap.size gk gt ga gb) (k : Nat) (t : ByteArray) : Pz w0 gk gt cap ga gb n va vb (A.set k t) B (w.setCell ⟨ga, k, none⟩ (.string t)) :=
  ⟨bk_other h.bk d.ka.symm, own_other h.own d.ta.symm, h.ta.set k t, texts_other h.tb d.ab, h.below.setCell d.a _⟩
theorem Pz.setB (h : Pz w0 gk gt cap ga gb n va vb A B w) (d : Dis w0.heap.size gk gt ga gb) (k : Nat) (t : ByteArray) : Pz w0 gk gt cap ga gb n va vb A (B.set k t) (w.setCell ⟨gb, k, none⟩ (.string t)) :=
  ⟨bk_other h.bk d.kb.symm, own_other h.own d.tb.symm, texts_other h.ta d.ab.symm, h.tb.set k t, h.below.setCell d.b _⟩
theorem Pz.longA (h : Pz w0 gk gt cap ga gb n va vb A B w) (d : Dis w0.heap.size gk gt ga gb) (v : Value) : Pz w0 gk gt cap ga gb n v vb A B (w.setCell ⟨gt, 1, none⟩ v) :=
  ⟨bk_other h.bk d.kt.symm, (h.own.stored 1 v).1, texts_other h.ta d.ta, texts_other h.tb d.tb, h.below.setCell d.t _⟩
theorem Pz.longB (h : Pz w0 gk gt cap ga gb n va vb A B w) (d : Dis w0.heap.size gk gt ga gb) (v : Value) : Pz w0 gk gt cap ga gb n va v A B (w.setCell ⟨gt, 4, none⟩ v) :=
  ⟨bk_other h.bk d.kt.symm, (h.own.stored 4 v).1, texts_other h.ta d.ta, texts_other h.tb d.tb, h.below.setCell d.t _⟩
theorem Pz.rangeA (h : Pz w0 gk gt cap ga gb n va vb A B w) : w.rangeAt gt 0 (heldC ga n va 1) := fun j v hv => by
  have hj : j < 3 := (List.getElem?_eq_some_iff.1 hv).1
  rw [show 0 + j = j from by omega, h.own.cellAt j (by omega), ← hv]
  exact List.getElem?_append_left (by show j < 3; exact hj)
theorem Pz.rangeB (h : Pz w0 gk gt cap ga gb n va vb A B w) : w.rangeAt gt 3 (heldC gb n vb 2) := fun j v hv => by
  have hj : j < 3 := (List.getElem?_eq_some_iff.1 hv).1
  rw [h.own.cellAt (3 + j) (by omega), ← hv]
  rw [List.getElem?_append_right (by show 3 ≤ 3 + j; omega)]
  congr 1
  show 3 + j - 3 = j; omega
end
end Go.Proofs.YtalinfpakmcobaaDoor
