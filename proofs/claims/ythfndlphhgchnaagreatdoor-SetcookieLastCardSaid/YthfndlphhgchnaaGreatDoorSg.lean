/- Walk: setcookie.Text's closure: a part is added. -/
import Derived.Test.YthfndlphhgchnaaGreatDoorSf
import Derived.Test.YthfndlphhgchnaaGreatDoorTxA
namespace Go.Proofs.YthfndlphhgchnaaGreatDoor
open Go.RowKit Go.Lib Go.Proofs.Foot

/-- The cookie in block bt; the parts so far in a row behind the variable in block gl. -/
structure TL (w0 : World) (bt gl : Nat) (t : CkT) (ps : List ByteArray) (w : World) : Prop where
  row : Blk w bt 24 (rowC t)
  cell : ∃ ao cap, w.heap[gl]? = some (.cells #[.slice ao ps.length cap] 44 (0, 0)) ∧ w.ownsRow (bt + 1) 9 1 (.slice ao ps.length cap) ps.length (ps.map Value.string) ∧ (Value.slice ao ps.length cap).ownBlock ≠ some gl
  below : Below w0.heap.size w0 w
  lt : w0.heap.size ≤ bt
  gl : bt < gl
theorem TL.glt {w0 w : World} {bt gl : Nat} {t : CkT} {ps : List ByteArray} (h : TL w0 bt gl t ps w) : gl < w.heap.size := by
  obtain ⟨_, _, h1, _⟩ := h.cell
  exact (Array.getElem?_eq_some_iff.1 h1).1
theorem TL.touch {w0 w w' : World} {bt gl : Nat} {t : CkT} {ps : List ByteArray} (h : TL w0 bt gl t ps w) (hb : Below w.heap.size w w') : TL w0 bt gl t ps w' := by
  obtain ⟨ao, cap, h1, h2, h3⟩ := h.cell
  have ht : Touch (fun _ => False) w w' := Touch.of_below hb
  exact ⟨h.row.keep hb, ⟨ao, cap, (hb.block gl h.glt).trans h1, ht.own h2 (fun _ _ h => h), h3⟩, below_chain h.below hb, h.lt, h.gl⟩
theorem TL.drew {w0 w : World} {bt gl : Nat} {t : CkT} {ps : List ByteArray} (h : TL w0 bt gl t ps w) : TL w0 bt gl t ps w.drew := by
  obtain ⟨ao, cap, h1, h2, h3⟩ := h.cell
  exact ⟨h.row.drew, ⟨ao, cap, h1, h2, h3⟩, h.below.drew, h.lt, h.gl⟩
def AddR (w0 : World) (bt gl : Nat) (t : CkT) (ps : List ByteArray) (e : Ending) (w' : World) : Prop := e = .returned (.tuple #[]) ∧ TL w0 bt gl t ps w'
set_option maxHeartbeats 1000000 in
theorem add_yes (w0 : World) (bt gl : Nat) (t : CkT) (ps : List ByteArray) (hps : ps.length ≤ 100) (x : ByteArray) (w : World) (h : TL w0 bt gl t ps w) :
    Calls Tryz.prog 32 #[.bool true, .string x, .pointer (some ⟨gl, 0, none⟩)] w (AddR w0 bt gl t (ps ++ [x])) := by
  obtain ⟨ao, cap, h1, h2, h3⟩ := h.cell
  have hc : w.cell? ⟨gl, 0, none⟩ = some (.slice ao ps.length cap) := by rw [cell_of_row _ _ _ _ _ _ h1]; rfl
  have hf : w.frozen? ⟨gl, 0, none⟩ = false := frozen_of_row w gl 0 _ _ h1
  have H := hid h
  have H1 := hid h1
  have H2 := hid h2
  have H3 := hid h3
  have hlt := h.glt
  have hlb := h.gl
  clear h h1 h2 h3
  go_enter Tryz.func32, Tryz.ntmps32
  go_wp2_with (at_builtin; refine appS1 rfl _ _ rfl rfl (bt + 1) ps x (.slice ao ps.length cap) rfl H2.out rfl (by omega) (by omega) ?_; intro v' w5 happ; obtain ⟨ao2, cap2, rfl⟩ := slice_of_rowS happ.1; have h5 : w5.heap[gl]? = some (.cells #[.slice ao ps.length cap] 44 (0, 0)) := (happ.2.1.block gl hlt H3.out).trans H1.out; have hc5 : w5.cell? ⟨gl, 0, none⟩ = some (.slice ao ps.length cap) := (by rw [cell_of_row _ _ _ _ _ _ h5]; rfl); have hf5 : w5.frozen? ⟨gl, 0, none⟩ = false := frozen_of_row w5 gl 0 _ _ h5; have Happ := hid happ; have H5 := hid h5; clear happ h5)
  go_end0
  have e1 : ps.length + 1 = (ps ++ [x]).length := by simp
  rw [e1]
  refine ⟨rfl, ?_⟩
  have hh := H.out
  have hn : ∀ k, k ≠ gl → (w5.setCell ⟨gl, 0, none⟩ (.slice ao2 (ps ++ [x]).length cap2)).heap[k]? = w5.heap[k]? := fun k hk => Below.heap_setCell w5 ⟨gl, 0, none⟩ _ k hk
  have hbt : bt < w.heap.size := hh.row.lt
  have hown := H2.out
  have hob : (Value.slice ao ps.length cap).ownBlock ≠ some bt := fun e => by
    have := (hown.lt bt e).1
    omega
  have hob2 : (Value.slice ao2 (ps ++ [x]).length cap2).ownBlock ≠ some gl := fun e => by
    rcases Happ.out.2.2 gl e with h | h
    · exact H3.out h
    · omega
  have hT : Touch (fun k => k = gl) w5 (w5.setCell ⟨gl, 0, none⟩ (.slice ao2 (ps ++ [x]).length cap2)) := Touch.setCell (S := fun k => k = gl) (Touch.refl _ w5) (p := ⟨gl, 0, none⟩) (.inl rfl) _
  refine ⟨?_, ⟨ao2, cap2, ?_, hT.own Happ.out.1 (fun k hk e => hob2 (by rw [hk, e])), hob2⟩, ?_, hh.lt, hh.gl⟩
  · exact (hn bt (by omega)).trans ((Happ.out.2.1.block bt hbt hob).trans hh.row)
  · rw [heap_setCell_same w5 gl 0 _ _ (.slice ao2 (ps ++ [x]).length cap2) H5.out]; rfl
  · have hb := Happ.out.below hown hh.below (by have := hh.lt; omega)
    exact hb.setCell (show w0.heap.size ≤ gl from Nat.le_trans hh.lt (Nat.le_of_lt hlb)) _
theorem add_no (w0 : World) (bt gl : Nat) (t : CkT) (ps : List ByteArray) (x : ByteArray) (w : World) (h : TL w0 bt gl t ps w) :
    Calls Tryz.prog 32 #[.bool false, .string x, .pointer (some ⟨gl, 0, none⟩)] w (AddR w0 bt gl t ps) := by
  have H := hid h
  clear h
  go_enter Tryz.func32, Tryz.ntmps32
  go_wp2
  go_end0
  exact ⟨rfl, H.out⟩
end Go.Proofs.YthfndlphhgchnaaGreatDoor
