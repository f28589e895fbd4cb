/- Walk: the reference's Parse of chapter 11. -/
import Derived.Test.YtnmdcbneoipllaaDoorSt35
namespace Go.Proofs.YtnmdcbneoipllaaDoor
open Go.RowKit Go.Lib Go.Proofs.Foot

/-- The result's block and the wish's, of the call's own; below them nothing has turned. -/
structure RW (B : Nat) (w0 : World) (st : Wst) (wr : World) : Prop where
  res : wr.heap[B]? = some (.cells #[.int .i64 0, .bool false] 23 (0, 0))
  wish : wr.heap[B + 1]? = some (.cells #[.int .i64 st.age, .bool st.subs] 23 (0, 0))
  below : Below B w0 wr
theorem RW.start (w : World) : RW w.heap.size w ⟨[], 0, false⟩ ((w.alloc (.cells #[.int .i64 0, .bool false] 23)).alloc (.cells #[.int .i64 0, .bool false] 23)) := by
  have b1 : Below w.heap.size w (w.alloc (.cells #[.int .i64 0, .bool false] 23)) := (Below.refl _ _).alloc (Nat.le_refl _) _
  refine ⟨(Below.heap_alloc _ _ _ (by simp)).trans (heap_alloc_new _ _), ?_, b1.alloc (by simp) _⟩
  have := heap_alloc_new (w.alloc (.cells #[.int .i64 0, .bool false] 23)) (.cells #[.int .i64 0, .bool false] 23)
  simpa using this
theorem RW.lt {B : Nat} {w0 wr : World} {st : Wst} (h : RW B w0 st wr) : B + 1 < wr.heap.size := (Array.getElem?_eq_some_iff.1 h.wish).1
theorem RW.kept {B : Nat} {w0 wr w' : World} {st : Wst} (h : RW B w0 st wr) (hb : Below (B + 2) wr w') : RW B w0 st w' :=
  ⟨(hb.block B (by omega)).trans h.res, (hb.block (B + 1) (by omega)).trans h.wish, h.below.trans (hb.mono (by omega))⟩
theorem RW.more {B : Nat} {w0 wr w' : World} {st : Wst} (h : RW B w0 st wr) (hb : Below wr.heap.size wr w') : RW B w0 st w' := h.kept (hb.mono h.lt)
theorem RW.aged {B : Nat} {w0 wr : World} {st : Wst} (h : RW B w0 st wr) (n : Nat) (t : List (List UInt8)) : RW B w0 ⟨t, n, st.subs⟩ (wr.setCell ⟨B + 1, 0, none⟩ (.int .i64 n)) := by
  refine ⟨(Below.heap_setCell wr ⟨B + 1, 0, none⟩ _ B (by show B ≠ B + 1; omega)).trans h.res, ?_, h.below.setCell (Nat.le_succ _) _⟩
  rw [Go.heap_setCell_same wr (B + 1) 0 _ _ (.int .i64 n) h.wish]; rfl
theorem RW.subbed {B : Nat} {w0 wr : World} {st : Wst} (h : RW B w0 st wr) (t : List (List UInt8)) : RW B w0 ⟨t, st.age, true⟩ (wr.setCell ⟨B + 1, 1, none⟩ (.bool true)) := by
  refine ⟨(Below.heap_setCell wr ⟨B + 1, 1, none⟩ _ B (by show B ≠ B + 1; omega)).trans h.res, ?_, h.below.setCell (Nat.le_succ _) _⟩
  rw [Go.heap_setCell_same wr (B + 1) 1 _ _ (.bool true) h.wish]; rfl
theorem RW.told {B : Nat} {w0 wr : World} {st : Wst} (h : RW B w0 st wr) (t : List (List UInt8)) : RW B w0 ⟨t, st.age, st.subs⟩ wr := ⟨h.res, h.wish, h.below⟩
/-- Behind a store of the result. -/
theorem RW.store {B : Nat} {w0 wr : World} {st : Wst} (h : RW B w0 st wr) (a : Int) (b : Bool) : ((wr.setCell ⟨B, 0, none⟩ (.int .i64 a)).setCell ⟨B, 1, none⟩ (.bool b)).heap[B]? = some (.cells #[.int .i64 a, .bool b] 23 (0, 0)) ∧ Below B w0 ((wr.setCell ⟨B, 0, none⟩ (.int .i64 a)).setCell ⟨B, 1, none⟩ (.bool b)) := by
  refine ⟨?_, (h.below.setCell (Nat.le_refl _) _).setCell (Nat.le_refl _) _⟩
  have k1 := Go.heap_setCell_same wr B 0 _ _ (.int .i64 a) h.res
  have k2 := Go.heap_setCell_same _ B 1 _ _ (.bool b) k1
  rw [k2]; rfl
theorem own_set {w : World} {base b i : Nat} {e : TypeId} {size : Nat} {v x : Value} {n : Nat} {xs : List Value} (h : w.ownsRow base e size v n xs) (hb : b < base) : (w.setCell ⟨b, i, none⟩ x).ownsRow base e size v n xs :=
  ((Touch.refl (· = b) w).setCell (p := ⟨b, i, none⟩) (.inl rfl) x).own h (fun k hk hkb => by have := (h.lt k hk).1; omega)
/-- Block g holds the parts. -/
def PRow (g : Nat) (L : List ByteArray) (w : World) : Prop := ∃ (cur : Array Value) (m : Nat × Nat), w.heap[g]? = some (.cells cur 9 m) ∧ ∀ (j : Nat) t, L[j]? = some t → cur[j]? = some (.string t)
theorem PRow.cell {g : Nat} {L : List ByteArray} {w : World} (h : PRow g L w) {j : Nat} {t : ByteArray} (hj : L[j]? = some t) : w.cell? ⟨g, j, none⟩ = some (.string t) := by
  obtain ⟨cur, m, hg, hc⟩ := h
  rw [cell_of_row _ _ _ _ _ _ hg]; exact hc j t hj
theorem PRow.kept {g : Nat} {L : List ByteArray} {w w' : World} (h : PRow g L w) (hb : w'.heap[g]? = w.heap[g]?) : PRow g L w' := by
  obtain ⟨cur, m, hg, hc⟩ := h
  exact ⟨cur, m, hb.trans hg, hc⟩
theorem PRow.lt {g : Nat} {L : List ByteArray} {w : World} (h : PRow g L w) : g < w.heap.size := by
  obtain ⟨cur, m, hg, _⟩ := h
  exact (Array.getElem?_eq_some_iff.1 hg).1
theorem PRow.of_own {w : World} {base : Nat} {v : Value} {L : List ByteArray} (h : w.ownsRow base 9 1 v L.length (L.map Value.string)) (hn : 0 < L.length) : ∃ g cap, v = .slice (some ⟨g, 0, none⟩) L.length cap ∧ base ≤ g ∧ PRow g L w := by
  rcases h.2 with ⟨rfl, h0⟩ | ⟨g, cap, cur, rfl, hbg, hg, hnc, hcm, hcs, htake⟩
  · omega
  · refine ⟨g, cap, rfl, hbg, cur, _, hg, fun j t hj => ?_⟩
    have h1 : (cur.toList.take (L.length * 1))[j]? = some (.string t) := by rw [htake, List.getElem?_map, hj]; rfl
    rw [List.getElem?_take] at h1
    split at h1
    · simpa using h1
    · cases h1
theorem PRow.set {g b i : Nat} {L : List ByteArray} {w : World} (h : PRow g L w) (hb : b ≠ g) (x : Value) : PRow g L (w.setCell ⟨b, i, none⟩ x) :=
  h.kept (Below.heap_setCell w ⟨b, i, none⟩ x g (by show g ≠ b; omega))
/-- What the loop over the names told leaves of ok. -/
def okN (ok : Bool) (N : List ByteArray) (j : Nat) (n : ByteArray) : Bool := ok && (N.take j).all fun t => decide (t.data.toList ≠ n.data.toList)
theorem okN_zero (ok : Bool) (N : List ByteArray) (n : ByteArray) : okN ok N 0 n = ok := by simp [okN]
theorem okN_succ {ok : Bool} {N : List ByteArray} {j : Nat} {n t : ByteArray} (h : N[j]? = some t) : okN ok N (j + 1) n = (okN ok N j n && decide (t.data.toList ≠ n.data.toList)) := by
  unfold okN
  rw [List.take_add_one, h, Option.toList_some, List.all_append]
  simp [Bool.and_assoc]
theorem okN_all (ok : Bool) (N : List ByteArray) (n : ByteArray) (st : Wst) (h : st.told = (N.map (·.data.toList)).reverse) : okN ok N N.length n = (ok && !st.told.contains n.data.toList) := by
  unfold okN
  rw [List.take_length, h]
  congr 1
  rw [Bool.eq_iff_iff]
  simp only [List.all_eq_true, decide_eq_true_eq, Bool.not_eq_true', List.contains_eq_mem, decide_eq_false_iff_not, List.mem_reverse, List.mem_map, not_exists, not_and]
theorem results_ref {wr : World} {B : Nat} {a : Int} {b : Bool} {e : Int} (h : wr.heap[B]? = some (.cells #[.int .i64 a, .bool b] 23 (0, 0))) (tmps : Array Value) (h2 : tmps[2]?.getD undef = .pointer (some ⟨B, 0, none⟩)) (h3 : tmps[3]?.getD undef = .int .i64 e) :
    (results Tryd.f14 tmps).run Tryd.prog wr = .ok (.tuple #[.agg #[.int .i64 a, .bool b], .int .i64 e]) wr := by
  have c0 : wr.cell? ⟨B, 0, none⟩ = some (.int .i64 a) := by rw [cell_of_row _ _ _ _ _ _ h]; rfl
  have c1 : wr.cell? ⟨B, 1, none⟩ = some (.bool b) := by rw [cell_of_row _ _ _ _ _ _ h]; rfl
  simp [results, Tryd.results14, go_sem, h2, h3, c0, c1]
end Go.Proofs.YtnmdcbneoipllaaDoor
