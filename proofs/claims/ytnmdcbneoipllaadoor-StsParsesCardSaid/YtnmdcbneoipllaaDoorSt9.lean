/- Walk: sts.Parse: what its rounds keep, and its door. -/
import Derived.Test.YtnmdcbneoipllaaDoorSt8
import Derived.Test.YtnmdcbneoipllaaDoorMapB
namespace Go.Proofs.YtnmdcbneoipllaaDoor
open Go.RowKit Go.Lib Go.Proofs.Foot

/-- What stands in Parse's four blocks (from B on), in a round. -/
structure PS (B : Nat) (w wr : World) (S : ByteArray) (st : Wst) : Prop where
  wish : wr.heap[B]? = some (.cells #[.int .i64 st.age, .bool st.subs] 23 (0, 0))
  errn : wr.heap[B + 1]? = some (.cells #[.int .i64 0] 24 (0, 0))
  rd : Rd wr (B + 1 + 1) S
  told : Told wr (B + 1 + 1 + 1) st.told
  below : Below B w wr
theorem PS.rdd {B : Nat} {w wr w' : World} {S T : ByteArray} {st : Wst} (h : PS B w wr S st) (hr : Rdd (B + 1 + 1) wr T w') : PS B w w' T st := by
  have lt := h.told.lt
  refine ⟨(hr.2.block B (by omega) (by omega)).trans h.wish, (hr.2.block (B + 1) (by omega) (by omega)).trans h.errn, hr.1, h.told.kept (hr.2.block (B + 1 + 1 + 1) lt (by omega)), h.below.trans (hr.2.below (fun k hk => by omega) (by omega))⟩
theorem PS.more {B : Nat} {w wr w' : World} {S : ByteArray} {st : Wst} (h : PS B w wr S st) (hb : Below wr.heap.size wr w') : PS B w w' S st := by
  have lt := h.told.lt
  exact ⟨(hb.block B (by omega)).trans h.wish, (hb.block (B + 1) (by omega)).trans h.errn, h.rd.below hb (by omega), h.told.kept (hb.block (B + 1 + 1 + 1) lt), h.below.trans (hb.mono (by omega))⟩
theorem PS.tell {B : Nat} {w wr w' : World} {S : ByteArray} {st : Wst} {t : List (List UInt8)} (h : PS B w wr S st) (ht : Told w' (B + 1 + 1 + 1) t) (hg : wr.grownBy w' (some (B + 1 + 1 + 1))) : PS B w w' S ⟨t, st.age, st.subs⟩ := by
  have lt := h.told.lt
  have hn : ∀ k, k < B + 3 → w'.heap[k]? = wr.heap[k]? := fun k hk => hg.block k (by omega) (fun e => by injection e with e; omega)
  refine ⟨(hn B (by omega)).trans h.wish, (hn (B + 1) (by omega)).trans h.errn, (hn (B + 1 + 1) (by omega)).trans h.rd, ht, h.below.trans ?_⟩
  exact ⟨hg.os, hg.tape, hg.output, hg.size, fun k hk => hn k (by omega)⟩
theorem PS.aged {B : Nat} {w wr : World} {S : ByteArray} {st : Wst} (h : PS B w wr S st) (n : Nat) : PS B w (wr.setCell ⟨B, 0, none⟩ (.int .i64 n)) S ⟨st.told, n, st.subs⟩ := by
  have lt := h.told.lt
  have hn : ∀ k, k ≠ B → (wr.setCell ⟨B, 0, none⟩ (.int .i64 n)).heap[k]? = wr.heap[k]? := fun k hk => Below.heap_setCell wr ⟨B, 0, none⟩ _ k hk
  refine ⟨?_, (hn _ (by omega)).trans h.errn, (hn _ (by omega)).trans h.rd, h.told.kept (hn _ (by omega)), h.below.setCell (Nat.le_refl _) _⟩
  rw [heap_setCell_same wr B 0 _ _ (.int .i64 n) h.wish]; rfl
theorem PS.subbed {B : Nat} {w wr : World} {S : ByteArray} {st : Wst} (h : PS B w wr S st) : PS B w (wr.setCell ⟨B, 1, none⟩ (.bool true)) S ⟨st.told, st.age, true⟩ := by
  have lt := h.told.lt
  have hn : ∀ k, k ≠ B → (wr.setCell ⟨B, 1, none⟩ (.bool true)).heap[k]? = wr.heap[k]? := fun k hk => Below.heap_setCell wr ⟨B, 1, none⟩ _ k hk
  refine ⟨?_, (hn _ (by omega)).trans h.errn, (hn _ (by omega)).trans h.rd, h.told.kept (hn _ (by omega)), h.below.setCell (Nat.le_refl _) _⟩
  rw [heap_setCell_same wr B 1 _ _ (.bool true) h.wish]; rfl

/-- What Parse answers. -/
def parseV (o : Option (Nat × Bool)) : Value := match o with
  | some (n, b) => .tuple #[.agg #[.int .i64 n, .bool b], .int .i64 0]
  | none => .tuple #[.agg #[.int .i64 0, .bool false], .int .i64 4]
theorem door_panic {B : Nat} {w wr : World} {S : ByteArray} {st : Wst} (h : PS B w wr S st) (hB : B = w.heap.size) (tmps : Array Value) (h2 : tmps[2]?.getD undef = .pointer (some ⟨B, 0, none⟩)) (h3 : tmps[3]?.getD undef = .pointer (some ⟨B + 1, 0, none⟩)) (Post : Ending → World → Prop)
    (hP : ∀ w', Below w.heap.size w w' → Post (.returned (parseV none)) w') :
    bodyPostD Tryd.prog Tryd.f13 Post (Exit.panic [pan]) { tmps := tmps, defers := [{ target := Target.fn (Fn.func 23) #[.pointer (some ⟨B, 0, none⟩), .pointer (some ⟨B + 1, 0, none⟩)], args := #[] }] } wr := by
  have hw := h.wish
  have he := h.errn
  have hA : Below w.heap.size w (((wr.setCell ⟨B, 0, none⟩ (.int .i64 0)).setCell ⟨B, 1, none⟩ (.bool false)).setCell ⟨B + 1, 0, none⟩ (.int .i64 4)) := by
    subst hB
    exact ((h.below.setCell (Nat.le_refl _) _).setCell (Nat.le_refl _) _).setCell (Nat.le_succ _) _
  have k1 := heap_setCell_same wr B 0 _ _ (.int .i64 0) hw
  have k2 := heap_setCell_same _ B 1 _ _ (.bool false) k1
  have k3 : (((wr.setCell ⟨B, 0, none⟩ (.int .i64 0)).setCell ⟨B, 1, none⟩ (.bool false)).setCell ⟨B + 1, 0, none⟩ (.int .i64 4)).heap[B]? = _ := (Below.heap_setCell _ ⟨B + 1, 0, none⟩ _ B (by show B ≠ B + 1; omega)).trans k2
  have e1 : ((wr.setCell ⟨B, 0, none⟩ (.int .i64 0)).setCell ⟨B, 1, none⟩ (.bool false)).heap[B + 1]? = some (.cells #[.int .i64 0] 24 (0, 0)) :=
    (Below.heap_setCell _ ⟨B, 1, none⟩ _ (B + 1) (by show B + 1 ≠ B; omega)).trans ((Below.heap_setCell _ ⟨B, 0, none⟩ _ (B + 1) (by show B + 1 ≠ B; omega)).trans he)
  have e3 := heap_setCell_same _ (B + 1) 0 _ _ (.int .i64 4) e1
  obtain ⟨wf, hwf⟩ : ∃ wf, wf = (((wr.setCell ⟨B, 0, none⟩ (.int .i64 0)).setCell ⟨B, 1, none⟩ (.bool false)).setCell ⟨B + 1, 0, none⟩ (.int .i64 4)) := ⟨_, rfl⟩
  rw [← hwf] at k3 e3 hA
  have c0 : wf.cell? ⟨B, 0, none⟩ = some (.int .i64 0) := by rw [cell_of_row _ _ _ _ _ _ k3]; rfl
  have c1 : wf.cell? ⟨B, 1, none⟩ = some (.bool false) := by rw [cell_of_row _ _ _ _ _ _ k3]; rfl
  have c2 : wf.cell? ⟨B + 1, 0, none⟩ = some (.int .i64 4) := by rw [cell_of_row _ _ _ _ _ _ e3]; rfl
  refine leaves_cons (f := 23) (args := #[.pointer (some ⟨B, 0, none⟩), .pointer (some ⟨B + 1, 0, none⟩)]) (by simp) (by simp [go_sem]) ?_
  refine (catch_panicking B (B + 1) _ _ _ wr hw he (by omega)).mono ?_
  rintro e u' w'' ⟨rfl, rfl, hw2⟩
  rw [← hwf] at hw2
  subst hw2
  have HP := hP _ hA
  clear hwf k1 k2 k3 e1 e3 hw he h hA hP
  simp [Leaves, settle, results, Tryd.results13, go_sem, panR, h2, h3, c0, c1, c2]
  exact HP
theorem door_ret {B : Nat} {w wr : World} {S : ByteArray} {st : Wst} (h : PS B w wr S st) (hB : B = w.heap.size) (tmps : Array Value) (h2 : tmps[2]?.getD undef = .pointer (some ⟨B, 0, none⟩)) (h3 : tmps[3]?.getD undef = .pointer (some ⟨B + 1, 0, none⟩)) (Post : Ending → World → Prop)
    (hP : ∀ w', Below w.heap.size w w' → Post (.returned (parseV (some (st.age, st.subs)))) w') :
    bodyPostD Tryd.prog Tryd.f13 Post Exit.ret { tmps := tmps, defers := [{ target := Target.fn (Fn.func 23) #[.pointer (some ⟨B, 0, none⟩), .pointer (some ⟨B + 1, 0, none⟩)], args := #[] }] } wr := by
  have c0 : wr.cell? ⟨B, 0, none⟩ = some (.int .i64 st.age) := by rw [cell_of_row _ _ _ _ _ _ h.wish]; rfl
  have c1 : wr.cell? ⟨B, 1, none⟩ = some (.bool st.subs) := by rw [cell_of_row _ _ _ _ _ _ h.wish]; rfl
  have c2 : wr.cell? ⟨B + 1, 0, none⟩ = some (.int .i64 0) := by rw [cell_of_row _ _ _ _ _ _ h.errn]; rfl
  have HP := hP wr (by subst hB; exact h.below)
  refine leaves_cons (f := 23) (args := #[.pointer (some ⟨B, 0, none⟩), .pointer (some ⟨B + 1, 0, none⟩)]) (by simp) (by simp [go_sem]) ?_
  refine (catch_idle B (B + 1) wr).mono ?_
  rintro e u' w'' ⟨rfl, rfl, rfl⟩
  clear h hP
  simp [Leaves, settle, results, Tryd.results13, go_sem, h2, h3, c0, c1, c2]
  exact HP
end Go.Proofs.YtnmdcbneoipllaaDoor
