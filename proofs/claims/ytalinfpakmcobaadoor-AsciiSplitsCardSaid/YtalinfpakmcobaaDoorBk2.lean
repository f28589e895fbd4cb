/- Walks: a Book is told a list of texts. -/
import Derived.Test.YtalinfpakmcobaaDoorBk1
import Derived.RegionTactic
import Derived.Deep.AppendLies
import Derived.Lib.SmallJoins
import Derived.Deep.Cut
namespace Go.Proofs.YtalinfpakmcobaaDoor
open Go.RowKit Go.Lib Go.Proofs.Foot

theorem infoHT : (Tryd.prog.info? 72).map (fun i => (i.zero, i.size, i.bytes)) = some (some (.agg #[.slice none 0 0, .slice none 0 0, .int .i64 0]), 3, 56) := by kernel_rfl
theorem keep_run (B0 : Nat) (w : World) (n : Nat) (tv : Value) (xs : List Value) (hown : w.ownsRow B0 72 3 tv n xs) (hB : B0 ≤ w.heap.size) (hn : n ≤ 1000) (a b c : Value) (h1 : ∀ u ∈ [a, b, c], u.oneCell' = true) :
    ∃ g' cap' w', (Builtin.append_ #[30, 30] 30 #[tv, .slice (some ⟨w.heap.size, 0, none⟩) 1 1]).run Tryd.prog (w.alloc (.cells #[a, b, c] 72)).drew = .ok (.slice (some ⟨g', 0, none⟩) (n + 1) cap') w' ∧
      w'.ownsRow B0 72 3 (.slice (some ⟨g', 0, none⟩) (n + 1) cap') (n + 1) (xs ++ [a, b, c]) ∧ Touch (fun k => tv.ownBlock = some k) w w' ∧ (tv.ownBlock = some g' ∨ w.heap.size ≤ g') := by
  obtain ⟨i0, hi, hz0, hz1, hz2⟩ := info_parts infoHT
  have ho2 : (w.alloc (.cells #[a, b, c] 72)).drew.ownsRow B0 72 3 tv n xs := (hown.alloc _).drew
  have hsz : (w.alloc (.cells #[a, b, c] 72)).drew.heap.size = w.heap.size + 1 := by show (w.alloc _).heap.size = _; simp
  obtain ⟨v', w', hr, h2, h3, h4⟩ := run_append_mine (P := Tryd.prog) (w.alloc (.cells #[a, b, c] 72)).drew B0 30 30 72 i0 (.agg #[.slice none 0 0, .slice none 0 0, .int .i64 0]) 3 56 Tryd.underlying30 hi hz0 hz1 hz2 rfl (by decide) tv n xs ho2 ⟨w.heap.size, 0, none⟩ 1 1 [a, b, c] rfl
    (World.news_of_block (cs := #[a, b, c]) (heap_alloc_new w _)) h1 (by unfold maxLen; omega) (by omega) (by rw [hsz]; omega)
  obtain ⟨g', cap', rfl, _, _⟩ := h2.form (by omega)
  refine ⟨g', cap', w', hr, h2, ?_, ?_⟩
  · have h0 : Touch (fun k => tv.ownBlock = some k) w (w.alloc (.cells #[a, b, c] 72)).drew := ((Touch.refl _ w).alloc _).drew
    exact h0.trans (Touch.of_grown h3) (fun _ _ h => h)
  · rcases h4 g' rfl with h | h
    · exact .inl h
    · right; omega
theorem step_appB {ops : Array Oper} {o : Oper} {a : Act} {w : World} {K : Act → World → Prop} {Q : Exit → Act → World → Prop} {E : Prop} (hgd : o.guard = none) (s x : Operand) (t : TypeId)
    (ho : o.op = .call { callee := .builtin .append, args := #[s, x], argTypes := #[t, t] }) (v sl v' : Value) (w' : World) (hs : a.eval s = v) (hx : a.eval x = sl)
    (hr : (Builtin.append_ #[t, t] o.type #[v, sl]).run Tryd.prog w = .ok v' w') (h : K (a.put o.dst v') w') :
    if Region.wanted o (yielded ops a.tmps) = true then Oper.wp Tryd.prog o a w K Q else E := by
  have hw : Region.wanted o (yielded ops a.tmps) = true := by simp [Region.wanted, hgd]
  rw [if_pos hw]
  unfold Oper.wp execOp
  simp only [ho, resolve, invoke, builtin, Sem.run_bind, Sem.run_pure, Result.andThen_ok, List.map_toArray, List.map_cons, List.map_nil, hs, hx, hr]
  exact h
theorem Bk.set0 {w : World} {g n : Nat} {tv : Value} (h : Bk w g n tv) (m : Nat) : Bk (w.setCell ⟨g, 0, none⟩ (.int .i64 m)) g m tv := (heap_setCell_same w g 0 _ _ (.int .i64 m) h).trans rfl
theorem Bk.set3 {w : World} {g n : Nat} {tv : Value} (h : Bk w g n tv) (v : Value) : Bk (w.setCell ⟨g, 3, none⟩ v) g n v := (heap_setCell_same w g 3 _ _ v h).trans rfl
/-- What keepText does. -/
def KeepR (B0 g n : Nat) (tv : Value) (xs : List Value) (w : World) (e : Ending) (w' : World) : Prop := e = .returned (.tuple #[]) ∧ ∃ g' cap', Bk w' g n (.slice (some ⟨g', 0, none⟩) n cap') ∧
  w'.ownsRow B0 72 3 (.slice (some ⟨g', 0, none⟩) n cap') n xs ∧ Touch (fun k => k = g ∨ tv.ownBlock = some k) w w' ∧ (tv.ownBlock = some g' ∨ w.heap.size ≤ g')
theorem keep_fin {B0 g n g' cap' : Nat} {tv : Value} {xs : List Value} {w w1 w2 : World} (T1 : Touch (fun k => k = g ∨ tv.ownBlock = some k) w w1) (hne : tv.ownBlock ≠ some g) (hlt : g < w.heap.size) (b1 : Bk w1 g n tv)
    (hown : w2.ownsRow B0 72 3 (.slice (some ⟨g', 0, none⟩) n cap') n xs) (T2 : Touch (fun k => tv.ownBlock = some k) w1 w2) (hat : tv.ownBlock = some g' ∨ w1.heap.size ≤ g') :
    KeepR B0 g n tv xs w (.returned (.tuple #[])) (w2.setCell ⟨g, 3, none⟩ (.slice (some ⟨g', 0, none⟩) n cap')) := by
  have hs := T1.size
  have b2 : Bk w2 g n tv := b1.kept (T2.block g (by omega) hne)
  have hgg : g ≠ g' := by
    rintro rfl
    rcases hat with h | h
    · exact hne h
    · omega
  refine ⟨rfl, g', cap', b2.set3 _, own_other hown hgg, ?_, ?_⟩
  · exact (T1.trans T2 (fun k _ h => .inr h)).setCell (p := ⟨g, 3, none⟩) (.inl (.inl rfl)) _
  · rcases hat with h | h
    · exact .inl h
    · right; omega
set_option maxRecDepth 100000 in
theorem keepText_0 (w : World) (B0 g l N : Nat) (hb : Bk w g 0 (.slice none 0 0)) (hB : B0 ≤ w.heap.size) :
    Calls Tryd.prog 29 #[.pointer (some ⟨g, 0, none⟩), .slice (some ⟨l, 0, none⟩) N N] w (KeepR B0 g 1 (.slice none 0 0) (heldC l N (.slice none 0 0) 1) w) := by
  have c0 := hb.cell (k := 0) (v := .int .i64 0) rfl
  have f0 := hb.free 0
  have hlt := hb.lt
  have B1 := hb.set0 1
  have T1 : Touch (fun k => k = g ∨ (Value.ownBlock (.slice none 0 0)) = some k) w (w.setCell ⟨g, 0, none⟩ (.int .i64 1)) := (Touch.refl _ w).setCell (p := ⟨g, 0, none⟩) (.inl (.inl rfl)) _
  have O1 : (w.setCell ⟨g, 0, none⟩ (.int .i64 1)).ownsRow B0 72 3 (.slice none 0 0) 0 ([]) := World.ownsRow_nil _ _ _ _
  have hB1 : B0 ≤ (w.setCell ⟨g, 0, none⟩ (.int .i64 1)).heap.size := by have := T1.size; omega
  obtain ⟨g', cap', w2, hr, hown2, T2, hat⟩ := keep_run B0 _ 0 _ _ O1 hB1 (by omega) (.slice (some ⟨l, 0, none⟩) N N) (.slice none 0 0) (.int .i64 1) (by intro u hu; simp only [List.mem_cons, List.not_mem_nil, or_false] at hu; rcases hu with rfl | rfl | rfl <;> rfl)
  have HB1 : Hid (Bk (w.setCell ⟨g, 0, none⟩ (.int .i64 1)) g 1 (.slice none 0 0)) := hid B1
  have c0' := HB1.out.cell (k := 0) (v := .int .i64 1) rfl
  have c3 := HB1.out.cell (k := 3) (v := .slice none 0 0) rfl
  have b2 : Bk w2 g 1 (.slice none 0 0) := HB1.out.kept (T2.block g (by have := T1.size; omega) (by intro h; cases h))
  have c3' := b2.cell (k := 3) (v := .slice none 0 0) rfl
  have f3' := b2.free 3
  have HF : Hid (KeepR B0 g 1 (.slice none 0 0) (heldC l N (.slice none 0 0) 1) w (.returned (.tuple #[])) (w2.setCell ⟨g, 3, none⟩ (.slice (some ⟨g', 0, none⟩) 1 cap'))) := hid (keep_fin T1 (by intro h; cases h) hlt HB1.out hown2 T2 hat)
  have Hr := hid hr
  clear hr hown2 T2 hat b2 B1 T1 O1 hB1 hB hlt hb
  go_enter Tryd.func29, Tryd.ntmps29
  go_upto_region 1 with fail
  clear c0 f0
  generalize World.setCell w _ _ = w1 at *
  have ba : Bk (w1.alloc (.cells #[.slice (some ⟨l, 0, none⟩) N N, .slice none 0 0, .int .i64 1] 72)) g 1 (.slice none 0 0) := HB1.out.kept (Below.heap_alloc w1 _ g HB1.out.lt)
  have c0a := ba.cell (k := 0) (v := .int .i64 1) rfl
  have c3a := ba.cell (k := 3) (v := .slice none 0 0) rfl
  clear ba
  go_region_law (first
    | (refine step_appB rfl _ _ 30 rfl _ _ _ _ rfl rfl Hr.out ?_))
  all_goals go_wp2
  all_goals go_end0
  all_goals exact HF.out
set_option maxRecDepth 100000 in
theorem keepText_1 (w : World) (B0 g l N : Nat) (gt cap l0 : Nat) (hb : Bk w g 1 (.slice (some ⟨gt, 0, none⟩) 1 cap)) (hB : B0 ≤ w.heap.size) (hown : w.ownsRow B0 72 3 (.slice (some ⟨gt, 0, none⟩) 1 cap) 1 (heldC l0 N (.slice none 0 0) 1)) (hgt : gt ≠ g) :
    Calls Tryd.prog 29 #[.pointer (some ⟨g, 0, none⟩), .slice (some ⟨l, 0, none⟩) N N] w (KeepR B0 g 2 (.slice (some ⟨gt, 0, none⟩) 1 cap) (heldC l0 N (.slice none 0 0) 1 ++ heldC l N (.slice none 0 0) 2) w) := by
  have c0 := hb.cell (k := 0) (v := .int .i64 1) rfl
  have f0 := hb.free 0
  have hlt := hb.lt
  have B1 := hb.set0 2
  have T1 : Touch (fun k => k = g ∨ (Value.ownBlock (.slice (some ⟨gt, 0, none⟩) 1 cap)) = some k) w (w.setCell ⟨g, 0, none⟩ (.int .i64 2)) := (Touch.refl _ w).setCell (p := ⟨g, 0, none⟩) (.inl (.inl rfl)) _
  have O1 : (w.setCell ⟨g, 0, none⟩ (.int .i64 2)).ownsRow B0 72 3 (.slice (some ⟨gt, 0, none⟩) 1 cap) 1 (heldC l0 N (.slice none 0 0) 1) := own_other hown hgt.symm
  have hB1 : B0 ≤ (w.setCell ⟨g, 0, none⟩ (.int .i64 2)).heap.size := by have := T1.size; omega
  obtain ⟨g', cap', w2, hr, hown2, T2, hat⟩ := keep_run B0 _ 1 _ _ O1 hB1 (by omega) (.slice (some ⟨l, 0, none⟩) N N) (.slice none 0 0) (.int .i64 2) (by intro u hu; simp only [List.mem_cons, List.not_mem_nil, or_false] at hu; rcases hu with rfl | rfl | rfl <;> rfl)
  have HB1 : Hid (Bk (w.setCell ⟨g, 0, none⟩ (.int .i64 2)) g 2 (.slice (some ⟨gt, 0, none⟩) 1 cap)) := hid B1
  have c0' := HB1.out.cell (k := 0) (v := .int .i64 2) rfl
  have c3 := HB1.out.cell (k := 3) (v := .slice (some ⟨gt, 0, none⟩) 1 cap) rfl
  have b2 : Bk w2 g 2 (.slice (some ⟨gt, 0, none⟩) 1 cap) := HB1.out.kept (T2.block g (by have := T1.size; omega) (by intro h; simp only [Value.ownBlock, Option.some.injEq] at h; exact hgt h))
  have c3' := b2.cell (k := 3) (v := .slice (some ⟨gt, 0, none⟩) 1 cap) rfl
  have f3' := b2.free 3
  have HF : Hid (KeepR B0 g 2 (.slice (some ⟨gt, 0, none⟩) 1 cap) (heldC l0 N (.slice none 0 0) 1 ++ heldC l N (.slice none 0 0) 2) w (.returned (.tuple #[])) (w2.setCell ⟨g, 3, none⟩ (.slice (some ⟨g', 0, none⟩) 2 cap'))) := hid (keep_fin T1 (by intro h; simp only [Value.ownBlock, Option.some.injEq] at h; exact hgt h) hlt HB1.out hown2 T2 hat)
  have Hr := hid hr
  clear hr hown2 T2 hat b2 B1 T1 O1 hB1 hB hlt hown hgt hb
  go_enter Tryd.func29, Tryd.ntmps29
  go_upto_region 1 with fail
  clear c0 f0
  generalize World.setCell w _ _ = w1 at *
  have ba : Bk (w1.alloc (.cells #[.slice (some ⟨l, 0, none⟩) N N, .slice none 0 0, .int .i64 2] 72)) g 2 (.slice (some ⟨gt, 0, none⟩) 1 cap) := HB1.out.kept (Below.heap_alloc w1 _ g HB1.out.lt)
  have c0a := ba.cell (k := 0) (v := .int .i64 2) rfl
  have c3a := ba.cell (k := 3) (v := .slice (some ⟨gt, 0, none⟩) 1 cap) rfl
  clear ba
  go_region_law (first
    | (refine step_appB rfl _ _ 30 rfl _ _ _ _ rfl rfl Hr.out ?_))
  all_goals go_wp2
  all_goals go_end0
  all_goals exact HF.out
end Go.Proofs.YtalinfpakmcobaaDoor
