/- Cookies that lie in blocks of the call's own; setcookie.Parse by its answer; footmanlaw10's is. -/
import Derived.Test.YthfndlphhgchnaaGreatDoorSc4
import Derived.Test.YthfndlphhgchnaaGreatDoorSe
namespace Go.Proofs.YthfndlphhgchnaaGreatDoor
open Go.RowKit Go.Lib Go.Proofs.Foot

theorem parseA_is (s : ByteArray) (w : World) (G : Good w) (t : CkT) (n : Nat) (h : parseC s.data.toList = (t, n)) :
    Calls Tryz.prog 14 #[.string s] w fun e w' => e = .returned (.tuple #[.agg (rowC t), .int .i64 (n : Nat)]) ∧ Below w.heap.size w w' := by
  refine (parseA_any s w G).mono ?_
  rintro e w' ⟨he, hb⟩
  rw [h] at he
  exact ⟨he, hb⟩
/-- Cookies that lie in blocks since w0. -/
structure Cks (w0 : World) (l : List (Nat × CkT)) (w : World) : Prop where
  row : ∀ p ∈ l, w.heap[p.1]? = some (.cells (rowC p.2) 24 (0, 0))
  below : Below w0.heap.size w0 w
theorem Cks.start (w : World) : Cks w [] w := ⟨fun p hp => (by cases hp), Below.refl _ _⟩
theorem Cks.go {w0 w w' : World} {l : List (Nat × CkT)} (h : Cks w0 l w) (hb : Below w.heap.size w w') : Cks w0 l w' :=
  ⟨fun p hp => (hb.block p.1 (Array.getElem?_eq_some_iff.1 (h.row p hp)).1).trans (h.row p hp), below_chain h.below hb⟩
theorem Cks.drew {w0 w : World} {l : List (Nat × CkT)} (h : Cks w0 l w) : Cks w0 l w.drew := ⟨h.row, h.below.drew⟩
theorem laid_rowT (w : World) (Z C : Array Value) (t : TypeId) : ((w.alloc (.cells Z t)).setRow w.heap.size C).heap[w.heap.size]? = some (.cells C t (0, 0)) := setRow_heap _ _ _ _ _ _ (heap_alloc_new _ _)
theorem laid_belowT (w : World) (Z C : Array Value) (t : TypeId) : Below w.heap.size w ((w.alloc (.cells Z t)).setRow w.heap.size C) := below_setRow ((Below.refl _ _).alloc (Nat.le_refl _) _) (Nat.le_refl _) _
theorem Cks.add {w0 w : World} {l : List (Nat × CkT)} (h : Cks w0 l w) (Z : Array Value) (t : CkT) : Cks w0 ((w.heap.size, t) :: l) ((w.alloc (.cells Z 24)).setRow w.heap.size (rowC t)) := by
  refine ⟨fun p hp => ?_, below_chain h.below (laid_belowT _ _ _ _)⟩
  rcases List.mem_cons.1 hp with rfl | hp
  · exact laid_rowT _ _ _ _
  · exact ((laid_belowT w Z (rowC t) 24).block p.1 (Array.getElem?_eq_some_iff.1 (h.row p hp)).1).trans (h.row p hp)
theorem Cks.alloc {w0 w : World} {l : List (Nat × CkT)} (h : Cks w0 l w) (o : Obj) : Cks w0 l (w.alloc o) := h.go ((Below.refl _ _).alloc (Nat.le_refl _) _)
theorem Cks.box {w0 w : World} {l : List (Nat × CkT)} (h : Cks w0 l w) {C : Array Value} {t : CkT} (hC : C = rowC t) : Cks w0 ((w.heap.size, t) :: l) (w.alloc (.cells C 24)) := by
  have ha := h.alloc (.cells C 24)
  refine ⟨fun p hp => ?_, ha.below⟩
  rcases List.mem_cons.1 hp with rfl | hp
  · rw [hC]; exact heap_alloc_new _ _
  · exact ha.row p hp
theorem Cks.at {w0 w : World} {l : List (Nat × CkT)} (h : Cks w0 l w) {g : Nat} {t : CkT} (hm : (g, t) ∈ l) : w.heap[g]? = some (.cells (rowC t) 24 (0, 0)) := h.row _ hm
/-- The load of a cookie behind a guard that holds. -/
theorem load_ckG {ops : Array Oper} {rest : List Oper} {o : Oper} {a : Act} {w : World} {Q : Exit → Act → World → Prop} (hw : Region.wanted o (yielded ops a.tmps) = true) (x : Operand) (ho : o.op = .load 24 x)
    (g : Nat) (hx : a.eval x = .pointer (some ⟨g, 0, none⟩)) (t : CkT) (hg : w.heap[g]? = some (.cells (rowC t) 24 (0, 0)))
    (h : wpList Tryz.prog ops Q rest (a.put o.dst (.agg (rowC t))) w) : wpList Tryz.prog ops Q (o :: rest) a w := by
  refine wpList_step fun K hK => ?_
  rw [if_pos hw]
  exact wp_load_row 24 x ho g hx _ _ _ _ hg Tryz.underlying24 rfl (infoTd t) (hK _ _ h)
set_option maxRecDepth 100000 in
/-- footmanlaw10's is: does a text tell that? -/
theorem is_any (s : ByteArray) (u : CkT) (hu : WfC u) (r : Bool) (hr : decide (parseC s.data.toList = (u, 0)) = r) (w : World) (G : Good w) :
    Calls Tryz.prog 20 #[.string s, .agg (rowC u)] w fun e w' => e = .returned (.bool r) ∧ Below w.heap.size w w' := by
  obtain ⟨t, n, hp⟩ : ∃ t n, parseC s.data.toList = (t, n) := ⟨_, _, rfl⟩
  rw [hp] at hr
  have HP := hid (fun w G => parseA_is s w G t n hp)
  have hwt := wf_parse hp
  obtain ⟨C, hC⟩ : ∃ C, C = rowC u := ⟨_, rfl⟩
  have W0 := hid ((Cks.start w).box hC)
  have HG := hid G
  rw [← hC]
  have HC := hid hC
  clear hp G hC
  by_cases hn : n = 0
  · subst hn
    have hd : decide (t = u) = r := by rw [← hr]; simp
    have hq := ck_eql t u hwt hu r hd
    have Hq := hid hq
    clear hr hd hwt hq hu
    go_enter Tryz.func20, Tryz.ntmps20
    go_upto_region 1 with fail
    generalize w.alloc _ = w1 at *
    go_wp2_with fail
    refine (HP.out _ (HG.out.below W0.out.below)).mono ?_
    rintro e w2 ⟨rfl, hb2⟩
    have W2 := hid (W0.out.go hb2)
    clear hb2
    go_upto_region 2 with (refine wpList_store_row rfl 24 _ _ rfl w2.heap.size (rowC t) rfl rfl _ _ (heap_alloc_new w2 _) (infoTd t) rfl (rowC_one t) ?_)
    have W3 := hid (W2.out.add #[.string ⟨#[]⟩, .string ⟨#[]⟩, .string ⟨#[]⟩, .string ⟨#[]⟩, .int .i64 0, .bool false, .int .i64 0, .bool false, .bool false, .bool false, .int .u8 0] t)
    generalize World.setRow _ w2.heap.size (rowC t) = w3 at *
    have r1 := W3.out.at (g := w2.heap.size) (t := t) (by simp)
    have r2 := W3.out.at (g := w.heap.size) (t := u) (by simp)
    have BB := hid W3.out.below
    have q := Hq.out
    go_wp2_with (first
      | (refine load_ckG (by rfl) _ rfl w2.heap.size rfl t r1 ?_)
      | (refine load_ckG (by rfl) _ rfl w.heap.size rfl u r2 ?_))
    go_ret
    exact ⟨rfl, BB.out⟩
  · have hd : r = false := by rw [← hr]; simp [hn]
    subst hd
    have hn0 : ((n : Int) == 0) = false := by rw [beq_eq_false_iff_ne]; omega
    clear hr hwt hu hn
    go_enter Tryz.func20, Tryz.ntmps20
    go_upto_region 1 with fail
    generalize w.alloc _ = w1 at *
    go_wp2_with fail
    refine (HP.out _ (HG.out.below W0.out.below)).mono ?_
    rintro e w2 ⟨rfl, hb2⟩
    have W2 := hid (W0.out.go hb2)
    clear hb2
    go_upto_region 2 with (refine wpList_store_row rfl 24 _ _ rfl w2.heap.size (rowC t) rfl rfl _ _ (heap_alloc_new w2 _) (infoTd t) rfl (rowC_one t) ?_)
    have W3 := hid (W2.out.add #[.string ⟨#[]⟩, .string ⟨#[]⟩, .string ⟨#[]⟩, .string ⟨#[]⟩, .int .i64 0, .bool false, .int .i64 0, .bool false, .bool false, .bool false, .int .u8 0] t)
    generalize World.setRow _ w2.heap.size (rowC t) = w3 at *
    have BB := hid W3.out.below
    go_wp2
    go_ret
    exact ⟨rfl, BB.out⟩
end Go.Proofs.YthfndlphhgchnaaGreatDoor
