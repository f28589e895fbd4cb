/- Walk: chapter 10's alive. -/
import Derived.Test.YthfndlphhgchnaaGreatDoorSh
import Derived.Test.YthfndlphhgchnaaGreatDoorUntA
namespace Go.Proofs.YthfndlphhgchnaaGreatDoor
open Go.RowKit Go.Lib Go.Proofs.Foot

theorem good_below {w w' : World} (h : Good w) (hb : Below w.heap.size w w') : Good w' := h.below hb
theorem is_lit (s : ByteArray) (u : CkT) (hu : WfC u) (C : Array Value) (hC : rowC u = C) (h : parseC s.data.toList = (u, 0)) (w : World) (G : Good w) :
    Calls Tryz.prog 20 #[.string s, .agg C] w fun e w' => e = .returned (.bool true) ∧ Below w.heap.size w w' := by
  subst hC
  exact is_any s u hu true (decide_eq_true h) w G
theorem wf_small {t : CkT} (h : (decide (t.name.length ≤ 1000) && decide (t.value.length ≤ 1000) && decide (t.domain.length ≤ 1000) && decide (t.path.length ≤ 1000) && decide (-1000 ≤ t.exp) && decide (t.exp ≤ 1000) && decide (-1000 ≤ t.age) && decide (t.age ≤ 1000) && decide (t.site < 256)) = true) : WfC t := by
  simp only [Bool.and_eq_true, decide_eq_true_eq] at h
  obtain ⟨⟨⟨⟨⟨⟨⟨⟨h1, h2⟩, h3⟩, h4⟩, h5⟩, h6⟩, h7⟩, h8⟩, h9⟩ := h
  exact ⟨by unfold maxLen; omega, by unfold maxLen; omega, by unfold maxLen; omega, by unfold maxLen; omega, wf_i64 (by omega) (by omega), wf_i64 (by omega) (by omega), h9⟩
theorem itoa_0 : Lib.itoa 0 = [48] := by decide +kernel
/-- Text of a cookie without a date, by its answer. -/
theorem text_yes (t : CkT) (ht : WfC t) (hz : t.name.length + t.value.length + t.domain.length + t.path.length ≤ 4194304) (C : Array Value) (hC : rowC t = C) (S : ByteArray) (he : t.hasExp = false) (hA : t.age = 0) (hS : textC t [] [48] = S.data.toList) (h : parseC S.data.toList = (t, 0)) (w : World) (G : Good w) :
    Calls Tryz.prog 18 #[.agg C] w fun e w' => e = .returned (.tuple #[.string S, .int .i64 0]) ∧ Below w.heap.size w w' := by
  subst hC
  obtain ⟨D, hD⟩ := dateTx_ex t.exp
  have e0 : textC t D.data.toList [48] = S.data.toList := by
    rw [← hS]; unfold textC partsC; rw [he]; rfl
  refine (textA_any t ht hz D ⟨#[48]⟩ hD (by rw [hA]; exact itoa_0.symm) w G).mono ?_
  rintro e w' ⟨h1, hb⟩
  refine ⟨h1.trans ?_, hb⟩
  have e1 : textC t D.data.toList (⟨#[48]⟩ : ByteArray).data.toList = S.data.toList := e0
  rw [e1, if_pos h, tx_of]
theorem text_no (t : CkT) (ht : WfC t) (hz : t.name.length + t.value.length + t.domain.length + t.path.length ≤ 4194304) (C : Array Value) (hC : rowC t = C) (he : t.hasExp = false) (hA : t.age = 0) (h : parseC (textC t [] [48]) ≠ (t, 0)) (w : World) (G : Good w) :
    Calls Tryz.prog 18 #[.agg C] w fun e w' => e = .returned (.tuple #[.string ⟨#[]⟩, .int .i64 1]) ∧ Below w.heap.size w w' := by
  subst hC
  obtain ⟨D, hD⟩ := dateTx_ex t.exp
  have e0 : textC t D.data.toList [48] = textC t [] [48] := by
    unfold textC partsC; rw [he]; rfl
  refine (textA_any t ht hz D ⟨#[48]⟩ hD (by rw [hA]; exact itoa_0.symm) w G).mono ?_
  rintro e w' ⟨h1, hb⟩
  refine ⟨h1.trans ?_, hb⟩
  have e1 : textC t D.data.toList (⟨#[48]⟩ : ByteArray).data.toList = textC t [] [48] := e0
  rw [e1, if_neg h]
theorem load_agG {ops : Array Oper} {rest : List Oper} {o : Oper} {a : Act} {w : World} {Q : Exit → Act → World → Prop} (hw : Region.wanted o (yielded ops a.tmps) = true) (x : Operand) (ho : o.op = .load 24 x)
    (g : Nat) (hx : a.eval x = .pointer (some ⟨g, 0, none⟩)) (t : TypeId) (cs : Array Value) (fr : Nat × Nat) (hg : w.heap[g]? = some (.cells cs t fr)) (hi : (Tryz.prog.info? 24).map (·.size) = some cs.size)
    (h : wpList Tryz.prog ops Q rest (a.put o.dst (.agg cs)) w) : wpList Tryz.prog ops Q (o :: rest) a w := by
  refine wpList_step fun K hK => ?_
  rw [if_pos hw]
  exact wp_load_row 24 x ho g hx t cs fr _ hg Tryz.underlying24 rfl hi (hK _ _ h)
def sidC : CkT := ({ name := [83, 73, 68], value := [51, 49, 100, 52], path := [47], secure := true, hidden := true } : CkT)
theorem sid_tells : parseC [83, 73, 68, 61, 51, 49, 100, 52, 59, 32, 80, 97, 116, 104, 61, 47, 59, 32, 83, 101, 99, 117, 114, 101, 59, 32, 72, 116, 116, 112, 79, 110, 108, 121] = (sidC, 0) := by decide +kernel
set_option maxHeartbeats 4000000 in
set_option maxRecDepth 100000 in
theorem alive_any (w : World) (G : Good w) :
    Calls Tryz.prog 12 #[] w fun e w' => e = .returned (.bool true) ∧ Below w.heap.size w w' := by
  obtain ⟨C1, hC1⟩ : ∃ C1, rowC sidC = C1 := ⟨_, rfl⟩
  have HT1 := hid (fun w (G : Good w) => text_yes sidC (wf_small (by decide +kernel)) (by decide) C1 hC1 ⟨#[83, 73, 68, 61, 51, 49, 100, 52, 59, 32, 80, 97, 116, 104, 61, 47, 59, 32, 83, 101, 99, 117, 114, 101, 59, 32, 72, 116, 116, 112, 79, 110, 108, 121]⟩ rfl rfl (by decide +kernel) sid_tells w G)
  have HT2 := hid (fun w (G : Good w) => text_no ({ name := [97, 59] } : CkT) (wf_small (by decide +kernel)) (by decide) _ rfl rfl rfl (by decide +kernel) w G)
  have HP := hid (fun w (G : Good w) => parseA_is ⟨#[59]⟩ w G {} 4 (by decide +kernel))
  have HI0 := hid (fun w (G : Good w) => is_lit ⟨#[83, 73, 68, 61, 51, 49, 100, 52, 59, 32, 80, 97, 116, 104, 61, 47, 59, 32, 83, 101, 99, 117, 114, 101, 59, 32, 72, 116, 116, 112, 79, 110, 108, 121]⟩ sidC (wf_small (by decide +kernel)) C1 hC1 sid_tells w G)
  have HI1 := hid (fun w (G : Good w) => is_lit ⟨#[97]⟩ ({ value := [97] } : CkT) (wf_small (by decide +kernel)) (match (.agg #[.string ⟨#[]⟩, .string ⟨#[97]⟩, .string ⟨#[]⟩, .string ⟨#[]⟩, .int .i64 0, .bool false, .int .i64 0, .bool false, .bool false, .bool false, .int .u8 0] : Value) with | .agg c => c | _ => #[]) rfl (by decide +kernel) w G)
  have HI2 := hid (fun w (G : Good w) => is_lit ⟨#[97, 61, 98, 61, 99, 59, 32, 120, 59, 32, 112, 97, 116, 104, 61, 121, 59, 32, 100, 111, 109, 97, 105, 110, 61, 46, 69, 88, 65, 77, 80, 76, 69, 46, 99, 111, 109]⟩ ({ name := [97], value := [98, 61, 99], domain := [101, 120, 97, 109, 112, 108, 101, 46, 99, 111, 109] } : CkT) (wf_small (by decide +kernel)) (match (.agg #[.string ⟨#[97]⟩, .string ⟨#[98, 61, 99]⟩, .string ⟨#[101, 120, 97, 109, 112, 108, 101, 46, 99, 111, 109]⟩, .string ⟨#[]⟩, .int .i64 0, .bool false, .int .i64 0, .bool false, .bool false, .bool false, .int .u8 0] : Value) with | .agg c => c | _ => #[]) rfl (by decide +kernel) w G)
  have HI3 := hid (fun w (G : Good w) => is_lit ⟨#[97, 61, 98, 59, 32, 77, 97, 120, 45, 65, 103, 101, 61, 49, 48, 59, 32, 109, 97, 120, 45, 97, 103, 101, 61, 120, 59, 32, 77, 65, 88, 45, 65, 71, 69, 61, 45, 53]⟩ ({ name := [97], value := [98], age := (-5), hasAge := true } : CkT) (wf_small (by decide +kernel)) (match (.agg #[.string ⟨#[97]⟩, .string ⟨#[98]⟩, .string ⟨#[]⟩, .string ⟨#[]⟩, .int .i64 0, .bool false, .int .i64 (-5), .bool true, .bool false, .bool false, .int .u8 0] : Value) with | .agg c => c | _ => #[]) rfl (by decide +kernel) w G)
  have HI4 := hid (fun w (G : Good w) => is_lit ⟨#[97, 61, 98, 59, 32, 83, 97, 109, 101, 83, 105, 116, 101, 61, 108, 65, 120]⟩ ({ name := [97], value := [98], site := 2 } : CkT) (wf_small (by decide +kernel)) (match (.agg #[.string ⟨#[97]⟩, .string ⟨#[98]⟩, .string ⟨#[]⟩, .string ⟨#[]⟩, .int .i64 0, .bool false, .int .i64 0, .bool false, .bool false, .bool false, .int .u8 2] : Value) with | .agg c => c | _ => #[]) rfl (by decide +kernel) w G)
  have hC := hid hC1
  have HG := hid G
  have z1 := hid (show (Tryz.prog.info? 24).map (·.size) = some C1.size ∧ (11 : Nat) = C1.size ∧ C1.all (·.oneCell') = true by rw [← hC1]; exact ⟨infoTd _, rfl, rowC_one _⟩)
  have hlit := hid (show C1 = #[.string ⟨#[83, 73, 68]⟩, .string ⟨#[51, 49, 100, 52]⟩, .string ⟨#[]⟩, .string ⟨#[47]⟩, .int .i64 0, .bool false, .int .i64 0, .bool false, .bool true, .bool true, .int .u8 0] by rw [← hC1]; rfl)
  clear hC1 G
  go_enter Tryz.func12, Tryz.ntmps12
  have y := z1.out
  rw [hlit.out] at y
  go_upto_region 2 with (refine wpList_store_row rfl 24 _ _ rfl w.heap.size #[.string ⟨#[83, 73, 68]⟩, .string ⟨#[51, 49, 100, 52]⟩, .string ⟨#[]⟩, .string ⟨#[47]⟩, .int .i64 0, .bool false, .int .i64 0, .bool false, .bool true, .bool true, .int .u8 0] rfl rfl _ _ (heap_alloc_new w _) y.1 y.2.1 y.2.2 ?_)
  rw [← hlit.out]
  clear y
  have W1 := hid ((Cks.start w).add #[.string ⟨#[]⟩, .string ⟨#[]⟩, .string ⟨#[]⟩, .string ⟨#[]⟩, .int .i64 0, .bool false, .int .i64 0, .bool false, .bool false, .bool false, .int .u8 0] sidC)
  rw [hC.out] at W1
  generalize World.setRow _ w.heap.size C1 = w1 at *
  have r1 : w1.heap[w.heap.size]? = some (.cells C1 24 (0, 0)) := by rw [← hC.out]; exact W1.out.at (by simp)
  go_wp2_with (refine wpList_load_row rfl 24 _ rfl w.heap.size rfl _ _ _ _ r1 Tryz.underlying24 rfl z1.out.1 ?_)
  clear r1
  refine (HT1.out _ (HG.out.below W1.out.below)).mono ?_
  rintro e w2 ⟨rfl, hb2⟩
  have W2 := hid (W1.out.go hb2)
  clear hb2
  go_wp2_with fail
  refine (HP.out _ (HG.out.below W2.out.below)).mono ?_
  rintro e w3 ⟨rfl, hb3⟩
  have W3 := hid (W2.out.go hb3)
  clear hb3
  go_upto_region 4 with (refine wpList_store_row rfl 24 _ _ rfl w3.heap.size (rowC {}) rfl rfl _ _ (heap_alloc_new w3 _) (infoTd _) rfl (rowC_one _) ?_)
  have W4 := hid (W3.out.add #[.string ⟨#[]⟩, .string ⟨#[]⟩, .string ⟨#[]⟩, .string ⟨#[]⟩, .int .i64 0, .bool false, .int .i64 0, .bool false, .bool false, .bool false, .int .u8 0] {})
  generalize World.setRow _ w3.heap.size (rowC {}) = w4 at *
  go_wp2_with fail
  refine (HT2.out _ (HG.out.below W4.out.below)).mono ?_
  rintro e w5 ⟨rfl, hb5⟩
  have W5 := hid (W4.out.go hb5)
  clear hb5
  have r5 : w5.heap[w.heap.size]? = some (.cells C1 24 (0, 0)) := by rw [← hC.out]; exact W5.out.at (by simp)
  go_wp2_with (refine load_agG (by rfl) _ rfl w.heap.size rfl _ _ _ r5 z1.out.1 ?_)
  clear r5
  refine (HI0.out _ (HG.out.below W5.out.below)).mono ?_
  rintro e w6 ⟨rfl, hb6⟩
  have W6 := hid (W5.out.go hb6)
  clear hb6
  go_wp2_with fail
  refine (HI1.out _ (HG.out.below W6.out.below)).mono ?_
  rintro e w7 ⟨rfl, hb7⟩
  have W7 := hid (W6.out.go hb7)
  clear hb7
  go_wp2_with fail
  refine (HI2.out _ (HG.out.below W7.out.below)).mono ?_
  rintro e w8 ⟨rfl, hb8⟩
  have W8 := hid (W7.out.go hb8)
  clear hb8
  go_wp2_with fail
  refine (HI3.out _ (HG.out.below W8.out.below)).mono ?_
  rintro e w9 ⟨rfl, hb9⟩
  have W9 := hid (W8.out.go hb9)
  clear hb9
  go_wp2_with fail
  refine (HI4.out _ (HG.out.below W9.out.below)).mono ?_
  rintro e w10 ⟨rfl, hb10⟩
  have W10 := hid (W9.out.go hb10)
  clear hb10
  go_wp2_with fail
  refine (untilA_any ⟨#[]⟩ ⟨#[]⟩ ⟨#[]⟩ ⟨#[]⟩ 0 false 10 true false false 0 100 _).mono ?_
  rintro e w11 ⟨rfl, hb11⟩
  have W11 := hid (W10.out.go hb11)
  clear hb11
  rw [show untilV 0 false 10 true 100 = 110 from by decide]
  go_wp2_with fail
  refine (untilA_any ⟨#[]⟩ ⟨#[]⟩ ⟨#[]⟩ ⟨#[]⟩ 0 false 0 false false false 0 5 _).mono ?_
  rintro e w12 ⟨rfl, hb12⟩
  have W12 := hid (W11.out.go hb12)
  clear hb12
  rw [show untilV 0 false 0 false 5 = -1 from by decide]
  go_wp2
  go_ret
  exact ⟨rfl, W12.out.below⟩
end Go.Proofs.YthfndlphhgchnaaGreatDoor
