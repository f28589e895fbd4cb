/- Walk: chapter 04's alive, and the small helper four. -/
import Derived.Test.YtiookngmgednjaaDoorSpec04d
import Derived.Test.YtiookngmgednjaaDoorGoodA
import Derived.Test.YtiookngmgednjaaDoorGoodE
import Derived.Test.YtiookngmgednjaaDoorAdrEq
import Derived.Deep.RegionHeld3
namespace Go.Proofs.YtiookngmgednjaaDoor
open Go.RowKit Go.Lib Go.Proofs.Foot

/-- Addresses that lie in blocks since w0. -/
structure Adrs (w0 : World) (l : List (Nat × Array Value)) (w : World) : Prop where
  row : ∀ p ∈ l, w.heap[p.1]? = some (.cells p.2 24 (0, 0))
  below : Below w0.heap.size w0 w
theorem Adrs.go {w0 w w' : World} {l : List (Nat × Array Value)} (h : Adrs w0 l w) (hb : Below w.heap.size w w') : Adrs w0 l w' :=
  ⟨fun p hp => (hb.block p.1 (Array.getElem?_eq_some_iff.1 (h.row p hp)).1).trans (h.row p hp), below_chain h.below hb⟩
theorem Adrs.drew {w0 w : World} {l : List (Nat × Array Value)} (h : Adrs w0 l w) : Adrs w0 l w.drew := ⟨h.row, h.below.drew⟩
theorem Adrs.add {w0 w : World} {l : List (Nat × Array Value)} (h : Adrs w0 l w) (Z C : Array Value) : Adrs w0 ((w.heap.size, C) :: l) ((w.alloc (.cells Z 24)).setRow w.heap.size C) := by
  refine ⟨fun p hp => ?_, below_setRow (h.below.alloc h.below.size _) h.below.size _⟩
  rcases List.mem_cons.1 hp with rfl | hp
  · exact laid_row _ _ _ _
  · exact ((laid_below w Z C 24).block p.1 (Array.getElem?_eq_some_iff.1 (h.row p hp)).1).trans (h.row p hp)
theorem Adrs.load {w0 : World} {l : List (Nat × Array Value)} {g : Nat} {C : Array Value} (hm : (g, C) ∈ l) (h17 : (Tryd.prog.info? 24).map (·.size) = some C.size) : ∀ W, Adrs w0 l W → (loadVar 24 ⟨g, 0, none⟩).run Tryd.prog W = .ok (.agg C) W := fun W h =>
  run_loadVar_row W g _ _ _ _ _ (h.row _ hm) Tryd.underlying24 rfl h17
/-- In a drawn region the load of an address may be taken first. -/
theorem yields_adr {ops : Array Oper} {op : Oper} {a : Act} {w0 : World} {L : List (Nat × Array Value)} {g : Nat} {C : Array Value} (hw : Region.wanted op (yielded ops a.tmps) = true) (x : Operand) (ho : op.op = .load 24 x)
    (hx : a.eval x = .pointer (some ⟨g, 0, none⟩)) (hm : (g, C) ∈ L) (h17 : (Tryd.prog.info? 24).map (·.size) = some C.size) : YieldsIf Tryd.prog ops (fun W => Adrs w0 L W) op (.agg C) a :=
  .inl ⟨hw, fun w hw' => by
    unfold execOp
    simp only [ho, hx, Instr.loadAt, Instr.sureAddr, Sem.run_bind, Sem.run_pure, Result.andThen_ok, Adrs.load hm h17 w hw']⟩
theorem results_row1 {P : Program} {fn : Func} {p : Tmp} {ty : TypeId} (h : fn.results = #[.cell p ty]) (tmps : Array Value) (w : World) (g : Nat) (t : TypeId) (cs : Array Value) (fr : Nat × Nat) (d : TypeDesc)
    (hp : tmps.getD p undef = .pointer (some ⟨g, 0, none⟩)) (hg : w.heap[g]? = some (.cells cs t fr)) (hu : P.underlying ty = some d) (hd : (match d with | .struct _ | .array _ _ => true | _ => false) = true) (hi : (P.info? ty).map (·.size) = some cs.size) :
    (results fn tmps).run P w = .ok (.agg cs) w := by
  have hp' : tmps[p]?.getD undef = .pointer (some ⟨g, 0, none⟩) := by simpa using hp
  simp [results, h, hp', asAddr, run_loadVar_row w g t ty cs fr d hg hu hd hi]
set_option maxRecDepth 100000 in
theorem four_any (a b c d : UInt8) (w : World) :
    Calls Tryd.prog 18 #[.int .u8 a.toNat, .int .u8 b.toNat, .int .u8 c.toNat, .int .u8 d.toNat] w fun e w' => e = .returned (.agg (adrC false ([a, b, c, d] ++ noughts 12))) ∧ Below w.heap.size w w' := by
  go_enter Tryd.func18, Tryd.ntmps18
  go_wp2_with (refine wpList_store_row rfl 24 _ _ rfl w.heap.size (adrC false ([a, b, c, d] ++ noughts 12)) rfl rfl _ _ (heap_alloc_new w _) (infoAdr _ rfl false) rfl (adr_one _ _) ?_)
  have hg := laid_row w (adrC false (noughts 16)) (adrC false ([a, b, c, d] ++ noughts 12)) 24
  exact bodyPost_ret (v := .agg (adrC false ([a, b, c, d] ++ noughts 12))) (results_row1 (p := 8) rfl _ _ w.heap.size _ _ _ _ rfl hg Tryd.underlying24 rfl (infoAdr _ rfl false)) rfl ⟨rfl, laid_below w _ _ _⟩
/-- Text tells this address so. -/
structure Tells (C : Array Value) (T : ByteArray) : Prop where
  go : ∀ w, GoodA w → Calls Tryd.prog 11 #[.agg C] w fun e w' => e = .returned (.string T) ∧ Below w.heap.size w w'
theorem tells_go {C : Array Value} {T : ByteArray} {w : World} (h : Tells C T) (G : GoodA w) : Calls Tryd.prog 11 #[.agg C] w fun e w' => e = .returned (.string T) ∧ Below w.heap.size w w' := h.go w G
theorem tells_goH {C : Array Value} {T : ByteArray} {w : World} (h : Hid (Tells C T)) (G : GoodA w) : Calls Tryd.prog 11 #[.agg C] w fun e w' => e = .returned (.string T) ∧ Below w.heap.size w w' := h.out.go w G
theorem tells_six (B : List UInt8) (hB : B.length = 16) : Tells (adrC true B) ⟨(sixL B).toArray⟩ := ⟨fun w G => textA_six B hB w G⟩
theorem tells_four (a b c d : UInt8) : Tells (adrC false ([a, b, c, d] ++ noughts 12)) ⟨(dot4 a b c d).toArray⟩ := ⟨fun w G => textA_four ([a, b, c, d] ++ noughts 12) rfl w G⟩
theorem fourA_lit (s : ByteArray) (R : List UInt8) (ok : Bool) (n : Nat) (hs : s.size ≤ 16777216) (h : fourS s.data.toList = (R, ok, n)) (w : World) (A0 : Amb w) :
    Calls Tryd.prog 14 #[.string s] w fun e w' => e = .returned (.tuple #[.agg (adrC false R), .bool ok, .int .i64 n]) ∧ Below w.heap.size w w' := by
  have := fourA_any s hs w A0.sh A0.err
  rw [h] at this; exact this
theorem sixA_lit (s : ByteArray) (b : Bool) (R : List UInt8) (n : Nat) (hs : s.size ≤ 1048576) (h : sixS s.data.toList = (b, R, n)) (w : World) (A0 : Amb w) :
    Calls Tryd.prog 16 #[.string s] w fun e w' => e = .returned (.tuple #[.agg (adrC b R), .int .i64 n]) ∧ Below w.heap.size w w' := by
  have := sixA_any s hs w A0
  rw [h] at this; exact this
theorem adr_stored {b : Bool} {R : List UInt8} (h : R.length = 16) : (17 : Nat) = (adrC b R).size := by rw [adr_size, h]
set_option maxHeartbeats 4000000 in
set_option maxRecDepth 100000 in
theorem alive_any (w : World) (A0 : Amb w) :
    Calls Tryd.prog 19 #[] w fun e w' => e = .returned (.bool true) ∧ Below w.heap.size w w' := by
  obtain ⟨C1, hC1⟩ : ∃ C1, C1 = adrC false ([127, 0, 0, 1] ++ noughts 12) := ⟨_, rfl⟩
  obtain ⟨C0, hC0⟩ : ∃ C0, C0 = adrC false (noughts 16) := ⟨_, rfl⟩
  obtain ⟨C2, hC2⟩ : ∃ C2, C2 = adrC true ([32, 1, 13, 184] ++ noughts 9 ++ [0, 0, 1]) := ⟨_, rfl⟩
  obtain ⟨C3, hC3⟩ : ∃ C3, C3 = adrC true ([0, 1, 0, 0, 0, 0, 0, 2] ++ noughts 6 ++ [0, 3]) := ⟨_, rfl⟩
  have h01 : ∀ w, Amb w → Calls Tryd.prog 14 #[.string ⟨#[48, 120, 55, 102, 46, 49]⟩] w fun e w' => e = .returned (.tuple #[.agg C1, .bool true, .int .i64 0]) ∧ Below w.heap.size w w' := by
    rw [hC1]; exact fourA_lit _ _ true 0 (by decide) (by decide +kernel)
  have h02 : ∀ w, Amb w → Calls Tryd.prog 14 #[.string ⟨#[97, 46, 98]⟩] w fun e w' => e = .returned (.tuple #[.agg C0, .bool false, .int .i64 0]) ∧ Below w.heap.size w w' := by
    rw [hC0]; exact fourA_lit _ _ false 0 (by decide) (by decide +kernel)
  have h03 : ∀ w, Amb w → Calls Tryd.prog 14 #[.string ⟨#[50, 53, 54, 46, 49]⟩] w fun e w' => e = .returned (.tuple #[.agg C0, .bool true, .int .i64 5]) ∧ Below w.heap.size w w' := by
    rw [hC0]; exact fourA_lit _ _ true 5 (by decide) (by decide +kernel)
  have h04 : ∀ w, Amb w → Calls Tryd.prog 16 #[.string ⟨#[50, 48, 48, 49, 58, 68, 66, 56, 58, 58, 48, 58, 49]⟩] w fun e w' => e = .returned (.tuple #[.agg C2, .int .i64 0]) ∧ Below w.heap.size w w' := by
    rw [hC2]; exact sixA_lit _ true _ 0 (by decide) (by decide +kernel)
  have h05 : ∀ w, Amb w → Calls Tryd.prog 16 #[.string ⟨#[49, 58, 58, 50, 58, 58, 51]⟩] w fun e w' => e = .returned (.tuple #[.agg C0, .int .i64 5]) ∧ Below w.heap.size w w' := by
    rw [hC0]; exact sixA_lit _ false _ 5 (by decide) (by decide +kernel)
  have h06 : ∀ w, Amb w → Calls Tryd.prog 16 #[.string ⟨#[49, 58, 48, 58, 48, 58, 50, 58, 48, 58, 48, 58, 48, 58, 51]⟩] w fun e w' => e = .returned (.tuple #[.agg C3, .int .i64 0]) ∧ Below w.heap.size w w' := by
    rw [hC3]; exact sixA_lit _ true _ 0 (by decide) (by decide +kernel)
  have t1 : Tells C1 ⟨#[49, 50, 55, 46, 48, 46, 48, 46, 49]⟩ := by
    have := tells_four 127 0 0 1
    rw [show (dot4 127 0 0 1).toArray = #[49, 50, 55, 46, 48, 46, 48, 46, 49] from by decide +kernel] at this
    rw [hC1]; exact this
  have t2 : Tells C2 ⟨#[50, 48, 48, 49, 58, 100, 98, 56, 58, 58, 49]⟩ := by
    have := tells_six ([32, 1, 13, 184] ++ noughts 9 ++ [0, 0, 1]) rfl
    rw [show (sixL ([32, 1, 13, 184] ++ noughts 9 ++ [0, 0, 1])).toArray = #[50, 48, 48, 49, 58, 100, 98, 56, 58, 58, 49] from by decide +kernel] at this
    rw [hC2]; exact this
  have t3 : Tells C3 ⟨#[49, 58, 48, 58, 48, 58, 50, 58, 58, 51]⟩ := by
    have := tells_six ([0, 1, 0, 0, 0, 0, 0, 2] ++ noughts 6 ++ [0, 3]) rfl
    rw [show (sixL ([0, 1, 0, 0, 0, 0, 0, 2] ++ noughts 6 ++ [0, 3])).toArray = #[49, 58, 48, 58, 48, 58, 50, 58, 58, 51] from by decide +kernel] at this
    rw [hC3]; exact this
  have hq : Hid (∀ V, (binOp .eql 24 (.agg C1) (.agg C1)).run Tryd.prog V = .ok (.bool true) V) := hid (by rw [hC1]; exact adr_eql false _ rfl)
  have hfour : Hid (∀ w, Calls Tryd.prog 18 #[.int .u8 127, .int .u8 0, .int .u8 0, .int .u8 1] w fun e w' => e = .returned (.agg C1) ∧ Below w.heap.size w w') := hid (by rw [hC1]; exact four_any 127 0 0 1)
  have z0 : Hid ((17 : Nat) = C0.size ∧ (Tryd.prog.info? 24).map (·.size) = some C0.size ∧ C0.all (·.oneCell') = true) := hid (by rw [hC0]; exact ⟨rfl, infoAdr _ rfl _, adr_one _ _⟩)
  have z1 : Hid ((17 : Nat) = C1.size ∧ (Tryd.prog.info? 24).map (·.size) = some C1.size ∧ C1.all (·.oneCell') = true) := hid (by rw [hC1]; exact ⟨rfl, infoAdr _ rfl _, adr_one _ _⟩)
  have z2 : Hid ((17 : Nat) = C2.size ∧ (Tryd.prog.info? 24).map (·.size) = some C2.size ∧ C2.all (·.oneCell') = true) := hid (by rw [hC2]; exact ⟨rfl, infoAdr _ rfl _, adr_one _ _⟩)
  have z3 : Hid ((17 : Nat) = C3.size ∧ (Tryd.prog.info? 24).map (·.size) = some C3.size ∧ C3.all (·.oneCell') = true) := hid (by rw [hC3]; exact ⟨rfl, infoAdr _ rfl _, adr_one _ _⟩)
  have H01 := hid h01
  have H02 := hid h02
  have H03 := hid h03
  have H04 := hid h04
  have H05 := hid h05
  have H06 := hid h06
  have T1 := hid t1
  have T2 := hid t2
  have T3 := hid t3
  have W0 := hid (show Adrs w [] w from ⟨fun p hp => (by cases hp), Below.refl _ _⟩)
  have G := hid A0
  clear h01 h02 h03 h04 h05 h06 t1 t2 t3 hC1 hC0 hC2 hC3 A0
  go_enter Tryd.func19, Tryd.ntmps19
  go_wp2_with fail
  refine (H01.out _ (G.out.below W0.out.below)).mono ?_
  rintro e w1 ⟨rfl, hb1⟩
  have U1 := hid (W0.out.go hb1)
  clear hb1
  go_wp2_with (refine wpList_store_row rfl 24 _ _ rfl w1.heap.size C1 rfl rfl _ _ (heap_alloc_new w1 _) z1.out.2.1 z1.out.1 z1.out.2.2 ?_)
  have V1 := hid (U1.out.add #[.bool false, .int .u8 0, .int .u8 0, .int .u8 0, .int .u8 0, .int .u8 0, .int .u8 0, .int .u8 0, .int .u8 0, .int .u8 0, .int .u8 0, .int .u8 0, .int .u8 0, .int .u8 0, .int .u8 0, .int .u8 0, .int .u8 0] C1)
  generalize World.setRow _ w1.heap.size C1 = v1 at *
  have W1 := hid V1.out
  go_wp2_with fail
  refine (H02.out _ (G.out.below W1.out.below)).mono ?_
  rintro e w2 ⟨rfl, hb2⟩
  have U2 := hid (W1.out.go hb2)
  clear hb2
  go_wp2_with (refine wpList_store_row rfl 24 _ _ rfl w2.heap.size C0 rfl rfl _ _ (heap_alloc_new w2 _) z0.out.2.1 z0.out.1 z0.out.2.2 ?_)
  have V2 := hid (U2.out.add #[.bool false, .int .u8 0, .int .u8 0, .int .u8 0, .int .u8 0, .int .u8 0, .int .u8 0, .int .u8 0, .int .u8 0, .int .u8 0, .int .u8 0, .int .u8 0, .int .u8 0, .int .u8 0, .int .u8 0, .int .u8 0, .int .u8 0] C0)
  generalize World.setRow _ w2.heap.size C0 = v2 at *
  have W2 := hid V2.out
  go_wp2_with fail
  refine (H03.out _ (G.out.below W2.out.below)).mono ?_
  rintro e w3 ⟨rfl, hb3⟩
  have U3 := hid (W2.out.go hb3)
  clear hb3
  go_wp2_with (refine wpList_store_row rfl 24 _ _ rfl w3.heap.size C0 rfl rfl _ _ (heap_alloc_new w3 _) z0.out.2.1 z0.out.1 z0.out.2.2 ?_)
  have V3 := hid (U3.out.add #[.bool false, .int .u8 0, .int .u8 0, .int .u8 0, .int .u8 0, .int .u8 0, .int .u8 0, .int .u8 0, .int .u8 0, .int .u8 0, .int .u8 0, .int .u8 0, .int .u8 0, .int .u8 0, .int .u8 0, .int .u8 0, .int .u8 0] C0)
  generalize World.setRow _ w3.heap.size C0 = v3 at *
  have W3 := hid V3.out
  go_wp2_with fail
  refine (H04.out _ (G.out.below W3.out.below)).mono ?_
  rintro e w4 ⟨rfl, hb4⟩
  have U4 := hid (W3.out.go hb4)
  clear hb4
  go_wp2_with (refine wpList_store_row rfl 24 _ _ rfl w4.heap.size C2 rfl rfl _ _ (heap_alloc_new w4 _) z2.out.2.1 z2.out.1 z2.out.2.2 ?_)
  have V4 := hid (U4.out.add #[.bool false, .int .u8 0, .int .u8 0, .int .u8 0, .int .u8 0, .int .u8 0, .int .u8 0, .int .u8 0, .int .u8 0, .int .u8 0, .int .u8 0, .int .u8 0, .int .u8 0, .int .u8 0, .int .u8 0, .int .u8 0, .int .u8 0] C2)
  generalize World.setRow _ w4.heap.size C2 = v4 at *
  have W4 := hid V4.out
  go_wp2_with fail
  refine (H05.out _ (G.out.below W4.out.below)).mono ?_
  rintro e w5 ⟨rfl, hb5⟩
  have U5 := hid (W4.out.go hb5)
  clear hb5
  go_wp2_with (refine wpList_store_row rfl 24 _ _ rfl w5.heap.size C0 rfl rfl _ _ (heap_alloc_new w5 _) z0.out.2.1 z0.out.1 z0.out.2.2 ?_)
  have V5 := hid (U5.out.add #[.bool false, .int .u8 0, .int .u8 0, .int .u8 0, .int .u8 0, .int .u8 0, .int .u8 0, .int .u8 0, .int .u8 0, .int .u8 0, .int .u8 0, .int .u8 0, .int .u8 0, .int .u8 0, .int .u8 0, .int .u8 0, .int .u8 0] C0)
  generalize World.setRow _ w5.heap.size C0 = v5 at *
  have W5 := hid V5.out
  go_wp2_with fail
  refine (H06.out _ (G.out.below W5.out.below)).mono ?_
  rintro e w6 ⟨rfl, hb6⟩
  have U6 := hid (W5.out.go hb6)
  clear hb6
  go_wp2_with (refine wpList_store_row rfl 24 _ _ rfl w6.heap.size C3 rfl rfl _ _ (heap_alloc_new w6 _) z3.out.2.1 z3.out.1 z3.out.2.2 ?_)
  have V6 := hid (U6.out.add #[.bool false, .int .u8 0, .int .u8 0, .int .u8 0, .int .u8 0, .int .u8 0, .int .u8 0, .int .u8 0, .int .u8 0, .int .u8 0, .int .u8 0, .int .u8 0, .int .u8 0, .int .u8 0, .int .u8 0, .int .u8 0, .int .u8 0] C3)
  generalize World.setRow _ w6.heap.size C3 = v6 at *
  have W6 := hid V6.out
  obtain ⟨L, hL⟩ : ∃ L, L = [(w6.heap.size, C3), (w5.heap.size, C0), (w4.heap.size, C2), (w3.heap.size, C0), (w2.heap.size, C0), (w1.heap.size, C1)] := ⟨_, rfl⟩
  have M1 := hid (show (w1.heap.size, C1) ∈ L by rw [hL]; simp)
  have M2 := hid (show (w4.heap.size, C2) ∈ L by rw [hL]; simp)
  have M3 := hid (show (w6.heap.size, C3) ∈ L by rw [hL]; simp)
  have HW := hid W6.out
  rw [← hL] at HW
  clear hL W0 W1 W2 W3 W4 W5 W6 U1 U2 U3 U4 U5 U6 V1 V2 V3 V4 V5 V6 H01 H02 H03 H04 H05 H06
  have q1 := hq.out
  refine wp_region_held_drew (S := fun W => Adrs w L W) (by kernel_rfl) (HW.out.drew) (fun hHeld => ?_)
  refine wpAnyH_take (i := 0) (oi := _) (v := ?_) rfl (by kernel_rfl) (by kernel_rfl) (by kernel_rfl) (fun _ _ _ h => h) (Or.inl ⟨by rfl, ?_⟩) (by assumption) ?_
  rotate_left
  · intro W hSw
    go_simp
    try (with_reducible rfl)
  try simp only [Act.put, List.getElem_toArray, List.getElem_cons_zero, List.setIfInBounds_toArray, List.set_cons_zero, List.set_cons_succ]
  refine wpAnyH_take (i := 1) (oi := _) (v := ?_) rfl (by kernel_rfl) (by kernel_rfl) (by kernel_rfl) (fun _ _ _ h => h) (Or.inl ⟨by rfl, ?_⟩) (by assumption) ?_
  rotate_left
  · intro W hSw
    go_simp
    try (with_reducible rfl)
  try simp only [Act.put, List.getElem_toArray, List.getElem_cons_succ, List.getElem_cons_zero, List.setIfInBounds_toArray, List.set_cons_zero, List.set_cons_succ]
  refine wpAnyH_take (i := 2) (oi := _) (v := ?_) rfl (by kernel_rfl) (by kernel_rfl) (by kernel_rfl) (fun _ _ _ h => h) (Or.inl ⟨by rfl, ?_⟩) (by assumption) ?_
  rotate_left
  · intro W hSw
    go_simp
    try (with_reducible rfl)
  try simp only [Act.put, List.getElem_toArray, List.getElem_cons_succ, List.getElem_cons_zero, List.setIfInBounds_toArray, List.set_cons_zero, List.set_cons_succ]
  refine wpAnyH_take (i := 3) (oi := _) (v := ?_) rfl (by kernel_rfl) (by kernel_rfl) (by kernel_rfl) (fun _ _ _ h => h) (Or.inl ⟨by rfl, ?_⟩) (by assumption) ?_
  rotate_left
  · intro W hSw
    go_simp
    try (with_reducible rfl)
  try simp only [Act.put, List.getElem_toArray, List.getElem_cons_succ, List.getElem_cons_zero, List.setIfInBounds_toArray, List.set_cons_zero, List.set_cons_succ]
  refine wpAnyH_take (i := 4) (oi := _) (v := ?_) rfl (by kernel_rfl) (by kernel_rfl) (by kernel_rfl) (fun _ _ _ h => h) (Or.inl ⟨by rfl, ?_⟩) (by assumption) ?_
  rotate_left
  · intro W hSw
    go_simp
    try (with_reducible rfl)
  try simp only [Act.put, List.getElem_toArray, List.getElem_cons_succ, List.getElem_cons_zero, List.setIfInBounds_toArray, List.set_cons_zero, List.set_cons_succ]
  refine wpAnyH_take (i := 5) (oi := _) (v := ?_) rfl (by kernel_rfl) (by kernel_rfl) (by kernel_rfl) (fun _ _ _ h => h) (Or.inl ⟨by rfl, ?_⟩) (by assumption) ?_
  rotate_left
  · intro W hSw
    go_simp
    try (with_reducible rfl)
  try simp only [Act.put, List.getElem_toArray, List.getElem_cons_succ, List.getElem_cons_zero, List.setIfInBounds_toArray, List.set_cons_zero, List.set_cons_succ]
  refine wpAnyH_take (i := 6) (oi := _) (v := ?_) rfl (by kernel_rfl) (by kernel_rfl) (by kernel_rfl) (fun _ _ _ h => h) (Or.inl ⟨by rfl, ?_⟩) (by assumption) ?_
  rotate_left
  · intro W hSw
    go_simp
    try (with_reducible rfl)
  try simp only [Act.put, List.getElem_toArray, List.getElem_cons_succ, List.getElem_cons_zero, List.setIfInBounds_toArray, List.set_cons_zero, List.set_cons_succ]
  refine wpAnyH_take (i := 7) (oi := _) (v := ?_) rfl (by kernel_rfl) (by kernel_rfl) (by kernel_rfl) (fun _ _ _ h => h) (Or.inl ⟨by rfl, ?_⟩) (by assumption) ?_
  rotate_left
  · intro W hSw
    go_simp
    try (with_reducible rfl)
  try simp only [Act.put, List.getElem_toArray, List.getElem_cons_succ, List.getElem_cons_zero, List.setIfInBounds_toArray, List.set_cons_zero, List.set_cons_succ]
  refine wpAnyH_take (i := 8) (oi := _) (v := ?_) rfl (by kernel_rfl) (by kernel_rfl) (by kernel_rfl) (fun _ _ _ h => h) (Or.inl ⟨by rfl, ?_⟩) (by assumption) ?_
  rotate_left
  · intro W hSw
    go_simp
    try (with_reducible rfl)
  try simp only [Act.put, List.getElem_toArray, List.getElem_cons_succ, List.getElem_cons_zero, List.setIfInBounds_toArray, List.set_cons_zero, List.set_cons_succ]
  refine wpAnyH_take (i := 9) (oi := _) (v := ?_) rfl (by kernel_rfl) (by kernel_rfl) (by kernel_rfl) (fun _ _ _ h => h) (Or.inl ⟨by rfl, ?_⟩) (by assumption) ?_
  rotate_left
  · intro W hSw
    go_simp
    try (with_reducible rfl)
  try simp only [Act.put, List.getElem_toArray, List.getElem_cons_succ, List.getElem_cons_zero, List.setIfInBounds_toArray, List.set_cons_zero, List.set_cons_succ]
  refine wpAnyH_take (i := 10) (oi := _) (v := ?_) rfl (by kernel_rfl) (by kernel_rfl) (by kernel_rfl) (fun _ _ _ h => h) (Or.inl ⟨by rfl, ?_⟩) (by assumption) ?_
  rotate_left
  · intro W hSw
    go_simp
    try (with_reducible rfl)
  try simp only [Act.put, List.getElem_toArray, List.getElem_cons_succ, List.getElem_cons_zero, List.setIfInBounds_toArray, List.set_cons_zero, List.set_cons_succ]
  refine wpAnyH_take (i := 11) (oi := _) (v := ?_) rfl (by kernel_rfl) (by kernel_rfl) (by kernel_rfl) (fun _ _ _ h => h) (Or.inl ⟨by rfl, ?_⟩) (by assumption) ?_
  rotate_left
  · intro W hSw
    go_simp
    try (with_reducible rfl)
  try simp only [Act.put, List.getElem_toArray, List.getElem_cons_succ, List.getElem_cons_zero, List.setIfInBounds_toArray, List.set_cons_zero, List.set_cons_succ]
  refine wpAnyH_take (i := 12) (oi := _) (v := ?_) rfl (by kernel_rfl) (by kernel_rfl) (by kernel_rfl) (fun _ _ _ h => h) (Or.inl ⟨by rfl, ?_⟩) (by assumption) ?_
  rotate_left
  · intro W hSw
    go_simp
    try (with_reducible rfl)
  try simp only [Act.put, List.getElem_toArray, List.getElem_cons_succ, List.getElem_cons_zero, List.setIfInBounds_toArray, List.set_cons_zero, List.set_cons_succ]
  refine wpAnyH_take (i := 13) (oi := _) (v := ?_) rfl (by kernel_rfl) (by kernel_rfl) (by kernel_rfl) (fun _ _ _ h => h) (Or.inl ⟨by rfl, ?_⟩) (by assumption) ?_
  rotate_left
  · intro W hSw
    go_simp
    try (with_reducible rfl)
  try simp only [Act.put, List.getElem_toArray, List.getElem_cons_succ, List.getElem_cons_zero, List.setIfInBounds_toArray, List.set_cons_zero, List.set_cons_succ]
  refine wpAnyH_take (i := 14) (oi := _) (v := ?_) rfl (by kernel_rfl) (by kernel_rfl) (by kernel_rfl) (fun _ _ _ h => h) (Or.inl ⟨by rfl, ?_⟩) (by assumption) ?_
  rotate_left
  · intro W hSw
    go_simp
    try (with_reducible rfl)
  try simp only [Act.put, List.getElem_toArray, List.getElem_cons_succ, List.getElem_cons_zero, List.setIfInBounds_toArray, List.set_cons_zero, List.set_cons_succ]
  refine wpAnyH_take (i := 15) (oi := _) (v := ?_) rfl (by kernel_rfl) (by kernel_rfl) (by kernel_rfl) (fun _ _ _ h => h) (Or.inl ⟨by rfl, ?_⟩) (by assumption) ?_
  rotate_left
  · intro W hSw
    go_simp
    try (with_reducible rfl)
  try simp only [Act.put, List.getElem_toArray, List.getElem_cons_succ, List.getElem_cons_zero, List.setIfInBounds_toArray, List.set_cons_zero, List.set_cons_succ]
  refine wpAnyH_take (i := 16) (oi := _) (v := ?_) rfl (by kernel_rfl) (by kernel_rfl) (by kernel_rfl) (fun _ _ _ h => h) (Or.inl ⟨by rfl, ?_⟩) (by assumption) ?_
  rotate_left
  · intro W hSw
    go_simp
    try (with_reducible rfl)
  try simp only [Act.put, List.getElem_toArray, List.getElem_cons_succ, List.getElem_cons_zero, List.setIfInBounds_toArray, List.set_cons_zero, List.set_cons_succ]
  refine wpAnyH_take (i := 17) (oi := _) (v := ?_) rfl (by kernel_rfl) (by kernel_rfl) (by kernel_rfl) (fun _ _ _ h => h) (Or.inl ⟨by rfl, ?_⟩) (by assumption) ?_
  rotate_left
  · intro W hSw
    go_simp
    try (with_reducible rfl)
  try simp only [Act.put, List.getElem_toArray, List.getElem_cons_succ, List.getElem_cons_zero, List.setIfInBounds_toArray, List.set_cons_zero, List.set_cons_succ]
  refine wpAnyH_take (i := 18) (oi := _) (v := ?_) rfl (by kernel_rfl) (by kernel_rfl) (by kernel_rfl) (fun _ _ _ h => h) (Or.inl ⟨by rfl, ?_⟩) (by assumption) ?_
  rotate_left
  · intro W hSw
    go_simp
    try (with_reducible rfl)
  try simp only [Act.put, List.getElem_toArray, List.getElem_cons_succ, List.getElem_cons_zero, List.setIfInBounds_toArray, List.set_cons_zero, List.set_cons_succ]
  refine wpAnyH_take (i := 19) (oi := _) (v := ?_) rfl (by kernel_rfl) (by kernel_rfl) (by kernel_rfl) (fun _ _ _ h => h) (Or.inl ⟨by rfl, ?_⟩) (by assumption) ?_
  rotate_left
  · intro W hSw
    go_simp
    try (with_reducible rfl)
  try simp only [Act.put, List.getElem_toArray, List.getElem_cons_succ, List.getElem_cons_zero, List.setIfInBounds_toArray, List.set_cons_zero, List.set_cons_succ]
  refine wpAnyH_take (i := 20) (oi := _) (v := ?_) rfl (by kernel_rfl) (by kernel_rfl) (by kernel_rfl) (fun _ _ _ h => h) (Or.inl ⟨by rfl, ?_⟩) (by assumption) ?_
  rotate_left
  · intro W hSw
    go_simp
    try (with_reducible rfl)
  try simp only [Act.put, List.getElem_toArray, List.getElem_cons_succ, List.getElem_cons_zero, List.setIfInBounds_toArray, List.set_cons_zero, List.set_cons_succ]
  refine wpAnyH_take (i := 21) (oi := _) (v := ?_) rfl (by kernel_rfl) (by kernel_rfl) (by kernel_rfl) (fun _ _ _ h => h) (Or.inl ⟨by rfl, ?_⟩) (by assumption) ?_
  rotate_left
  · intro W hSw
    go_simp
    try (with_reducible rfl)
  try simp only [Act.put, List.getElem_toArray, List.getElem_cons_succ, List.getElem_cons_zero, List.setIfInBounds_toArray, List.set_cons_zero, List.set_cons_succ]
  refine wpAnyH_take (i := 22) (oi := _) (v := ?_) rfl (by kernel_rfl) (by kernel_rfl) (by kernel_rfl) (fun _ _ _ h => h) (Or.inl ⟨by rfl, ?_⟩) (by assumption) ?_
  rotate_left
  · intro W hSw
    go_simp
    try (with_reducible rfl)
  try simp only [Act.put, List.getElem_toArray, List.getElem_cons_succ, List.getElem_cons_zero, List.setIfInBounds_toArray, List.set_cons_zero, List.set_cons_succ]
  refine wpAnyH_take (i := 23) (oi := _) (v := ?_) rfl (by kernel_rfl) (by kernel_rfl) (by kernel_rfl) (fun _ _ _ h => h) (Or.inl ⟨by rfl, ?_⟩) (by assumption) ?_
  rotate_left
  · intro W hSw
    go_simp
    try (with_reducible rfl)
  try simp only [Act.put, List.getElem_toArray, List.getElem_cons_succ, List.getElem_cons_zero, List.setIfInBounds_toArray, List.set_cons_zero, List.set_cons_succ]
  refine wpAnyH_take (i := 24) (oi := _) (v := ?_) rfl (by kernel_rfl) (by kernel_rfl) (by kernel_rfl) (fun _ _ _ h => h) (Or.inl ⟨by rfl, ?_⟩) (by assumption) ?_
  rotate_left
  · intro W hSw
    go_simp
    try (with_reducible rfl)
  try simp only [Act.put, List.getElem_toArray, List.getElem_cons_succ, List.getElem_cons_zero, List.setIfInBounds_toArray, List.set_cons_zero, List.set_cons_succ]
  refine wpAnyH_take (i := 25) (oi := _) (v := ?_) rfl (by kernel_rfl) (by kernel_rfl) (by kernel_rfl) (fun _ _ _ h => h) (Or.inl ⟨by rfl, ?_⟩) (by assumption) ?_
  rotate_left
  · intro W hSw
    go_simp
    try (with_reducible rfl)
  try simp only [Act.put, List.getElem_toArray, List.getElem_cons_succ, List.getElem_cons_zero, List.setIfInBounds_toArray, List.set_cons_zero, List.set_cons_succ]
  refine wpAnyH_take (i := 26) (oi := _) (v := ?_) rfl (by kernel_rfl) (by kernel_rfl) (by kernel_rfl) (fun _ _ _ h => h) (Or.inl ⟨by rfl, ?_⟩) (by assumption) ?_
  rotate_left
  · intro W hSw
    go_simp
    try (with_reducible rfl)
  try simp only [Act.put, List.getElem_toArray, List.getElem_cons_succ, List.getElem_cons_zero, List.setIfInBounds_toArray, List.set_cons_zero, List.set_cons_succ]
  refine wpAnyH_take (i := 27) (oi := _) (v := ?_) rfl (by kernel_rfl) (by kernel_rfl) (by kernel_rfl) (fun _ _ _ h => h) (Or.inl ⟨by rfl, ?_⟩) (by assumption) ?_
  rotate_left
  · intro W hSw
    go_simp
    try (with_reducible rfl)
  try simp only [Act.put, List.getElem_toArray, List.getElem_cons_succ, List.getElem_cons_zero, List.setIfInBounds_toArray, List.set_cons_zero, List.set_cons_succ]
  refine wpAnyH_take (i := 28) (oi := _) (v := ?_) rfl (by kernel_rfl) (by kernel_rfl) (by kernel_rfl) (fun _ _ _ h => h) (Or.inl ⟨by rfl, ?_⟩) (by assumption) ?_
  rotate_left
  · intro W hSw
    go_simp
    try (with_reducible rfl)
  try simp only [Act.put, List.getElem_toArray, List.getElem_cons_succ, List.getElem_cons_zero, List.setIfInBounds_toArray, List.set_cons_zero, List.set_cons_succ]
  refine wpAnyH_take (i := 29) (oi := _) (v := ?_) rfl (by kernel_rfl) (by kernel_rfl) (by kernel_rfl) (fun _ _ _ h => h) (Or.inl ⟨by rfl, ?_⟩) (by assumption) ?_
  rotate_left
  · intro W hSw
    go_simp
    try (with_reducible rfl)
  try simp only [Act.put, List.getElem_toArray, List.getElem_cons_succ, List.getElem_cons_zero, List.setIfInBounds_toArray, List.set_cons_zero, List.set_cons_succ]
  refine wpAnyH_take (i := 30) (oi := _) (v := ?_) rfl (by kernel_rfl) (by kernel_rfl) (by kernel_rfl) (fun _ _ _ h => h) (Or.inl ⟨by rfl, ?_⟩) (by assumption) ?_
  rotate_left
  · intro W hSw
    go_simp
    try (with_reducible rfl)
  try simp only [Act.put, List.getElem_toArray, List.getElem_cons_succ, List.getElem_cons_zero, List.setIfInBounds_toArray, List.set_cons_zero, List.set_cons_succ]
  refine wpAnyH_take (i := 31) (oi := _) (v := ?_) rfl (by kernel_rfl) (by kernel_rfl) (by kernel_rfl) (fun _ _ _ h => h) (Or.inl ⟨by rfl, ?_⟩) (by assumption) ?_
  rotate_left
  · intro W hSw
    go_simp
    try (with_reducible rfl)
  try simp only [Act.put, List.getElem_toArray, List.getElem_cons_succ, List.getElem_cons_zero, List.setIfInBounds_toArray, List.set_cons_zero, List.set_cons_succ]
  refine wpAnyH_take (i := 32) (oi := _) (v := ?_) rfl (by kernel_rfl) (by kernel_rfl) (by kernel_rfl) (fun _ _ _ h => h) (Or.inl ⟨by rfl, ?_⟩) (by assumption) ?_
  rotate_left
  · intro W hSw
    go_simp
    try (with_reducible rfl)
  try simp only [Act.put, List.getElem_toArray, List.getElem_cons_succ, List.getElem_cons_zero, List.setIfInBounds_toArray, List.set_cons_zero, List.set_cons_succ]
  refine wpAnyH_take (i := 33) (oi := _) (v := _) rfl (by kernel_rfl) (by kernel_rfl) (by kernel_rfl) (fun _ _ _ h => h) (yields_adr (by rfl) _ rfl rfl M1.out z1.out.2.1) (by assumption) ?_
  try simp only [Act.put, List.getElem_toArray, List.getElem_cons_succ, List.getElem_cons_zero, List.setIfInBounds_toArray, List.set_cons_zero, List.set_cons_succ]
  refine wpAnyH_ready (rs := [34]) (by kernel_rfl) (by simp) ?_
  refine AllReadyH.cons (o := _) rfl (fun K hK => ?_) AllReadyH.nil
  go_simp
  refine (hfour.out _).mono ?_
  rintro e u34 ⟨rfl, hb34⟩
  have hS34 := Adrs.go hHeld hb34
  clear hb34 hHeld
  go_wp2_with fail
  refine hK.out _ _ hS34 (fun hHeld => ?_)
  clear hK K
  try simp only [Act.put, List.getElem_toArray, List.getElem_cons_succ, List.getElem_cons_zero, List.setIfInBounds_toArray, List.set_cons_zero, List.set_cons_succ]
  refine wpAnyH_take (i := 35) (oi := _) (v := ?_) rfl (by kernel_rfl) (by kernel_rfl) (by kernel_rfl) (fun _ _ _ h => h) (Or.inl ⟨by rfl, ?_⟩) (by assumption) ?_
  rotate_left
  · intro W hSw
    go_simp
    try (with_reducible rfl)
  try simp only [Act.put, List.getElem_toArray, List.getElem_cons_succ, List.getElem_cons_zero, List.setIfInBounds_toArray, List.set_cons_zero, List.set_cons_succ]
  refine wpAnyH_take (i := 36) (oi := _) (v := ?_) rfl (by kernel_rfl) (by kernel_rfl) (by kernel_rfl) (fun _ _ _ h => h) (Or.inl ⟨by rfl, ?_⟩) (by assumption) ?_
  rotate_left
  · intro W hSw
    go_simp
    try (with_reducible rfl)
  try simp only [Act.put, List.getElem_toArray, List.getElem_cons_succ, List.getElem_cons_zero, List.setIfInBounds_toArray, List.set_cons_zero, List.set_cons_succ]
  refine wpAnyH_take (i := 37) (oi := _) (v := ?_) rfl (by kernel_rfl) (by kernel_rfl) (by kernel_rfl) (fun _ _ _ h => h) (Or.inl ⟨by rfl, ?_⟩) (by assumption) ?_
  rotate_left
  · intro W hSw
    go_simp
    try (with_reducible rfl)
  try simp only [Act.put, List.getElem_toArray, List.getElem_cons_succ, List.getElem_cons_zero, List.setIfInBounds_toArray, List.set_cons_zero, List.set_cons_succ]
  refine wpAnyH_take (i := 38) (oi := _) (v := _) rfl (by kernel_rfl) (by kernel_rfl) (by kernel_rfl) (fun _ _ _ h => h) (yields_adr (by rfl) _ rfl rfl M1.out z1.out.2.1) (by assumption) ?_
  try simp only [Act.put, List.getElem_toArray, List.getElem_cons_succ, List.getElem_cons_zero, List.setIfInBounds_toArray, List.set_cons_zero, List.set_cons_succ]
  refine wpAnyH_ready (rs := [39]) (by kernel_rfl) (by simp) ?_
  refine AllReadyH.cons (o := _) rfl (fun K hK => ?_) AllReadyH.nil
  go_simp
  refine (tells_goH T1 (G.out.tab.below hHeld.below)).mono ?_
  rintro e u39 ⟨rfl, hb39⟩
  have hS39 := Adrs.go hHeld hb39
  clear hb39 hHeld
  go_wp2_with fail
  refine hK.out _ _ hS39 (fun hHeld => ?_)
  clear hK K
  try simp only [Act.put, List.getElem_toArray, List.getElem_cons_succ, List.getElem_cons_zero, List.setIfInBounds_toArray, List.set_cons_zero, List.set_cons_succ]
  refine wpAnyH_take (i := 40) (oi := _) (v := ?_) rfl (by kernel_rfl) (by kernel_rfl) (by kernel_rfl) (fun _ _ _ h => h) (Or.inl ⟨by rfl, ?_⟩) (by assumption) ?_
  rotate_left
  · intro W hSw
    go_simp
    try (with_reducible rfl)
  try simp only [Act.put, List.getElem_toArray, List.getElem_cons_succ, List.getElem_cons_zero, List.setIfInBounds_toArray, List.set_cons_zero, List.set_cons_succ]
  refine wpAnyH_take (i := 41) (oi := _) (v := ?_) rfl (by kernel_rfl) (by kernel_rfl) (by kernel_rfl) (fun _ _ _ h => h) (Or.inl ⟨by rfl, ?_⟩) (by assumption) ?_
  rotate_left
  · intro W hSw
    go_simp
    try (with_reducible rfl)
  try simp only [Act.put, List.getElem_toArray, List.getElem_cons_succ, List.getElem_cons_zero, List.setIfInBounds_toArray, List.set_cons_zero, List.set_cons_succ]
  refine wpAnyH_take (i := 42) (oi := _) (v := ?_) rfl (by kernel_rfl) (by kernel_rfl) (by kernel_rfl) (fun _ _ _ h => h) (Or.inl ⟨by rfl, ?_⟩) (by assumption) ?_
  rotate_left
  · intro W hSw
    go_simp
    try (with_reducible rfl)
  try simp only [Act.put, List.getElem_toArray, List.getElem_cons_succ, List.getElem_cons_zero, List.setIfInBounds_toArray, List.set_cons_zero, List.set_cons_succ]
  refine wpAnyH_take (i := 43) (oi := _) (v := _) rfl (by kernel_rfl) (by kernel_rfl) (by kernel_rfl) (fun _ _ _ h => h) (yields_adr (by rfl) _ rfl rfl M2.out z2.out.2.1) (by assumption) ?_
  try simp only [Act.put, List.getElem_toArray, List.getElem_cons_succ, List.getElem_cons_zero, List.setIfInBounds_toArray, List.set_cons_zero, List.set_cons_succ]
  refine wpAnyH_ready (rs := [44]) (by kernel_rfl) (by simp) ?_
  refine AllReadyH.cons (o := _) rfl (fun K hK => ?_) AllReadyH.nil
  go_simp
  refine (tells_goH T2 (G.out.tab.below hHeld.below)).mono ?_
  rintro e u44 ⟨rfl, hb44⟩
  have hS44 := Adrs.go hHeld hb44
  clear hb44 hHeld
  go_wp2_with fail
  refine hK.out _ _ hS44 (fun hHeld => ?_)
  clear hK K
  try simp only [Act.put, List.getElem_toArray, List.getElem_cons_succ, List.getElem_cons_zero, List.setIfInBounds_toArray, List.set_cons_zero, List.set_cons_succ]
  refine wpAnyH_take (i := 45) (oi := _) (v := ?_) rfl (by kernel_rfl) (by kernel_rfl) (by kernel_rfl) (fun _ _ _ h => h) (Or.inl ⟨by rfl, ?_⟩) (by assumption) ?_
  rotate_left
  · intro W hSw
    go_simp
    try (with_reducible rfl)
  try simp only [Act.put, List.getElem_toArray, List.getElem_cons_succ, List.getElem_cons_zero, List.setIfInBounds_toArray, List.set_cons_zero, List.set_cons_succ]
  refine wpAnyH_take (i := 46) (oi := _) (v := ?_) rfl (by kernel_rfl) (by kernel_rfl) (by kernel_rfl) (fun _ _ _ h => h) (Or.inl ⟨by rfl, ?_⟩) (by assumption) ?_
  rotate_left
  · intro W hSw
    go_simp
    try (with_reducible rfl)
  try simp only [Act.put, List.getElem_toArray, List.getElem_cons_succ, List.getElem_cons_zero, List.setIfInBounds_toArray, List.set_cons_zero, List.set_cons_succ]
  refine wpAnyH_take (i := 47) (oi := _) (v := ?_) rfl (by kernel_rfl) (by kernel_rfl) (by kernel_rfl) (fun _ _ _ h => h) (Or.inl ⟨by rfl, ?_⟩) (by assumption) ?_
  rotate_left
  · intro W hSw
    go_simp
    try (with_reducible rfl)
  try simp only [Act.put, List.getElem_toArray, List.getElem_cons_succ, List.getElem_cons_zero, List.setIfInBounds_toArray, List.set_cons_zero, List.set_cons_succ]
  refine wpAnyH_take (i := 48) (oi := _) (v := _) rfl (by kernel_rfl) (by kernel_rfl) (by kernel_rfl) (fun _ _ _ h => h) (yields_adr (by rfl) _ rfl rfl M3.out z3.out.2.1) (by assumption) ?_
  try simp only [Act.put, List.getElem_toArray, List.getElem_cons_succ, List.getElem_cons_zero, List.setIfInBounds_toArray, List.set_cons_zero, List.set_cons_succ]
  refine wpAnyH_ready (rs := [49]) (by kernel_rfl) (by simp) ?_
  refine AllReadyH.cons (o := _) rfl (fun K hK => ?_) AllReadyH.nil
  go_simp
  refine (tells_goH T3 (G.out.tab.below hHeld.below)).mono ?_
  rintro e u49 ⟨rfl, hb49⟩
  have hS49 := Adrs.go hHeld hb49
  clear hb49 hHeld
  go_wp2_with fail
  refine hK.out _ _ hS49 (fun hHeld => ?_)
  clear hK K
  try simp only [Act.put, List.getElem_toArray, List.getElem_cons_succ, List.getElem_cons_zero, List.setIfInBounds_toArray, List.set_cons_zero, List.set_cons_succ]
  refine wpAnyH_take (i := 50) (oi := _) (v := ?_) rfl (by kernel_rfl) (by kernel_rfl) (by kernel_rfl) (fun _ _ _ h => h) (Or.inl ⟨by rfl, ?_⟩) (by assumption) ?_
  rotate_left
  · intro W hSw
    go_simp
    try (with_reducible rfl)
  try simp only [Act.put, List.getElem_toArray, List.getElem_cons_succ, List.getElem_cons_zero, List.setIfInBounds_toArray, List.set_cons_zero, List.set_cons_succ]
  refine wpAnyH_take (i := 51) (oi := _) (v := ?_) rfl (by kernel_rfl) (by kernel_rfl) (by kernel_rfl) (fun _ _ _ h => h) (Or.inl ⟨by rfl, ?_⟩) (by assumption) ?_
  rotate_left
  · intro W hSw
    go_simp
    try (with_reducible rfl)
  try simp only [Act.put, List.getElem_toArray, List.getElem_cons_succ, List.getElem_cons_zero, List.setIfInBounds_toArray, List.set_cons_zero, List.set_cons_succ]
  refine wpAnyH_take (i := 52) (oi := _) (v := ?_) rfl (by kernel_rfl) (by kernel_rfl) (by kernel_rfl) (fun _ _ _ h => h) (Or.inl ⟨by rfl, ?_⟩) (by assumption) ?_
  rotate_left
  · intro W hSw
    go_simp
    try (with_reducible rfl)
  try simp only [Act.put, List.getElem_toArray, List.getElem_cons_succ, List.getElem_cons_zero, List.setIfInBounds_toArray, List.set_cons_zero]
  refine wpAnyH_done (by kernel_rfl) ?_ _
  have BB := hid hHeld.below
  clear hHeld
  go_wp2
  go_ret
  exact ⟨rfl, BB.out⟩
end Go.Proofs.YtiookngmgednjaaDoor
