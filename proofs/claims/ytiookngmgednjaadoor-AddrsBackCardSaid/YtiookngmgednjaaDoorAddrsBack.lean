/- Walk of the law AddrsBack: an address is read from its text. -/
import Derived.Test.YtiookngmgednjaaDoorAb1
namespace Go.Proofs.YtiookngmgednjaaDoor
open Go.RowKit Go.Lib Go.Proofs.Foot

set_option maxHeartbeats 4000000 in
set_option maxRecDepth 100000 in
theorem addrsBack_at (b0 b1 b2 b3 b4 b5 b6 b7 b8 b9 b10 b11 b12 b13 b14 b15 : UInt8) (x0 x1 x2 x3 x4 x5 x6 x7 x8 x9 x10 x11 x12 x13 x14 x15 : Value) (e0 : x0 = .int .u8 b0.toNat) (e1 : x1 = .int .u8 b1.toNat) (e2 : x2 = .int .u8 b2.toNat) (e3 : x3 = .int .u8 b3.toNat) (e4 : x4 = .int .u8 b4.toNat) (e5 : x5 = .int .u8 b5.toNat) (e6 : x6 = .int .u8 b6.toNat) (e7 : x7 = .int .u8 b7.toNat) (e8 : x8 = .int .u8 b8.toNat) (e9 : x9 = .int .u8 b9.toNat) (e10 : x10 = .int .u8 b10.toNat) (e11 : x11 = .int .u8 b11.toNat) (e12 : x12 = .int .u8 b12.toNat) (e13 : x13 = .int .u8 b13.toNat) (e14 : x14 = .int .u8 b14.toNat) (e15 : x15 = .int .u8 b15.toNat) (w : World) (A0 : Amb w) :
    Calls Tryd.prog 6 #[.agg #[x0, x1, x2, x3, x4, x5, x6, x7, x8, x9, x10, x11, x12, x13, x14, x15]] w fun e w' => e = .returned (.bool true) ∧ Below w.heap.size w w' := by
  obtain ⟨C6, hC6⟩ : ∃ C6, C6 = adrC true [b0, b1, b2, b3, b4, b5, b6, b7, b8, b9, b10, b11, b12, b13, b14, b15] := ⟨_, rfl⟩
  obtain ⟨C4, hC4⟩ : ∃ C4, C4 = adrC false ([b0, b1, b2, b3] ++ noughts 12) := ⟨_, rfl⟩
  obtain ⟨C0, hC0⟩ : ∃ C0, C0 = adrC false (noughts 16) := ⟨_, rfl⟩
  obtain ⟨T6, hT6⟩ : ∃ T6 : ByteArray, T6 = ⟨(sixL [b0, b1, b2, b3, b4, b5, b6, b7, b8, b9, b10, b11, b12, b13, b14, b15]).toArray⟩ := ⟨_, rfl⟩
  obtain ⟨T4, hT4⟩ : ∃ T4 : ByteArray, T4 = ⟨(dot4 b0 b1 b2 b3).toArray⟩ := ⟨_, rfl⟩
  have hl6 : T6.data.toList = sixL [b0, b1, b2, b3, b4, b5, b6, b7, b8, b9, b10, b11, b12, b13, b14, b15] := by rw [hT6]
  have hl4 : T4.data.toList = dot4 b0 b1 b2 b3 := by rw [hT4]
  have z6 : T6.size ≤ 1048576 := by rw [Lib.size_eq, hl6]; have := (sixL_len [b0, b1, b2, b3, b4, b5, b6, b7, b8, b9, b10, b11, b12, b13, b14, b15]).2; omega
  have z4 : T4.size ≤ 1048576 := by rw [Lib.size_eq, hl4]; have := dot4_len b0 b1 b2 b3; omega
  have H1 : Hid (Tells C6 T6) := hid (by rw [hC6, hT6]; exact tells_six _ rfl)
  have H4 : Hid (Tells C4 T4) := hid (by rw [hC4, hT4]; exact tells_four _ _ _ _)
  have HS6 : Hid (∀ w, Amb w → Calls Tryd.prog 16 #[.string T6] w fun e w' => e = .returned (.tuple #[.agg C6, .int .i64 0]) ∧ Below w.heap.size w w') := hid (by rw [hC6]; exact sixA_lit T6 true _ 0 z6 (by rw [hl6]; exact six_back rfl))
  have HF4 : Hid (∀ w, Amb w → Calls Tryd.prog 14 #[.string T4] w fun e w' => e = .returned (.tuple #[.agg C4, .bool true, .int .i64 0]) ∧ Below w.heap.size w w') := hid (by rw [hC4]; exact fourA_lit T4 _ true 0 (by omega) (by rw [hl4]; exact four_back _ _ _ _))
  have HS4 : Hid (∀ w, Amb w → Calls Tryd.prog 16 #[.string T4] w fun e w' => e = .returned (.tuple #[.agg C0, .int .i64 5]) ∧ Below w.heap.size w w') := hid (by rw [hC0]; exact sixA_lit T4 false _ 5 z4 (by rw [hl4]; exact six_not _ _ _ _))
  have hfour : Hid (∀ w, Calls Tryd.prog 18 #[x0, x1, x2, x3] w fun e w' => e = .returned (.agg C4) ∧ Below w.heap.size w w') := hid (by rw [hC4, e0, e1, e2, e3]; exact four_any b0 b1 b2 b3)
  have q6 : Hid (∀ V, (binOp .eql 24 (.agg C6) (.agg C6)).run Tryd.prog V = .ok (.bool true) V) := hid (by rw [hC6]; exact adr_eql true _ rfl)
  have q4 : Hid (∀ V, (binOp .eql 24 (.agg C4) (.agg C4)).run Tryd.prog V = .ok (.bool true) V) := hid (by rw [hC4]; exact adr_eql false _ rfl)
  have z0 : Hid ((17 : Nat) = C0.size ∧ (Tryd.prog.info? 24).map (·.size) = some C0.size ∧ C0.all (·.oneCell') = true) := hid (by rw [hC0]; exact ⟨rfl, infoAdr _ rfl _, adr_one _ _⟩)
  have y4 : Hid ((17 : Nat) = C4.size ∧ (Tryd.prog.info? 24).map (·.size) = some C4.size ∧ C4.all (·.oneCell') = true) := hid (by rw [hC4]; exact ⟨rfl, infoAdr _ rfl _, adr_one _ _⟩)
  have y6 : Hid ((17 : Nat) = C6.size ∧ (Tryd.prog.info? 24).map (·.size) = some C6.size ∧ C6.all (·.oneCell') = true) := hid (by rw [hC6]; exact ⟨rfl, infoAdr _ rfl _, adr_one _ _⟩)
  have HD : Hid ((Tryd.prog.info? 22).map (·.size) = some (#[x0, x1, x2, x3, x4, x5, x6, x7, x8, x9, x10, x11, x12, x13, x14, x15] : Array Value).size) := hid (by kernel_rfl)
  have G := hid A0
  have hX6 : C6 = #[.bool true, x0, x1, x2, x3, x4, x5, x6, x7, x8, x9, x10, x11, x12, x13, x14, x15] := by rw [hC6, e0, e1, e2, e3, e4, e5, e6, e7, e8, e9, e10, e11, e12, e13, e14, e15]; rfl
  have W0 := hid (Boxed.start w #[x0, x1, x2, x3, x4, x5, x6, x7, x8, x9, x10, x11, x12, x13, x14, x15])
  clear hT6 hT4 hl6 hl4 z6 z4 hC4 hC0 A0 hC6 e0 e1 e2 e3 e4 e5 e6 e7 e8 e9 e10 e11 e12 e13 e14 e15
  go_enter Tryd.func6, Tryd.ntmps6
  go_upto_region 1 with fail
  have hg0 := W0.out.box
  have y7 := y6.out
  rw [hX6] at y7
  obtain ⟨D, hD⟩ : ∃ D : Array Value, D = #[x0, x1, x2, x3, x4, x5, x6, x7, x8, x9, x10, x11, x12, x13, x14, x15] := ⟨_, rfl⟩
  have hd0 : Hid (D[0]? = some x0) := hid (by rw [hD]; rfl)
  have hd1 : Hid (D[1]? = some x1) := hid (by rw [hD]; rfl)
  have hd2 : Hid (D[2]? = some x2) := hid (by rw [hD]; rfl)
  have hd3 : Hid (D[3]? = some x3) := hid (by rw [hD]; rfl)
  generalize w.alloc _ = w1 at *
  go_upto_region 2 with (first
    | (refine wpList_load_row rfl 22 _ rfl w.heap.size rfl _ _ _ _ hg0 Tryd.underlying22 rfl HD.out ?_)
    | (refine wpList_store_row rfl 24 _ _ rfl w1.heap.size #[.bool true, x0, x1, x2, x3, x4, x5, x6, x7, x8, x9, x10, x11, x12, x13, x14, x15] rfl rfl _ _ (heap_alloc_new w1 _) y7.2.1 y7.1 y7.2.2 ?_))
  rw [← hX6]
  rw [← hD] at W0
  clear hg0 hD HD hX6 y7
  have V1 := hid (W0.out.add #[.bool false, .int .u8 0, .int .u8 0, .int .u8 0, .int .u8 0, .int .u8 0, .int .u8 0, .int .u8 0, .int .u8 0, .int .u8 0, .int .u8 0, .int .u8 0, .int .u8 0, .int .u8 0, .int .u8 0, .int .u8 0, .int .u8 0] C6)
  generalize World.setRow _ w1.heap.size C6 = v1 at *
  have W1 := hid V1.out
  have hr1 := W1.out.adr.row (w1.heap.size, C6) (by simp)
  go_wp2_with (refine wpList_load_row rfl 24 _ rfl w1.heap.size rfl _ _ _ _ hr1 Tryd.underlying24 rfl y6.out.2.1 ?_)
  clear hr1
  refine (tells_goH H1 (G.out.tab.below W1.out.adr.below)).mono ?_
  rintro e w2 ⟨rfl, hb2⟩
  have U2 := hid (W1.out.go hb2)
  clear hb2
  go_wp2_with fail
  refine (HS6.out _ (G.out.below U2.out.adr.below)).mono ?_
  rintro e w3 ⟨rfl, hb3⟩
  have U3 := hid (U2.out.go hb3)
  clear hb3
  go_upto_region 3 with (refine wpList_store_row rfl 24 _ _ rfl w3.heap.size C6 rfl rfl _ _ (heap_alloc_new w3 _) y6.out.2.1 y6.out.1 y6.out.2.2 ?_)
  have V3 := hid (U3.out.add #[.bool false, .int .u8 0, .int .u8 0, .int .u8 0, .int .u8 0, .int .u8 0, .int .u8 0, .int .u8 0, .int .u8 0, .int .u8 0, .int .u8 0, .int .u8 0, .int .u8 0, .int .u8 0, .int .u8 0, .int .u8 0, .int .u8 0] C6)
  generalize World.setRow _ w3.heap.size C6 = v3 at *
  have W3 := hid V3.out
  have c0 := W3.out.cell hd0.out
  have c1 := W3.out.cell hd1.out
  have c2 := W3.out.cell hd2.out
  have c3 := W3.out.cell hd3.out
  go_wp2_with fail
  clear c0 c1 c2 c3
  refine (hfour.out _).mono ?_
  rintro e w4 ⟨rfl, hb4⟩
  have U4 := hid (W3.out.go hb4)
  clear hb4
  go_wp2_with fail
  refine (tells_goH H4 (G.out.tab.below U4.out.adr.below)).mono ?_
  rintro e w5 ⟨rfl, hb5⟩
  have U5 := hid (U4.out.go hb5)
  clear hb5
  go_wp2_with fail
  refine (HF4.out _ (G.out.below U5.out.adr.below)).mono ?_
  rintro e w6 ⟨rfl, hb6⟩
  have U6 := hid (U5.out.go hb6)
  clear hb6
  go_upto_region 4 with (refine wpList_store_row rfl 24 _ _ rfl w6.heap.size C4 rfl rfl _ _ (heap_alloc_new w6 _) y4.out.2.1 y4.out.1 y4.out.2.2 ?_)
  have V6 := hid (U6.out.add #[.bool false, .int .u8 0, .int .u8 0, .int .u8 0, .int .u8 0, .int .u8 0, .int .u8 0, .int .u8 0, .int .u8 0, .int .u8 0, .int .u8 0, .int .u8 0, .int .u8 0, .int .u8 0, .int .u8 0, .int .u8 0, .int .u8 0] C4)
  generalize World.setRow _ w6.heap.size C4 = v6 at *
  have W6 := hid V6.out
  have c0 := W6.out.cell hd0.out
  have c1 := W6.out.cell hd1.out
  have c2 := W6.out.cell hd2.out
  have c3 := W6.out.cell hd3.out
  go_wp2_with fail
  clear c0 c1 c2 c3
  refine (hfour.out _).mono ?_
  rintro e w7 ⟨rfl, hb7⟩
  have U7 := hid (W6.out.go hb7)
  clear hb7
  go_wp2_with fail
  refine (tells_goH H4 (G.out.tab.below U7.out.adr.below)).mono ?_
  rintro e w8 ⟨rfl, hb8⟩
  have U8 := hid (U7.out.go hb8)
  clear hb8
  go_wp2_with fail
  refine (HS4.out _ (G.out.below U8.out.adr.below)).mono ?_
  rintro e w9 ⟨rfl, hb9⟩
  have U9 := hid (U8.out.go hb9)
  clear hb9
  go_upto_region 5 with (refine wpList_store_row rfl 24 _ _ rfl w9.heap.size C0 rfl rfl _ _ (heap_alloc_new w9 _) z0.out.2.1 z0.out.1 z0.out.2.2 ?_)
  have V9 := hid (U9.out.add #[.bool false, .int .u8 0, .int .u8 0, .int .u8 0, .int .u8 0, .int .u8 0, .int .u8 0, .int .u8 0, .int .u8 0, .int .u8 0, .int .u8 0, .int .u8 0, .int .u8 0, .int .u8 0, .int .u8 0, .int .u8 0, .int .u8 0] C0)
  generalize World.setRow _ w9.heap.size C0 = v9 at *
  have W9 := hid V9.out
  obtain ⟨L, hL⟩ : ∃ L, L = [(w9.heap.size, C0), (w6.heap.size, C4), (w3.heap.size, C6), (w1.heap.size, C6)] := ⟨_, rfl⟩
  have M6 := hid (show (w6.heap.size, C4) ∈ L by rw [hL]; simp)
  have M3 := hid (show (w3.heap.size, C6) ∈ L by rw [hL]; simp)
  have M1 := hid (show (w1.heap.size, C6) ∈ L by rw [hL]; simp)
  have HW := hid W9.out
  rw [← hL] at HW
  clear hL W0 W1 W3 W6 W9 U2 U3 U4 U5 U6 U7 U8 U9 V1 V3 V6 V9 H1 H4 HS6 HF4 HS4
  have e6 := q6.out
  have e4 := q4.out
  refine wp_region_held_drew (S := fun W => Boxed w L w.heap.size D W) (by kernel_rfl) (HW.out.drew) (fun hHeld => ?_)
  refine wpAnyH_ready (rs := [0]) (by kernel_rfl) (by simp) ?_
  refine AllReadyH.cons (o := _) rfl (fun K hK => ?_) AllReadyH.nil
  go_simp
  refine (alive_any _ (G.out.below hHeld.adr.below)).mono ?_
  rintro e u0 ⟨rfl, hb0⟩
  have hS0 := Boxed.go hHeld hb0
  clear hb0 hHeld
  go_wp2_with fail
  refine hK.out _ _ hS0 (fun hHeld => ?_)
  clear hK K
  try simp only [Act.put, List.getElem_toArray, List.getElem_cons_succ, List.getElem_cons_zero, List.setIfInBounds_toArray, List.set_cons_zero, List.set_cons_succ]
  refine wpAnyH_take (i := 1) (oi := _) (v := ?_) rfl (by kernel_rfl) (by kernel_rfl) (by kernel_rfl) (fun _ _ _ h => h) (Or.inl ⟨by rfl, ?_⟩) (by assumption) ?_
  rotate_left
  · intro W hSw
    go_simp
    try (with_reducible rfl)
  try simp only [Act.put, List.getElem_toArray, List.getElem_cons_succ, List.getElem_cons_zero, List.setIfInBounds_toArray, List.set_cons_zero, List.set_cons_succ]
  refine wpAnyH_take (i := 2) (oi := _) (v := ?_) rfl (by kernel_rfl) (by kernel_rfl) (by kernel_rfl) (fun _ _ _ h => h) (Or.inl ⟨by rfl, ?_⟩) (by assumption) ?_
  rotate_left
  · intro W hSw
    go_simp
    try (with_reducible rfl)
  try simp only [Act.put, List.getElem_toArray, List.getElem_cons_succ, List.getElem_cons_zero, List.setIfInBounds_toArray, List.set_cons_zero, List.set_cons_succ]
  refine wpAnyH_take (i := 3) (oi := _) (v := ?_) rfl (by kernel_rfl) (by kernel_rfl) (by kernel_rfl) (fun _ _ _ h => h) (Or.inl ⟨by rfl, ?_⟩) (by assumption) ?_
  rotate_left
  · intro W hSw
    go_simp
    try (with_reducible rfl)
  try simp only [Act.put, List.getElem_toArray, List.getElem_cons_succ, List.getElem_cons_zero, List.setIfInBounds_toArray, List.set_cons_zero, List.set_cons_succ]
  refine wpAnyH_take (i := 4) (oi := _) (v := ?_) rfl (by kernel_rfl) (by kernel_rfl) (by kernel_rfl) (fun _ _ _ h => h) (Or.inl ⟨by rfl, ?_⟩) (by assumption) ?_
  rotate_left
  · intro W hSw
    go_simp
    try (with_reducible rfl)
  try simp only [Act.put, List.getElem_toArray, List.getElem_cons_succ, List.getElem_cons_zero, List.setIfInBounds_toArray, List.set_cons_zero, List.set_cons_succ]
  refine wpAnyH_take (i := 5) (oi := _) (v := ?_) rfl (by kernel_rfl) (by kernel_rfl) (by kernel_rfl) (fun _ _ _ h => h) (Or.inl ⟨by rfl, ?_⟩) (by assumption) ?_
  rotate_left
  · intro W hSw
    go_simp
    try (with_reducible rfl)
  try simp only [Act.put, List.getElem_toArray, List.getElem_cons_succ, List.getElem_cons_zero, List.setIfInBounds_toArray, List.set_cons_zero, List.set_cons_succ]
  refine wpAnyH_take (i := 6) (oi := _) (v := _) rfl (by kernel_rfl) (by kernel_rfl) (by kernel_rfl) (fun _ _ _ h => h) (yields_boxed (by rfl) _ rfl rfl M3.out y6.out.2.1) (by assumption) ?_
  try simp only [Act.put, List.getElem_toArray, List.getElem_cons_succ, List.getElem_cons_zero, List.setIfInBounds_toArray, List.set_cons_zero, List.set_cons_succ]
  refine wpAnyH_take (i := 7) (oi := _) (v := _) rfl (by kernel_rfl) (by kernel_rfl) (by kernel_rfl) (fun _ _ _ h => h) (yields_boxed (by rfl) _ rfl rfl M1.out y6.out.2.1) (by assumption) ?_
  try simp only [Act.put, List.getElem_toArray, List.getElem_cons_succ, List.getElem_cons_zero, List.setIfInBounds_toArray, List.set_cons_zero, List.set_cons_succ]
  refine wpAnyH_take (i := 8) (oi := _) (v := ?_) rfl (by kernel_rfl) (by kernel_rfl) (by kernel_rfl) (fun _ _ _ h => h) (Or.inl ⟨by rfl, ?_⟩) (by assumption) ?_
  rotate_left
  · intro W hSw
    go_simp
    try (with_reducible rfl)
  try simp only [Act.put, List.getElem_toArray, List.getElem_cons_succ, List.getElem_cons_zero, List.setIfInBounds_toArray, List.set_cons_zero, List.set_cons_succ]
  refine wpAnyH_take (i := 9) (oi := _) (v := ?_) rfl (by kernel_rfl) (by kernel_rfl) (by kernel_rfl) (fun _ _ _ h => h) (Or.inl ⟨by rfl, ?_⟩) (by assumption) ?_
  rotate_left
  · intro W hSw
    go_simp
    try (with_reducible rfl)
  try simp only [Act.put, List.getElem_toArray, List.getElem_cons_succ, List.getElem_cons_zero, List.setIfInBounds_toArray, List.set_cons_zero, List.set_cons_succ]
  refine wpAnyH_take (i := 10) (oi := _) (v := ?_) rfl (by kernel_rfl) (by kernel_rfl) (by kernel_rfl) (fun _ _ _ h => h) (Or.inl ⟨by rfl, ?_⟩) (by assumption) ?_
  rotate_left
  · intro W hSw
    go_simp
    try (with_reducible rfl)
  try simp only [Act.put, List.getElem_toArray, List.getElem_cons_succ, List.getElem_cons_zero, List.setIfInBounds_toArray, List.set_cons_zero, List.set_cons_succ]
  refine wpAnyH_take (i := 11) (oi := _) (v := ?_) rfl (by kernel_rfl) (by kernel_rfl) (by kernel_rfl) (fun _ _ _ h => h) (Or.inl ⟨by rfl, ?_⟩) (by assumption) ?_
  rotate_left
  · intro W hSw
    go_simp
    try (with_reducible rfl)
  try simp only [Act.put, List.getElem_toArray, List.getElem_cons_succ, List.getElem_cons_zero, List.setIfInBounds_toArray, List.set_cons_zero, List.set_cons_succ]
  refine wpAnyH_take (i := 12) (oi := _) (v := ?_) rfl (by kernel_rfl) (by kernel_rfl) (by kernel_rfl) (fun _ _ _ h => h) (Or.inl ⟨by rfl, ?_⟩) (by assumption) ?_
  rotate_left
  · intro W hSw
    go_simp
    try (with_reducible rfl)
  try simp only [Act.put, List.getElem_toArray, List.getElem_cons_succ, List.getElem_cons_zero, List.setIfInBounds_toArray, List.set_cons_zero, List.set_cons_succ]
  refine wpAnyH_take (i := 13) (oi := _) (v := ?_) rfl (by kernel_rfl) (by kernel_rfl) (by kernel_rfl) (fun _ _ _ h => h) (Or.inl ⟨by rfl, ?_⟩) (by assumption) ?_
  rotate_left
  · intro W hSw
    go_simp
    try (with_reducible rfl)
  try simp only [Act.put, List.getElem_toArray, List.getElem_cons_succ, List.getElem_cons_zero, List.setIfInBounds_toArray, List.set_cons_zero, List.set_cons_succ]
  refine wpAnyH_take (i := 14) (oi := _) (v := ?_) rfl (by kernel_rfl) (by kernel_rfl) (by kernel_rfl) (fun _ _ _ h => h) (Or.inl ⟨by rfl, ?_⟩) (by assumption) ?_
  rotate_left
  · intro W hSw
    go_simp
    try (with_reducible rfl)
  try simp only [Act.put, List.getElem_toArray, List.getElem_cons_succ, List.getElem_cons_zero, List.setIfInBounds_toArray, List.set_cons_zero, List.set_cons_succ]
  refine wpAnyH_take (i := 15) (oi := _) (v := ?_) rfl (by kernel_rfl) (by kernel_rfl) (by kernel_rfl) (fun _ _ _ h => h) (Or.inl ⟨by rfl, ?_⟩) (by assumption) ?_
  rotate_left
  · intro W hSw
    go_simp
    try (with_reducible rfl)
  try simp only [Act.put, List.getElem_toArray, List.getElem_cons_succ, List.getElem_cons_zero, List.setIfInBounds_toArray, List.set_cons_zero, List.set_cons_succ]
  refine wpAnyH_take (i := 16) (oi := _) (v := ?_) rfl (by kernel_rfl) (by kernel_rfl) (by kernel_rfl) (fun _ _ _ h => h) (Or.inl ⟨by rfl, ?_⟩) (by assumption) ?_
  rotate_left
  · intro W hSw
    go_simp
    try (with_reducible rfl)
  try simp only [Act.put, List.getElem_toArray, List.getElem_cons_succ, List.getElem_cons_zero, List.setIfInBounds_toArray, List.set_cons_zero, List.set_cons_succ]
  refine wpAnyH_take (i := 17) (oi := _) (v := ?_) rfl (by kernel_rfl) (by kernel_rfl) (by kernel_rfl) (fun _ _ _ h => h) (Or.inl ⟨by rfl, ?_⟩) (by assumption) ?_
  rotate_left
  · intro W hSw
    go_simp
    try (with_reducible rfl)
  try simp only [Act.put, List.getElem_toArray, List.getElem_cons_succ, List.getElem_cons_zero, List.setIfInBounds_toArray, List.set_cons_zero, List.set_cons_succ]
  refine wpAnyH_take (i := 18) (oi := _) (v := _) rfl (by kernel_rfl) (by kernel_rfl) (by kernel_rfl) (fun _ _ _ h => h) (yields_boxed (by rfl) _ rfl rfl M6.out y4.out.2.1) (by assumption) ?_
  try simp only [Act.put, List.getElem_toArray, List.getElem_cons_succ, List.getElem_cons_zero, List.setIfInBounds_toArray, List.set_cons_zero, List.set_cons_succ]
  refine wpAnyH_take (i := 19) (oi := _) (v := ?_) rfl (by kernel_rfl) (by kernel_rfl) (by kernel_rfl) (fun _ _ _ h => h) (Or.inl ⟨by rfl, ?_⟩) (by assumption) ?_
  rotate_left
  · intro W hSw
    go_simp
    try (with_reducible rfl)
  try simp only [Act.put, List.getElem_toArray, List.getElem_cons_succ, List.getElem_cons_zero, List.setIfInBounds_toArray, List.set_cons_zero, List.set_cons_succ]
  refine wpAnyH_take (i := 20) (oi := _) (v := _) rfl (by kernel_rfl) (by kernel_rfl) (by kernel_rfl) (fun _ _ _ h => h) (yields_byte (by rfl) _ rfl rfl hd0.out) (by assumption) ?_
  try simp only [Act.put, List.getElem_toArray, List.getElem_cons_succ, List.getElem_cons_zero, List.setIfInBounds_toArray, List.set_cons_zero, List.set_cons_succ]
  refine wpAnyH_take (i := 21) (oi := _) (v := ?_) rfl (by kernel_rfl) (by kernel_rfl) (by kernel_rfl) (fun _ _ _ h => h) (Or.inl ⟨by rfl, ?_⟩) (by assumption) ?_
  rotate_left
  · intro W hSw
    go_simp
    try (with_reducible rfl)
  try simp only [Act.put, List.getElem_toArray, List.getElem_cons_succ, List.getElem_cons_zero, List.setIfInBounds_toArray, List.set_cons_zero, List.set_cons_succ]
  refine wpAnyH_take (i := 22) (oi := _) (v := _) rfl (by kernel_rfl) (by kernel_rfl) (by kernel_rfl) (fun _ _ _ h => h) (yields_byte (by rfl) _ rfl rfl hd1.out) (by assumption) ?_
  try simp only [Act.put, List.getElem_toArray, List.getElem_cons_succ, List.getElem_cons_zero, List.setIfInBounds_toArray, List.set_cons_zero, List.set_cons_succ]
  refine wpAnyH_take (i := 23) (oi := _) (v := ?_) rfl (by kernel_rfl) (by kernel_rfl) (by kernel_rfl) (fun _ _ _ h => h) (Or.inl ⟨by rfl, ?_⟩) (by assumption) ?_
  rotate_left
  · intro W hSw
    go_simp
    try (with_reducible rfl)
  try simp only [Act.put, List.getElem_toArray, List.getElem_cons_succ, List.getElem_cons_zero, List.setIfInBounds_toArray, List.set_cons_zero, List.set_cons_succ]
  refine wpAnyH_take (i := 24) (oi := _) (v := _) rfl (by kernel_rfl) (by kernel_rfl) (by kernel_rfl) (fun _ _ _ h => h) (yields_byte (by rfl) _ rfl rfl hd2.out) (by assumption) ?_
  try simp only [Act.put, List.getElem_toArray, List.getElem_cons_succ, List.getElem_cons_zero, List.setIfInBounds_toArray, List.set_cons_zero, List.set_cons_succ]
  refine wpAnyH_take (i := 25) (oi := _) (v := ?_) rfl (by kernel_rfl) (by kernel_rfl) (by kernel_rfl) (fun _ _ _ h => h) (Or.inl ⟨by rfl, ?_⟩) (by assumption) ?_
  rotate_left
  · intro W hSw
    go_simp
    try (with_reducible rfl)
  try simp only [Act.put, List.getElem_toArray, List.getElem_cons_succ, List.getElem_cons_zero, List.setIfInBounds_toArray, List.set_cons_zero, List.set_cons_succ]
  refine wpAnyH_take (i := 26) (oi := _) (v := _) rfl (by kernel_rfl) (by kernel_rfl) (by kernel_rfl) (fun _ _ _ h => h) (yields_byte (by rfl) _ rfl rfl hd3.out) (by assumption) ?_
  try simp only [Act.put, List.getElem_toArray, List.getElem_cons_succ, List.getElem_cons_zero, List.setIfInBounds_toArray, List.set_cons_zero, List.set_cons_succ]
  refine wpAnyH_ready (rs := [27]) (by kernel_rfl) (by simp) ?_
  refine AllReadyH.cons (o := _) rfl (fun K hK => ?_) AllReadyH.nil
  go_simp
  refine (hfour.out _).mono ?_
  rintro e u27 ⟨rfl, hb27⟩
  have hS27 := Boxed.go hHeld hb27
  clear hb27 hHeld
  go_wp2_with fail
  refine hK.out _ _ hS27 (fun hHeld => ?_)
  clear hK K
  try simp only [Act.put, List.getElem_toArray, List.getElem_cons_succ, List.getElem_cons_zero, List.setIfInBounds_toArray, List.set_cons_zero, List.set_cons_succ]
  refine wpAnyH_take (i := 28) (oi := _) (v := ?_) rfl (by kernel_rfl) (by kernel_rfl) (by kernel_rfl) (fun _ _ _ h => h) (Or.inl ⟨by rfl, ?_⟩) (by assumption) ?_
  rotate_left
  · intro W hSw
    go_simp
    try (with_reducible rfl)
  try simp only [Act.put, List.getElem_toArray, List.getElem_cons_succ, List.getElem_cons_zero, List.setIfInBounds_toArray, List.set_cons_zero, List.set_cons_succ]
  refine wpAnyH_take (i := 29) (oi := _) (v := ?_) rfl (by kernel_rfl) (by kernel_rfl) (by kernel_rfl) (fun _ _ _ h => h) (Or.inl ⟨by rfl, ?_⟩) (by assumption) ?_
  rotate_left
  · intro W hSw
    go_simp
    try (with_reducible rfl)
  try simp only [Act.put, List.getElem_toArray, List.getElem_cons_succ, List.getElem_cons_zero, List.setIfInBounds_toArray, List.set_cons_zero, List.set_cons_succ]
  refine wpAnyH_take (i := 30) (oi := _) (v := ?_) rfl (by kernel_rfl) (by kernel_rfl) (by kernel_rfl) (fun _ _ _ h => h) (Or.inl ⟨by rfl, ?_⟩) (by assumption) ?_
  rotate_left
  · intro W hSw
    go_simp
    try (with_reducible rfl)
  try simp only [Act.put, List.getElem_toArray, List.getElem_cons_succ, List.getElem_cons_zero, List.setIfInBounds_toArray, List.set_cons_zero, List.set_cons_succ]
  refine wpAnyH_take (i := 31) (oi := _) (v := ?_) rfl (by kernel_rfl) (by kernel_rfl) (by kernel_rfl) (fun _ _ _ h => h) (Or.inl ⟨by rfl, ?_⟩) (by assumption) ?_
  rotate_left
  · intro W hSw
    go_simp
    try (with_reducible rfl)
  try simp only [Act.put, List.getElem_toArray, List.getElem_cons_succ, List.getElem_cons_zero, List.setIfInBounds_toArray, List.set_cons_zero, List.set_cons_succ]
  refine wpAnyH_take (i := 32) (oi := _) (v := ?_) rfl (by kernel_rfl) (by kernel_rfl) (by kernel_rfl) (fun _ _ _ h => h) (Or.inl ⟨by rfl, ?_⟩) (by assumption) ?_
  rotate_left
  · intro W hSw
    go_simp
    try (with_reducible rfl)
  try simp only [Act.put, List.getElem_toArray, List.getElem_cons_succ, List.getElem_cons_zero, List.setIfInBounds_toArray, List.set_cons_zero, List.set_cons_succ]
  refine wpAnyH_take (i := 33) (oi := _) (v := ?_) rfl (by kernel_rfl) (by kernel_rfl) (by kernel_rfl) (fun _ _ _ h => h) (Or.inl ⟨by rfl, ?_⟩) (by assumption) ?_
  rotate_left
  · intro W hSw
    go_simp
    try (with_reducible rfl)
  try simp only [Act.put, List.getElem_toArray, List.getElem_cons_succ, List.getElem_cons_zero, List.setIfInBounds_toArray, List.set_cons_zero, List.set_cons_succ]
  refine wpAnyH_take (i := 34) (oi := _) (v := ?_) rfl (by kernel_rfl) (by kernel_rfl) (by kernel_rfl) (fun _ _ _ h => h) (Or.inl ⟨by rfl, ?_⟩) (by assumption) ?_
  rotate_left
  · intro W hSw
    go_simp
    try (with_reducible rfl)
  try simp only [Act.put, List.getElem_toArray, List.getElem_cons_succ, List.getElem_cons_zero, List.setIfInBounds_toArray, List.set_cons_zero, List.set_cons_succ]
  refine wpAnyH_done (by kernel_rfl) ?_ _
  have BB := hid hHeld.adr.below
  clear hHeld
  go_wp2
  go_ret
  exact ⟨rfl, BB.out⟩
theorem addrsBack_walk (l : List Int) (hl : l.length = 16) (wl : ∀ i ∈ l, (Lit.int .u8 i).wf = true) (w : World) (hL : laidMetH Tryd.prog Rows.addrsBackRow.laid w) (hsh : w.ShapedOpen Tryd.prog) :
    Calls Tryd.prog 6 #[.agg ⟨l.map (Value.int .u8)⟩] w fun e w' => e = .returned (.bool true) ∧ Below w.heap.size w w' := by
  have A0 := ambOf Rows.laid_strconv_ErrSyntax Rows.laid_strconv_ErrRange ⟨_, _, rfl⟩ ⟨_, _, rfl⟩ hL hsh (by kernel_rfl) (by kernel_rfl) (by kernel_rfl) (by kernel_rfl) (by kernel_rfl) (by kernel_rfl)
  obtain ⟨b0, b1, b2, b3, b4, b5, b6, b7, b8, b9, b10, b11, b12, b13, b14, b15, e⟩ := sixteen_of hl wl
  rw [e]
  exact addrsBack_at b0 b1 b2 b3 b4 b5 b6 b7 b8 b9 b10 b11 b12 b13 b14 b15 _ _ _ _ _ _ _ _ _ _ _ _ _ _ _ _ rfl rfl rfl rfl rfl rfl rfl rfl rfl rfl rfl rfl rfl rfl rfl rfl w A0
end Go.Proofs.YtiookngmgednjaaDoor
