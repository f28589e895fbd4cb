/- Walks: a Book's lookText, and Apart. -/
import Derived.Test.YtalinfpakmcobaaDoorBk4
import Derived.Deep.RegionWith
import Derived.Deep.RegionHeld3
namespace Go.Proofs.YtalinfpakmcobaaDoor
open Go.RowKit Go.Lib Go.Proofs.Foot

theorem heldA_one2 (g n m g2 n2 c2 : Nat) : (heldA g n (.slice (some ⟨g2, 0, none⟩) n2 c2) m).all (·.oneCell') = true := all_oneCell_toArray (cs := [.slice (some ⟨g, 0, none⟩) n n, .slice (some ⟨g2, 0, none⟩) n2 c2, .int .i64 m]) (by
  intro u hu; simp only [List.mem_cons, List.not_mem_nil, or_false] at hu; rcases hu with rfl | rfl | rfl <;> rfl)
/-- Within lookText: a list, its long one, the block of h. -/
structure LookI (w0 : World) (g n : Nat) (M : ByteArray) (gl c q m B0 : Nat) (w : World) : Prop where
  t : Texts w g (List.replicate n M)
  l : w.ownsRow B0 9 1 (.slice (some ⟨gl, 0, none⟩) (n + 40) c) (n + 40) (List.replicate (n + 40) (.string M))
  h : w.heap[q]? = some (.cells (heldA g n (.slice (some ⟨gl, 0, none⟩) (n + 40) c) m) 72 (0, 0))
  below : Below w0.heap.size w0 w
section
variable {w0 w w' : World} {g n gl c q m B0 : Nat} {M : ByteArray}
theorem LookI.go (h : LookI w0 g n M gl c q m B0 w) (hb : Below w.heap.size w w') : LookI w0 g n M gl c q m B0 w' :=
  ⟨h.t.below hb h.t.lt, (Touch.of_below (S := fun _ => False) hb).own h.l (fun _ _ hf => hf), (hb.block q (row_lt h.h)).trans h.h, below_chain h.below hb⟩
theorem LookI.drew (h : LookI w0 g n M gl c q m B0 w) : LookI w0 g n M gl c q m B0 w.drew := ⟨h.t, h.l, h.h, h.below.drew⟩
theorem LookI.c0 (h : LookI w0 g n M gl c q m B0 w) : w.cell? ⟨q, 0, none⟩ = some (.slice (some ⟨g, 0, none⟩) n n) := row_cell h.h rfl
theorem LookI.c1 (h : LookI w0 g n M gl c q m B0 w) : w.cell? ⟨q, 1, none⟩ = some (.slice (some ⟨gl, 0, none⟩) (n + 40) c) := row_cell h.h rfl
theorem LookI.c2 (h : LookI w0 g n M gl c q m B0 w) : w.cell? ⟨q, 2, none⟩ = some (.int .i64 m) := row_cell h.h rfl
theorem LookI.cl (h : LookI w0 g n M gl c q m B0 w) {k : Nat} (hk : k < n + 40) : w.cell? ⟨gl, k, none⟩ = some (.string M) := by
  rw [h.l.cellAt k (by omega), List.getElem?_replicate, if_pos hk]
theorem LookI.ct (h : LookI w0 g n M gl c q m B0 w) {k : Nat} (hk : k < n) : w.cell? ⟨g, k, none⟩ = some (.string M) := h.t.cell (by rw [List.getElem?_replicate, if_pos hk])
end
/-- The list's blocks, and nothing of wb has turned. -/
def LookB (wb w0 : World) (g n : Nat) (M : ByteArray) (gl c q m B0 : Nat) (w : World) : Prop := LookI w0 g n M gl c q m B0 w ∧ Below wb.heap.size wb w
theorem LookB.go {wb w0 w w' : World} {g n gl c q m B0 : Nat} {M : ByteArray} (h : LookB wb w0 g n M gl c q m B0 w) (hb : Below w.heap.size w w') : LookB wb w0 g n M gl c q m B0 w' := ⟨h.1.go hb, below_chain h.2 hb⟩
theorem LookB.drew {wb w0 w : World} {g n gl c q m B0 : Nat} {M : ByteArray} (h : LookB wb w0 g n M gl c q m B0 w) : LookB wb w0 g n M gl c q m B0 w.drew := ⟨h.1.drew, h.2.drew⟩
theorem isT1 {wb w0 w : World} {g n gl c q m B0 k : Nat} {M : ByteArray} (HI : Hid (∀ w, Tb w → Calls Tryd.prog 77 #[.string M, .int .i64 m] w fun e w' => e = .returned (.bool true) ∧ Below w.heap.size w w')) (T : Hid (Tb w0))
    (h : w.cell? ⟨q, 0, none⟩ = some (.slice (some ⟨g, 0, none⟩) n n) ∧ w.cell? ⟨q, 1, none⟩ = some (.slice (some ⟨gl, 0, none⟩) (n + 40) c) ∧ w.cell? ⟨q, 2, none⟩ = some (.int .i64 m) ∧ w.cell? ⟨gl, k, none⟩ = some (.string M) ∧ LookB wb w0 g n M gl c q m B0 w) :
    Calls Tryd.prog 77 #[.string M, .int .i64 m] w fun e w' => e = .returned (.bool true) ∧ Below w.heap.size w w' := HI.out _ (T.out.below h.2.2.2.2.1.below)
theorem look_go1 {wb w0 w w' : World} {g n gl c q m B0 k : Nat} {M : ByteArray} (hl : k < n + 40) (h : w.cell? ⟨q, 0, none⟩ = some (.slice (some ⟨g, 0, none⟩) n n) ∧ w.cell? ⟨q, 1, none⟩ = some (.slice (some ⟨gl, 0, none⟩) (n + 40) c) ∧ w.cell? ⟨q, 2, none⟩ = some (.int .i64 m) ∧ w.cell? ⟨gl, k, none⟩ = some (.string M) ∧ LookB wb w0 g n M gl c q m B0 w) (hb : Below w.heap.size w w') :
    w'.cell? ⟨q, 0, none⟩ = some (.slice (some ⟨g, 0, none⟩) n n) ∧ w'.cell? ⟨q, 1, none⟩ = some (.slice (some ⟨gl, 0, none⟩) (n + 40) c) ∧ w'.cell? ⟨q, 2, none⟩ = some (.int .i64 m) ∧ w'.cell? ⟨gl, k, none⟩ = some (.string M) ∧ LookB wb w0 g n M gl c q m B0 w' := by
  have x := LookB.go h.2.2.2.2 hb
  exact ⟨x.1.c0, x.1.c1, x.1.c2, x.1.cl hl, x⟩
theorem isT2 {wb w0 w : World} {g n gl c q m B0 k : Nat} {M : ByteArray} (HI : Hid (∀ w, Tb w → Calls Tryd.prog 77 #[.string M, .int .i64 m] w fun e w' => e = .returned (.bool true) ∧ Below w.heap.size w w')) (T : Hid (Tb w0))
    (h : w.cell? ⟨q, 0, none⟩ = some (.slice (some ⟨g, 0, none⟩) n n) ∧ w.cell? ⟨q, 1, none⟩ = some (.slice (some ⟨gl, 0, none⟩) (n + 40) c) ∧ w.cell? ⟨q, 2, none⟩ = some (.int .i64 m) ∧ w.cell? ⟨gl, k, none⟩ = some (.string M) ∧ w.cell? ⟨g, k, none⟩ = some (.string M) ∧ LookB wb w0 g n M gl c q m B0 w) :
    Calls Tryd.prog 77 #[.string M, .int .i64 m] w fun e w' => e = .returned (.bool true) ∧ Below w.heap.size w w' := HI.out _ (T.out.below h.2.2.2.2.2.1.below)
theorem look_go2 {wb w0 w w' : World} {g n gl c q m B0 k : Nat} {M : ByteArray} (hl : k < n + 40) (hk : k < n) (h : w.cell? ⟨q, 0, none⟩ = some (.slice (some ⟨g, 0, none⟩) n n) ∧ w.cell? ⟨q, 1, none⟩ = some (.slice (some ⟨gl, 0, none⟩) (n + 40) c) ∧ w.cell? ⟨q, 2, none⟩ = some (.int .i64 m) ∧ w.cell? ⟨gl, k, none⟩ = some (.string M) ∧ w.cell? ⟨g, k, none⟩ = some (.string M) ∧ LookB wb w0 g n M gl c q m B0 w) (hb : Below w.heap.size w w') :
    w'.cell? ⟨q, 0, none⟩ = some (.slice (some ⟨g, 0, none⟩) n n) ∧ w'.cell? ⟨q, 1, none⟩ = some (.slice (some ⟨gl, 0, none⟩) (n + 40) c) ∧ w'.cell? ⟨q, 2, none⟩ = some (.int .i64 m) ∧ w'.cell? ⟨gl, k, none⟩ = some (.string M) ∧ w'.cell? ⟨g, k, none⟩ = some (.string M) ∧ LookB wb w0 g n M gl c q m B0 w' := by
  have x := LookB.go h.2.2.2.2.2 hb
  exact ⟨x.1.c0, x.1.c1, x.1.c2, x.1.cl hl, x.1.ct hk, x⟩
set_option maxHeartbeats 4000000 in
set_option maxRecDepth 100000 in
theorem lookText_any (w0 w : World) (gk gt cap ga gb n : Nat) (va vb : Value) (T0 : Tb w0) (hn : n ≤ 2097152) (h : Pz w0 gk gt cap ga gb n va vb (List.replicate n (mkT 1)) (List.replicate n (mkT 2)) w) (hla : LongOk w0 gt n (mkT 1) va w) (hlb : LongOk w0 gt n (mkT 2) vb w) :
    Calls Tryd.prog 48 #[.pointer (some ⟨gk, 0, none⟩)] w fun e w' => e = .returned (.bool true) ∧ Below w.heap.size w w' := by
  obtain ⟨la, lca, rfl, -, ola⟩ := hla
  obtain ⟨lb, lcb, rfl, -, olb⟩ := hlb
  have HT0 := hid T0
  have H0 := hid h
  have OLa := hid ola
  have OLb := hid olb
  clear T0 h ola olb
  go_enter Tryd.func48, Tryd.ntmps48
  go_wp2
  go_loopw [3] (fun iv wr => ∃ i : Nat, i ≤ 2 ∧ iv = .int .i64 i ∧ Hid (Below w.heap.size w wr)) (fun iv _ => 2 - (RowKit.intOf iv).toNat)
  case atStart => exact ⟨0, by omega, rfl, hid (Below.refl _ _)⟩
  case round =>
    obtain ⟨i, hi, rfl, hbel⟩ := hrel
    have HP := hid (H0.out.go hbel.out)
    have c3 := HP.out.bk.cell (k := 3) (v := .slice (some ⟨gt, 0, none⟩) 2 cap) rfl
    obtain rfl | rfl | rfl : i = 0 ∨ i = 1 ∨ i = 2 := by omega
    · have hr := HP.out.rangeA
      go_upto_region 5 with (first
        | (refine wpList_load_mid rfl 72 _ rfl gt 0 rfl (heldC ga n (.slice (some ⟨la, 0, none⟩) (n + 40) lca) 1) _ hr Tryd.underlying72 rfl (by kernel_rfl) ?_)
        | (refine wpList_store_row rfl 72 _ _ rfl wr.heap.size (heldA ga n (.slice (some ⟨la, 0, none⟩) (n + 40) lca) 1) rfl rfl _ _ (heap_alloc_new wr _) (infoHS _ rfl) rfl (heldA_one2 _ _ _ _ _ _) ?_))
      have hb2 : Below wr.heap.size wr ((wr.alloc (.cells #[.slice none 0 0, .slice none 0 0, .int .i64 0] 72)).setRow wr.heap.size (heldA ga n (.slice (some ⟨la, 0, none⟩) (n + 40) lca) 1)) := laid_belowB _ _ _ _
      have hbw := below_chain hbel.out hb2
      have HI : Hid (LookI w0 ga n (mkT 1) la lca wr.heap.size 1 w0.heap.size ((wr.alloc (.cells #[.slice none 0 0, .slice none 0 0, .int .i64 0] 72)).setRow wr.heap.size (heldA ga n (.slice (some ⟨la, 0, none⟩) (n + 40) lca) 1))) :=
        hid ⟨HP.out.ta.below hb2 HP.out.ta.lt, (Touch.of_below (S := fun _ => False) hbw).own OLa.out (fun _ _ hf => hf), laid_rowB _ _ _ _, below_chain HP.out.below hb2⟩
      have HBw := hid hbw
      clear c3 hr hb2 hbw hi
      generalize World.setRow _ wr.heap.size _ = w2 at *
      obtain ⟨q, hqq⟩ : ∃ q, q = wr.heap.size := ⟨_, rfl⟩
      rw [← hqq] at HI ⊢
      clear hqq HP hbel
      have c0 := HI.out.c0
      have c1 := HI.out.c1
      obtain ⟨M, hM⟩ : ∃ M, M = mkT 1 := ⟨_, rfl⟩
      have HM : Hid (∀ w, Tb w → Calls Tryd.prog 77 #[.string M, .int .i64 1] w fun e w' => e = .returned (.bool true) ∧ Below w.heap.size w w') := hid (by rw [hM]; exact fun w T => isText_any 1 (by omega) w T)
      rw [← hM] at HI
      clear hM
      have v40 : IntKind.i64.wrap ((n : Int) + 40) = (n : Int) + 40 := IntWalk.i64_in _ (by omega)
      go_wp2
      clear c0 c1 v40
      go_loopw [5] (fun kv wi => ∃ k : Nat, k ≤ n + 40 ∧ kv = .int .i64 k ∧ Hid (LookB w w0 ga n M la lca q 1 w0.heap.size wi)) (fun kv _ => n + 40 - (RowKit.intOf kv).toNat)
      case atStart => exact ⟨0, by omega, rfl, hid ⟨HI.out, HBw.out⟩⟩
      case round =>
        obtain ⟨k, hk, rfl, hh⟩ := hrel
        have c0 := hh.out.1.c0
        have c1 := hh.out.1.c1
        have c2 := hh.out.1.c2
        by_cases hlt : k < n + 40
        · have hk40 : (k : Int) < (n : Int) + 40 := by omega
          have cl := hh.out.1.cl hlt
          have hX := hid hh.out.drew
          by_cases hkn : k < n
          · have hd : decide ((k : Int) < (n : Int)) = true := decide_eq_true (by omega)
            have ct := hh.out.1.ct hkn
            go_wp2_with fail
            go_region_held3 (fun w' => w'.cell? ⟨q, 0, none⟩ = some (.slice (some ⟨ga, 0, none⟩) n n) ∧ w'.cell? ⟨q, 1, none⟩ = some (.slice (some ⟨la, 0, none⟩) (n + 40) lca) ∧ w'.cell? ⟨q, 2, none⟩ = some (.int .i64 1) ∧ w'.cell? ⟨la, k, none⟩ = some (.string M) ∧ w'.cell? ⟨ga, k, none⟩ = some (.string M) ∧ LookB w w0 ga n M la lca q 1 w0.heap.size w') (first
                | exact look_go2 hlt hkn ‹_› ‹_›
                | exact ⟨c0, c1, c2, cl, ct, hX.out⟩)
              (first
                | (go_at_call 77; refine (isT2 HM HT0 (by assumption)).mono ?_; rintro e w5 ⟨rfl, hb5⟩))
            rename_i hH
            have H5 := hid hH.2.2.2.2.2
            clear hH hX
            go_wp2
            go_roundw
            case rel => exact ⟨k + 1, by omega, by go_num, H5⟩
            case measure => simp only [RowKit.intOf]; omega
          · have hd : decide (k < n) = false := decide_eq_false hkn
            clear hkn c0 c2 cl
            go_wp2_with fail
            clear c1
            refine wp_region_held_drew (S := fun W => LookB w w0 ga n M la lca q 1 w0.heap.size W) (by kernel_rfl) hX.out (fun hHeld => ?_)
            refine wpAnyH_take (i := 0) (oi := _) (v := ?_) rfl (by kernel_rfl) (by kernel_rfl) (by kernel_rfl) (fun _ _ _ h => h) (Or.inl ⟨by rfl, ?_⟩) (by assumption) ?_
            rotate_left
            · intro W hSw
              go_simp
              try (with_reducible rfl)
            try simp only [Act.put, List.getElem_toArray, List.getElem_cons_zero, List.setIfInBounds_toArray, List.set_cons_zero, List.set_cons_succ]
            refine wpAnyH_take (i := 1) (oi := _) (v := ?_) rfl (by kernel_rfl) (by kernel_rfl) (by kernel_rfl) (fun _ _ _ h => h) (Or.inl ⟨by rfl, ?_⟩) (by assumption) ?_
            rotate_left
            · intro W hSw
              have h0 := hSw.1.c0; have h1 := hSw.1.c1; have h2 := hSw.1.c2; have hl := hSw.1.cl hlt
              go_simp
              try (with_reducible rfl)
            try simp only [Act.put, List.getElem_toArray, List.getElem_cons_succ, List.getElem_cons_zero, List.setIfInBounds_toArray, List.set_cons_zero, List.set_cons_succ]
            refine wpAnyH_take (i := 2) (oi := _) (v := ?_) rfl (by kernel_rfl) (by kernel_rfl) (by kernel_rfl) (fun _ _ _ h => h) (Or.inl ⟨by rfl, ?_⟩) (by assumption) ?_
            rotate_left
            · intro W hSw
              go_simp
              try (with_reducible rfl)
            try simp only [Act.put, List.getElem_toArray, List.getElem_cons_succ, List.getElem_cons_zero, List.setIfInBounds_toArray, List.set_cons_zero, List.set_cons_succ]
            refine wpAnyH_take (i := 3) (oi := _) (v := ?_) rfl (by kernel_rfl) (by kernel_rfl) (by kernel_rfl) (fun _ _ _ h => h) (Or.inl ⟨by rfl, ?_⟩) (by assumption) ?_
            rotate_left
            · intro W hSw
              go_simp
              try (with_reducible rfl)
            try simp only [Act.put, List.getElem_toArray, List.getElem_cons_succ, List.getElem_cons_zero, List.setIfInBounds_toArray, List.set_cons_zero, List.set_cons_succ]
            refine wpAnyH_take (i := 4) (oi := _) (v := ?_) rfl (by kernel_rfl) (by kernel_rfl) (by kernel_rfl) (fun _ _ _ h => h) (Or.inl ⟨by rfl, ?_⟩) (by assumption) ?_
            rotate_left
            · intro W hSw
              have h0 := hSw.1.c0; have h1 := hSw.1.c1; have h2 := hSw.1.c2; have hl := hSw.1.cl hlt
              go_simp
              try (with_reducible rfl)
            try simp only [Act.put, List.getElem_toArray, List.getElem_cons_succ, List.getElem_cons_zero, List.setIfInBounds_toArray, List.set_cons_zero, List.set_cons_succ]
            refine wpAnyH_take (i := 5) (oi := _) (v := ?_) rfl (by kernel_rfl) (by kernel_rfl) (by kernel_rfl) (fun _ _ _ h => h) (Or.inl ⟨by rfl, ?_⟩) (by assumption) ?_
            rotate_left
            · intro W hSw
              go_simp
              try (with_reducible rfl)
            try simp only [Act.put, List.getElem_toArray, List.getElem_cons_succ, List.getElem_cons_zero, List.setIfInBounds_toArray, List.set_cons_zero, List.set_cons_succ]
            refine wpAnyH_take (i := 6) (oi := _) (v := ?_) rfl (by kernel_rfl) (by kernel_rfl) (by kernel_rfl) (fun _ _ _ h => h) (Or.inl ⟨by rfl, ?_⟩) (by assumption) ?_
            rotate_left
            · intro W hSw
              have h0 := hSw.1.c0; have h1 := hSw.1.c1; have h2 := hSw.1.c2; have hl := hSw.1.cl hlt
              go_simp
              try (with_reducible rfl)
            try simp only [Act.put, List.getElem_toArray, List.getElem_cons_succ, List.getElem_cons_zero, List.setIfInBounds_toArray, List.set_cons_zero, List.set_cons_succ]
            refine wpAnyH_ready (rs := [7]) (by kernel_rfl) (by simp) ?_
            refine AllReadyH.cons (o := _) rfl (fun K hK => ?_) AllReadyH.nil
            go_simp
            refine (HM.out _ (HT0.out.below hHeld.1.below)).mono ?_
            rintro e u7 ⟨rfl, hb7⟩
            have hS7 := LookB.go hHeld hb7
            clear hb7 hHeld
            go_wp2_with fail
            refine hK.out _ _ hS7 (fun hHeld => ?_)
            clear hK K
            try simp only [Act.put, List.getElem_toArray, List.getElem_cons_succ, List.getElem_cons_zero, List.setIfInBounds_toArray, List.set_cons_zero, List.set_cons_succ]
            refine wpAnyH_take (i := 8) (oi := _) (v := ?_) rfl (by kernel_rfl) (by kernel_rfl) (by kernel_rfl) (fun _ _ _ h => h) (Or.inl ⟨by rfl, ?_⟩) (by assumption) ?_
            rotate_left
            · intro W hSw
              go_simp
              try (with_reducible rfl)
            try simp only [Act.put, List.getElem_toArray, List.getElem_cons_succ, List.getElem_cons_zero, List.setIfInBounds_toArray, List.set_cons_zero, List.set_cons_succ]
            refine wpAnyH_take (i := 9) (oi := _) (v := ?_) rfl (by kernel_rfl) (by kernel_rfl) (by kernel_rfl) (fun _ _ _ h => h) (Or.inl ⟨by rfl, ?_⟩) (by assumption) ?_
            rotate_left
            · intro W hSw
              go_simp
              try (with_reducible rfl)
            try simp only [Act.put, List.getElem_toArray, List.getElem_cons_succ, List.getElem_cons_zero, List.setIfInBounds_toArray, List.set_cons_zero, List.set_cons_succ]
            refine wpAnyH_take (i := 10) (oi := _) (v := ?_) rfl (by kernel_rfl) (by kernel_rfl) (by kernel_rfl) (fun _ _ _ h => h) (Or.inl ⟨by rfl, ?_⟩) (by assumption) ?_
            rotate_left
            · intro W hSw
              go_simp
              try (with_reducible rfl)
            try simp only [Act.put, List.getElem_toArray, List.getElem_cons_succ, List.getElem_cons_zero, List.setIfInBounds_toArray, List.set_cons_zero, List.set_cons_succ]
            refine wpAnyH_take (i := 11) (oi := _) (v := ?_) rfl (by kernel_rfl) (by kernel_rfl) (by kernel_rfl) (fun _ _ _ h => h) (Or.inl ⟨by rfl, ?_⟩) (by assumption) ?_
            rotate_left
            · intro W hSw
              go_simp
              try (with_reducible rfl)
            try simp only [Act.put, List.getElem_toArray, List.getElem_cons_succ, List.getElem_cons_zero, List.setIfInBounds_toArray, List.set_cons_zero, List.set_cons_succ]
            refine wpAnyH_take (i := 12) (oi := _) (v := ?_) rfl (by kernel_rfl) (by kernel_rfl) (by kernel_rfl) (fun _ _ _ h => h) (Or.inl ⟨by rfl, ?_⟩) (by assumption) ?_
            rotate_left
            · intro W hSw
              have h0 := hSw.1.c0; have h1 := hSw.1.c1; have h2 := hSw.1.c2; have hl := hSw.1.cl hlt
              go_simp
              try (with_reducible rfl)
            try simp only [Act.put, List.getElem_toArray, List.getElem_cons_succ, List.getElem_cons_zero, List.setIfInBounds_toArray, List.set_cons_zero, List.set_cons_succ]
            refine wpAnyH_take (i := 13) (oi := _) (v := ?_) rfl (by kernel_rfl) (by kernel_rfl) (by kernel_rfl) (fun _ _ _ h => h) (Or.inl ⟨by rfl, ?_⟩) (by assumption) ?_
            rotate_left
            · intro W hSw
              go_simp
              try (with_reducible rfl)
            try simp only [Act.put, List.getElem_toArray, List.getElem_cons_succ, List.getElem_cons_zero, List.setIfInBounds_toArray, List.set_cons_zero, List.set_cons_succ]
            refine wpAnyH_take (i := 14) (oi := _) (v := ?_) rfl (by kernel_rfl) (by kernel_rfl) (by kernel_rfl) (fun _ _ _ h => h) (Or.inl ⟨by rfl, ?_⟩) (by assumption) ?_
            rotate_left
            · intro W hSw
              go_simp
              try (with_reducible rfl)
            try simp only [Act.put, List.getElem_toArray, List.getElem_cons_succ, List.getElem_cons_zero, List.setIfInBounds_toArray, List.set_cons_zero, List.set_cons_succ]
            refine wpAnyH_take (i := 15) (oi := _) (v := ?_) rfl (by kernel_rfl) (by kernel_rfl) (by kernel_rfl) (fun _ _ _ h => h) (Or.inl ⟨by rfl, ?_⟩) (by assumption) ?_
            rotate_left
            · intro W hSw
              go_simp
              try (with_reducible rfl)
            try simp only [Act.put, List.getElem_toArray, List.getElem_cons_succ, List.getElem_cons_zero, List.setIfInBounds_toArray, List.set_cons_zero, List.set_cons_succ]
            refine wpAnyH_take (i := 16) (oi := _) (v := undef) rfl (by kernel_rfl) (by kernel_rfl) (by kernel_rfl) (fun _ _ _ h => h) (Or.inr ⟨by rfl, rfl⟩) (by assumption) ?_
            try simp only [Act.put, List.getElem_toArray, List.getElem_cons_succ, List.getElem_cons_zero, List.setIfInBounds_toArray, List.set_cons_zero, List.set_cons_succ]
            refine wpAnyH_take (i := 17) (oi := _) (v := undef) rfl (by kernel_rfl) (by kernel_rfl) (by kernel_rfl) (fun _ _ _ h => h) (Or.inr ⟨by rfl, rfl⟩) (by assumption) ?_
            try simp only [Act.put, List.getElem_toArray, List.getElem_cons_succ, List.getElem_cons_zero, List.setIfInBounds_toArray, List.set_cons_zero, List.set_cons_succ]
            refine wpAnyH_take (i := 18) (oi := _) (v := undef) rfl (by kernel_rfl) (by kernel_rfl) (by kernel_rfl) (fun _ _ _ h => h) (Or.inr ⟨by rfl, rfl⟩) (by assumption) ?_
            try simp only [Act.put, List.getElem_toArray, List.getElem_cons_succ, List.getElem_cons_zero, List.setIfInBounds_toArray, List.set_cons_zero, List.set_cons_succ]
            refine wpAnyH_take (i := 19) (oi := _) (v := undef) rfl (by kernel_rfl) (by kernel_rfl) (by kernel_rfl) (fun _ _ _ h => h) (Or.inr ⟨by rfl, rfl⟩) (by assumption) ?_
            try simp only [Act.put, List.getElem_toArray, List.getElem_cons_succ, List.getElem_cons_zero, List.setIfInBounds_toArray, List.set_cons_zero, List.set_cons_succ]
            refine wpAnyH_take (i := 20) (oi := _) (v := undef) rfl (by kernel_rfl) (by kernel_rfl) (by kernel_rfl) (fun _ _ _ h => h) (Or.inr ⟨by rfl, rfl⟩) (by assumption) ?_
            try simp only [Act.put, List.getElem_toArray, List.getElem_cons_succ, List.getElem_cons_zero, List.setIfInBounds_toArray, List.set_cons_zero, List.set_cons_succ]
            refine wpAnyH_take (i := 21) (oi := _) (v := undef) rfl (by kernel_rfl) (by kernel_rfl) (by kernel_rfl) (fun _ _ _ h => h) (Or.inr ⟨by rfl, rfl⟩) (by assumption) ?_
            try simp only [Act.put, List.getElem_toArray, List.getElem_cons_succ, List.getElem_cons_zero, List.setIfInBounds_toArray, List.set_cons_zero, List.set_cons_succ]
            refine wpAnyH_take (i := 22) (oi := _) (v := undef) rfl (by kernel_rfl) (by kernel_rfl) (by kernel_rfl) (fun _ _ _ h => h) (Or.inr ⟨by rfl, rfl⟩) (by assumption) ?_
            try simp only [Act.put, List.getElem_toArray, List.getElem_cons_succ, List.getElem_cons_zero, List.setIfInBounds_toArray, List.set_cons_zero, List.set_cons_succ]
            refine wpAnyH_ready (rs := [23]) (by kernel_rfl) (by simp) ?_
            refine AllReadyH.cons (o := _) rfl (fun K hK => ?_) AllReadyH.nil
            go_simp
            refine hK.out _ _ hHeld (fun hHeld => ?_)
            clear hK K
            try simp only [Act.put, List.getElem_toArray, List.getElem_cons_succ, List.getElem_cons_zero, List.setIfInBounds_toArray, List.set_cons_zero, List.set_cons_succ]
            refine wpAnyH_take (i := 24) (oi := _) (v := undef) rfl (by kernel_rfl) (by kernel_rfl) (by kernel_rfl) (fun _ _ _ h => h) (Or.inr ⟨by rfl, rfl⟩) (by assumption) ?_
            try simp only [Act.put, List.getElem_toArray, List.getElem_cons_succ, List.getElem_cons_zero, List.setIfInBounds_toArray, List.set_cons_zero, List.set_cons_succ]
            refine wpAnyH_take (i := 25) (oi := _) (v := ?_) rfl (by kernel_rfl) (by kernel_rfl) (by kernel_rfl) (fun _ _ _ h => h) (Or.inl ⟨by rfl, ?_⟩) (by assumption) ?_
            rotate_left
            · intro W hSw
              go_simp
              try (with_reducible rfl)
            try simp only [Act.put, List.getElem_toArray, List.getElem_cons_succ, List.getElem_cons_zero, List.setIfInBounds_toArray, List.set_cons_zero, List.set_cons_succ]
            refine wpAnyH_take (i := 26) (oi := _) (v := ?_) rfl (by kernel_rfl) (by kernel_rfl) (by kernel_rfl) (fun _ _ _ h => h) (Or.inl ⟨by rfl, ?_⟩) (by assumption) ?_
            rotate_left
            · intro W hSw
              go_simp
              try (with_reducible rfl)
            try simp only [Act.put, List.getElem_toArray, List.getElem_cons_succ, List.getElem_cons_zero, List.setIfInBounds_toArray, List.set_cons_zero, List.set_cons_succ]
            refine wpAnyH_done (by kernel_rfl) ?_ _
            have H5 := hid hHeld
            clear hHeld hX hh
            go_wp2
            go_roundw
            case rel => exact ⟨k + 1, by omega, by go_num, H5⟩
            case measure => simp only [RowKit.intOf]; omega
        · obtain rfl : k = n + 40 := by omega
          go_wp2
          go_roundw
          case rel => exact ⟨1, by omega, rfl, hid hh.out.2⟩
          case measure => simp only [RowKit.intOf]; omega
    · have hr := HP.out.rangeB
      go_upto_region 5 with (first
        | (refine wpList_load_mid rfl 72 _ rfl gt 3 rfl (heldC gb n (.slice (some ⟨lb, 0, none⟩) (n + 40) lcb) 2) _ hr Tryd.underlying72 rfl (by kernel_rfl) ?_)
        | (refine wpList_store_row rfl 72 _ _ rfl wr.heap.size (heldA gb n (.slice (some ⟨lb, 0, none⟩) (n + 40) lcb) 2) rfl rfl _ _ (heap_alloc_new wr _) (infoHS _ rfl) rfl (heldA_one2 _ _ _ _ _ _) ?_))
      have hb2 : Below wr.heap.size wr ((wr.alloc (.cells #[.slice none 0 0, .slice none 0 0, .int .i64 0] 72)).setRow wr.heap.size (heldA gb n (.slice (some ⟨lb, 0, none⟩) (n + 40) lcb) 2)) := laid_belowB _ _ _ _
      have hbw := below_chain hbel.out hb2
      have HI : Hid (LookI w0 gb n (mkT 2) lb lcb wr.heap.size 2 w0.heap.size ((wr.alloc (.cells #[.slice none 0 0, .slice none 0 0, .int .i64 0] 72)).setRow wr.heap.size (heldA gb n (.slice (some ⟨lb, 0, none⟩) (n + 40) lcb) 2))) :=
        hid ⟨HP.out.tb.below hb2 HP.out.tb.lt, (Touch.of_below (S := fun _ => False) hbw).own OLb.out (fun _ _ hf => hf), laid_rowB _ _ _ _, below_chain HP.out.below hb2⟩
      have HBw := hid hbw
      clear c3 hr hb2 hbw hi
      generalize World.setRow _ wr.heap.size _ = w2 at *
      obtain ⟨q, hqq⟩ : ∃ q, q = wr.heap.size := ⟨_, rfl⟩
      rw [← hqq] at HI ⊢
      clear hqq HP hbel
      have c0 := HI.out.c0
      have c1 := HI.out.c1
      obtain ⟨M, hM⟩ : ∃ M, M = mkT 2 := ⟨_, rfl⟩
      have HM : Hid (∀ w, Tb w → Calls Tryd.prog 77 #[.string M, .int .i64 2] w fun e w' => e = .returned (.bool true) ∧ Below w.heap.size w w') := hid (by rw [hM]; exact fun w T => isText_any 2 (by omega) w T)
      rw [← hM] at HI
      clear hM
      have v40 : IntKind.i64.wrap ((n : Int) + 40) = (n : Int) + 40 := IntWalk.i64_in _ (by omega)
      go_wp2
      clear c0 c1 v40
      go_loopw [5] (fun kv wi => ∃ k : Nat, k ≤ n + 40 ∧ kv = .int .i64 k ∧ Hid (LookB w w0 gb n M lb lcb q 2 w0.heap.size wi)) (fun kv _ => n + 40 - (RowKit.intOf kv).toNat)
      case atStart => exact ⟨0, by omega, rfl, hid ⟨HI.out, HBw.out⟩⟩
      case round =>
        obtain ⟨k, hk, rfl, hh⟩ := hrel
        have c0 := hh.out.1.c0
        have c1 := hh.out.1.c1
        have c2 := hh.out.1.c2
        by_cases hlt : k < n + 40
        · have hk40 : (k : Int) < (n : Int) + 40 := by omega
          have cl := hh.out.1.cl hlt
          have hX := hid hh.out.drew
          by_cases hkn : k < n
          · have hd : decide ((k : Int) < (n : Int)) = true := decide_eq_true (by omega)
            have ct := hh.out.1.ct hkn
            go_wp2_with fail
            go_region_held3 (fun w' => w'.cell? ⟨q, 0, none⟩ = some (.slice (some ⟨gb, 0, none⟩) n n) ∧ w'.cell? ⟨q, 1, none⟩ = some (.slice (some ⟨lb, 0, none⟩) (n + 40) lcb) ∧ w'.cell? ⟨q, 2, none⟩ = some (.int .i64 2) ∧ w'.cell? ⟨lb, k, none⟩ = some (.string M) ∧ w'.cell? ⟨gb, k, none⟩ = some (.string M) ∧ LookB w w0 gb n M lb lcb q 2 w0.heap.size w') (first
                | exact look_go2 hlt hkn ‹_› ‹_›
                | exact ⟨c0, c1, c2, cl, ct, hX.out⟩)
              (first
                | (go_at_call 77; refine (isT2 HM HT0 (by assumption)).mono ?_; rintro e w5 ⟨rfl, hb5⟩))
            rename_i hH
            have H5 := hid hH.2.2.2.2.2
            clear hH hX
            go_wp2
            go_roundw
            case rel => exact ⟨k + 1, by omega, by go_num, H5⟩
            case measure => simp only [RowKit.intOf]; omega
          · have hd : decide (k < n) = false := decide_eq_false hkn
            clear hkn c0 c2 cl
            go_wp2_with fail
            clear c1
            refine wp_region_held_drew (S := fun W => LookB w w0 gb n M lb lcb q 2 w0.heap.size W) (by kernel_rfl) hX.out (fun hHeld => ?_)
            refine wpAnyH_take (i := 0) (oi := _) (v := ?_) rfl (by kernel_rfl) (by kernel_rfl) (by kernel_rfl) (fun _ _ _ h => h) (Or.inl ⟨by rfl, ?_⟩) (by assumption) ?_
            rotate_left
            · intro W hSw
              go_simp
              try (with_reducible rfl)
            try simp only [Act.put, List.getElem_toArray, List.getElem_cons_zero, List.setIfInBounds_toArray, List.set_cons_zero, List.set_cons_succ]
            refine wpAnyH_take (i := 1) (oi := _) (v := ?_) rfl (by kernel_rfl) (by kernel_rfl) (by kernel_rfl) (fun _ _ _ h => h) (Or.inl ⟨by rfl, ?_⟩) (by assumption) ?_
            rotate_left
            · intro W hSw
              have h0 := hSw.1.c0; have h1 := hSw.1.c1; have h2 := hSw.1.c2; have hl := hSw.1.cl hlt
              go_simp
              try (with_reducible rfl)
            try simp only [Act.put, List.getElem_toArray, List.getElem_cons_succ, List.getElem_cons_zero, List.setIfInBounds_toArray, List.set_cons_zero, List.set_cons_succ]
            refine wpAnyH_take (i := 2) (oi := _) (v := ?_) rfl (by kernel_rfl) (by kernel_rfl) (by kernel_rfl) (fun _ _ _ h => h) (Or.inl ⟨by rfl, ?_⟩) (by assumption) ?_
            rotate_left
            · intro W hSw
              go_simp
              try (with_reducible rfl)
            try simp only [Act.put, List.getElem_toArray, List.getElem_cons_succ, List.getElem_cons_zero, List.setIfInBounds_toArray, List.set_cons_zero, List.set_cons_succ]
            refine wpAnyH_take (i := 3) (oi := _) (v := ?_) rfl (by kernel_rfl) (by kernel_rfl) (by kernel_rfl) (fun _ _ _ h => h) (Or.inl ⟨by rfl, ?_⟩) (by assumption) ?_
            rotate_left
            · intro W hSw
              go_simp
              try (with_reducible rfl)
            try simp only [Act.put, List.getElem_toArray, List.getElem_cons_succ, List.getElem_cons_zero, List.setIfInBounds_toArray, List.set_cons_zero, List.set_cons_succ]
            refine wpAnyH_take (i := 4) (oi := _) (v := ?_) rfl (by kernel_rfl) (by kernel_rfl) (by kernel_rfl) (fun _ _ _ h => h) (Or.inl ⟨by rfl, ?_⟩) (by assumption) ?_
            rotate_left
            · intro W hSw
              have h0 := hSw.1.c0; have h1 := hSw.1.c1; have h2 := hSw.1.c2; have hl := hSw.1.cl hlt
              go_simp
              try (with_reducible rfl)
            try simp only [Act.put, List.getElem_toArray, List.getElem_cons_succ, List.getElem_cons_zero, List.setIfInBounds_toArray, List.set_cons_zero, List.set_cons_succ]
            refine wpAnyH_take (i := 5) (oi := _) (v := ?_) rfl (by kernel_rfl) (by kernel_rfl) (by kernel_rfl) (fun _ _ _ h => h) (Or.inl ⟨by rfl, ?_⟩) (by assumption) ?_
            rotate_left
            · intro W hSw
              go_simp
              try (with_reducible rfl)
            try simp only [Act.put, List.getElem_toArray, List.getElem_cons_succ, List.getElem_cons_zero, List.setIfInBounds_toArray, List.set_cons_zero, List.set_cons_succ]
            refine wpAnyH_take (i := 6) (oi := _) (v := ?_) rfl (by kernel_rfl) (by kernel_rfl) (by kernel_rfl) (fun _ _ _ h => h) (Or.inl ⟨by rfl, ?_⟩) (by assumption) ?_
            rotate_left
            · intro W hSw
              have h0 := hSw.1.c0; have h1 := hSw.1.c1; have h2 := hSw.1.c2; have hl := hSw.1.cl hlt
              go_simp
              try (with_reducible rfl)
            try simp only [Act.put, List.getElem_toArray, List.getElem_cons_succ, List.getElem_cons_zero, List.setIfInBounds_toArray, List.set_cons_zero, List.set_cons_succ]
            refine wpAnyH_ready (rs := [7]) (by kernel_rfl) (by simp) ?_
            refine AllReadyH.cons (o := _) rfl (fun K hK => ?_) AllReadyH.nil
            go_simp
            refine (HM.out _ (HT0.out.below hHeld.1.below)).mono ?_
            rintro e u7 ⟨rfl, hb7⟩
            have hS7 := LookB.go hHeld hb7
            clear hb7 hHeld
            go_wp2_with fail
            refine hK.out _ _ hS7 (fun hHeld => ?_)
            clear hK K
            try simp only [Act.put, List.getElem_toArray, List.getElem_cons_succ, List.getElem_cons_zero, List.setIfInBounds_toArray, List.set_cons_zero, List.set_cons_succ]
            refine wpAnyH_take (i := 8) (oi := _) (v := ?_) rfl (by kernel_rfl) (by kernel_rfl) (by kernel_rfl) (fun _ _ _ h => h) (Or.inl ⟨by rfl, ?_⟩) (by assumption) ?_
            rotate_left
            · intro W hSw
              go_simp
              try (with_reducible rfl)
            try simp only [Act.put, List.getElem_toArray, List.getElem_cons_succ, List.getElem_cons_zero, List.setIfInBounds_toArray, List.set_cons_zero, List.set_cons_succ]
            refine wpAnyH_take (i := 9) (oi := _) (v := ?_) rfl (by kernel_rfl) (by kernel_rfl) (by kernel_rfl) (fun _ _ _ h => h) (Or.inl ⟨by rfl, ?_⟩) (by assumption) ?_
            rotate_left
            · intro W hSw
              go_simp
              try (with_reducible rfl)
            try simp only [Act.put, List.getElem_toArray, List.getElem_cons_succ, List.getElem_cons_zero, List.setIfInBounds_toArray, List.set_cons_zero, List.set_cons_succ]
            refine wpAnyH_take (i := 10) (oi := _) (v := ?_) rfl (by kernel_rfl) (by kernel_rfl) (by kernel_rfl) (fun _ _ _ h => h) (Or.inl ⟨by rfl, ?_⟩) (by assumption) ?_
            rotate_left
            · intro W hSw
              go_simp
              try (with_reducible rfl)
            try simp only [Act.put, List.getElem_toArray, List.getElem_cons_succ, List.getElem_cons_zero, List.setIfInBounds_toArray, List.set_cons_zero, List.set_cons_succ]
            refine wpAnyH_take (i := 11) (oi := _) (v := ?_) rfl (by kernel_rfl) (by kernel_rfl) (by kernel_rfl) (fun _ _ _ h => h) (Or.inl ⟨by rfl, ?_⟩) (by assumption) ?_
            rotate_left
            · intro W hSw
              go_simp
              try (with_reducible rfl)
            try simp only [Act.put, List.getElem_toArray, List.getElem_cons_succ, List.getElem_cons_zero, List.setIfInBounds_toArray, List.set_cons_zero, List.set_cons_succ]
            refine wpAnyH_take (i := 12) (oi := _) (v := ?_) rfl (by kernel_rfl) (by kernel_rfl) (by kernel_rfl) (fun _ _ _ h => h) (Or.inl ⟨by rfl, ?_⟩) (by assumption) ?_
            rotate_left
            · intro W hSw
              have h0 := hSw.1.c0; have h1 := hSw.1.c1; have h2 := hSw.1.c2; have hl := hSw.1.cl hlt
              go_simp
              try (with_reducible rfl)
            try simp only [Act.put, List.getElem_toArray, List.getElem_cons_succ, List.getElem_cons_zero, List.setIfInBounds_toArray, List.set_cons_zero, List.set_cons_succ]
            refine wpAnyH_take (i := 13) (oi := _) (v := ?_) rfl (by kernel_rfl) (by kernel_rfl) (by kernel_rfl) (fun _ _ _ h => h) (Or.inl ⟨by rfl, ?_⟩) (by assumption) ?_
            rotate_left
            · intro W hSw
              go_simp
              try (with_reducible rfl)
            try simp only [Act.put, List.getElem_toArray, List.getElem_cons_succ, List.getElem_cons_zero, List.setIfInBounds_toArray, List.set_cons_zero, List.set_cons_succ]
            refine wpAnyH_take (i := 14) (oi := _) (v := ?_) rfl (by kernel_rfl) (by kernel_rfl) (by kernel_rfl) (fun _ _ _ h => h) (Or.inl ⟨by rfl, ?_⟩) (by assumption) ?_
            rotate_left
            · intro W hSw
              go_simp
              try (with_reducible rfl)
            try simp only [Act.put, List.getElem_toArray, List.getElem_cons_succ, List.getElem_cons_zero, List.setIfInBounds_toArray, List.set_cons_zero, List.set_cons_succ]
            refine wpAnyH_take (i := 15) (oi := _) (v := ?_) rfl (by kernel_rfl) (by kernel_rfl) (by kernel_rfl) (fun _ _ _ h => h) (Or.inl ⟨by rfl, ?_⟩) (by assumption) ?_
            rotate_left
            · intro W hSw
              go_simp
              try (with_reducible rfl)
            try simp only [Act.put, List.getElem_toArray, List.getElem_cons_succ, List.getElem_cons_zero, List.setIfInBounds_toArray, List.set_cons_zero, List.set_cons_succ]
            refine wpAnyH_take (i := 16) (oi := _) (v := undef) rfl (by kernel_rfl) (by kernel_rfl) (by kernel_rfl) (fun _ _ _ h => h) (Or.inr ⟨by rfl, rfl⟩) (by assumption) ?_
            try simp only [Act.put, List.getElem_toArray, List.getElem_cons_succ, List.getElem_cons_zero, List.setIfInBounds_toArray, List.set_cons_zero, List.set_cons_succ]
            refine wpAnyH_take (i := 17) (oi := _) (v := undef) rfl (by kernel_rfl) (by kernel_rfl) (by kernel_rfl) (fun _ _ _ h => h) (Or.inr ⟨by rfl, rfl⟩) (by assumption) ?_
            try simp only [Act.put, List.getElem_toArray, List.getElem_cons_succ, List.getElem_cons_zero, List.setIfInBounds_toArray, List.set_cons_zero, List.set_cons_succ]
            refine wpAnyH_take (i := 18) (oi := _) (v := undef) rfl (by kernel_rfl) (by kernel_rfl) (by kernel_rfl) (fun _ _ _ h => h) (Or.inr ⟨by rfl, rfl⟩) (by assumption) ?_
            try simp only [Act.put, List.getElem_toArray, List.getElem_cons_succ, List.getElem_cons_zero, List.setIfInBounds_toArray, List.set_cons_zero, List.set_cons_succ]
            refine wpAnyH_take (i := 19) (oi := _) (v := undef) rfl (by kernel_rfl) (by kernel_rfl) (by kernel_rfl) (fun _ _ _ h => h) (Or.inr ⟨by rfl, rfl⟩) (by assumption) ?_
            try simp only [Act.put, List.getElem_toArray, List.getElem_cons_succ, List.getElem_cons_zero, List.setIfInBounds_toArray, List.set_cons_zero, List.set_cons_succ]
            refine wpAnyH_take (i := 20) (oi := _) (v := undef) rfl (by kernel_rfl) (by kernel_rfl) (by kernel_rfl) (fun _ _ _ h => h) (Or.inr ⟨by rfl, rfl⟩) (by assumption) ?_
            try simp only [Act.put, List.getElem_toArray, List.getElem_cons_succ, List.getElem_cons_zero, List.setIfInBounds_toArray, List.set_cons_zero, List.set_cons_succ]
            refine wpAnyH_take (i := 21) (oi := _) (v := undef) rfl (by kernel_rfl) (by kernel_rfl) (by kernel_rfl) (fun _ _ _ h => h) (Or.inr ⟨by rfl, rfl⟩) (by assumption) ?_
            try simp only [Act.put, List.getElem_toArray, List.getElem_cons_succ, List.getElem_cons_zero, List.setIfInBounds_toArray, List.set_cons_zero, List.set_cons_succ]
            refine wpAnyH_take (i := 22) (oi := _) (v := undef) rfl (by kernel_rfl) (by kernel_rfl) (by kernel_rfl) (fun _ _ _ h => h) (Or.inr ⟨by rfl, rfl⟩) (by assumption) ?_
            try simp only [Act.put, List.getElem_toArray, List.getElem_cons_succ, List.getElem_cons_zero, List.setIfInBounds_toArray, List.set_cons_zero, List.set_cons_succ]
            refine wpAnyH_ready (rs := [23]) (by kernel_rfl) (by simp) ?_
            refine AllReadyH.cons (o := _) rfl (fun K hK => ?_) AllReadyH.nil
            go_simp
            refine hK.out _ _ hHeld (fun hHeld => ?_)
            clear hK K
            try simp only [Act.put, List.getElem_toArray, List.getElem_cons_succ, List.getElem_cons_zero, List.setIfInBounds_toArray, List.set_cons_zero, List.set_cons_succ]
            refine wpAnyH_take (i := 24) (oi := _) (v := undef) rfl (by kernel_rfl) (by kernel_rfl) (by kernel_rfl) (fun _ _ _ h => h) (Or.inr ⟨by rfl, rfl⟩) (by assumption) ?_
            try simp only [Act.put, List.getElem_toArray, List.getElem_cons_succ, List.getElem_cons_zero, List.setIfInBounds_toArray, List.set_cons_zero, List.set_cons_succ]
            refine wpAnyH_take (i := 25) (oi := _) (v := ?_) rfl (by kernel_rfl) (by kernel_rfl) (by kernel_rfl) (fun _ _ _ h => h) (Or.inl ⟨by rfl, ?_⟩) (by assumption) ?_
            rotate_left
            · intro W hSw
              go_simp
              try (with_reducible rfl)
            try simp only [Act.put, List.getElem_toArray, List.getElem_cons_succ, List.getElem_cons_zero, List.setIfInBounds_toArray, List.set_cons_zero, List.set_cons_succ]
            refine wpAnyH_take (i := 26) (oi := _) (v := ?_) rfl (by kernel_rfl) (by kernel_rfl) (by kernel_rfl) (fun _ _ _ h => h) (Or.inl ⟨by rfl, ?_⟩) (by assumption) ?_
            rotate_left
            · intro W hSw
              go_simp
              try (with_reducible rfl)
            try simp only [Act.put, List.getElem_toArray, List.getElem_cons_succ, List.getElem_cons_zero, List.setIfInBounds_toArray, List.set_cons_zero, List.set_cons_succ]
            refine wpAnyH_done (by kernel_rfl) ?_ _
            have H5 := hid hHeld
            clear hHeld hX hh
            go_wp2
            go_roundw
            case rel => exact ⟨k + 1, by omega, by go_num, H5⟩
            case measure => simp only [RowKit.intOf]; omega
        · obtain rfl : k = n + 40 := by omega
          go_wp2
          go_roundw
          case rel => exact ⟨2, by omega, rfl, hid hh.out.2⟩
          case measure => simp only [RowKit.intOf]; omega
    · clear hi
      have HBx := hid hbel.out
      go_wp2
      go_ret
      exact ⟨rfl, HBx.out⟩
end Go.Proofs.YtalinfpakmcobaaDoor
