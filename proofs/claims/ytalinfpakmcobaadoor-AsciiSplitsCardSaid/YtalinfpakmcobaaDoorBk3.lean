/- Walk: a Book's fillText. -/
import Derived.Test.YtalinfpakmcobaaDoorBk2
import Derived.Deep.RegionWith
namespace Go.Proofs.YtalinfpakmcobaaDoor
open Go.RowKit Go.Lib Go.Proofs.Foot

theorem laid_rowB (w : World) (Z C : Array Value) (t : TypeId) : ((w.alloc (.cells Z t)).setRow w.heap.size C).heap[w.heap.size]? = some (.cells C t (0, 0)) := setRow_heap _ _ _ _ _ _ (heap_alloc_new _ _)
theorem laid_belowB (w : World) (Z C : Array Value) (t : TypeId) : Below w.heap.size w ((w.alloc (.cells Z t)).setRow w.heap.size C) := below_setRow ((Below.refl _ _).alloc (Nat.le_refl _) _) (Nat.le_refl _) _
theorem infoHS (C : Array Value) (hC : C.size = 3) : (Tryd.prog.info? 72).map (·.size) = some C.size := by rw [hC]; kernel_rfl
/-- The first k marked. -/
def mixM (l : List ByteArray) (t : ByteArray) (k : Nat) : List ByteArray := List.replicate k t ++ l.drop k
theorem mixM_zero (l : List ByteArray) (t : ByteArray) : mixM l t 0 = l := by simp [mixM]
theorem mixM_len {l : List ByteArray} {t : ByteArray} {k : Nat} (h : k ≤ l.length) : (mixM l t k).length = l.length := by simp [mixM]; omega
theorem mixM_set {l : List ByteArray} {t : ByteArray} {k : Nat} (h : k < l.length) : (mixM l t k).set k t = mixM l t (k + 1) := by
  unfold mixM
  have e1 : (List.replicate k t).length = k := List.length_replicate
  rw [List.set_append_right _ _ (by omega), e1, Nat.sub_self, List.drop_eq_getElem_cons h, List.set_cons_zero, List.replicate_succ', List.append_assoc]
  rfl
theorem mixM_all {l : List ByteArray} {t : ByteArray} {k : Nat} (h : k = l.length) : mixM l t k = List.replicate k t := by simp [mixM, h]
theorem row_cell {w : World} {g : Nat} {C : Array Value} {t : TypeId} {fr : Nat × Nat} (h : w.heap[g]? = some (.cells C t fr)) {k : Nat} {v : Value} (hv : C[k]? = some v) : w.cell? ⟨g, k, none⟩ = some v := by
  rw [cell_of_row _ _ _ _ _ _ h]; exact hv
theorem row_lt {w : World} {g : Nat} {o : Obj} (h : w.heap[g]? = some o) : g < w.heap.size := (Array.getElem?_eq_some_iff.1 h).1
/-- The cells of what is held of a list, as a block of its own. -/
def heldA (g n : Nat) (v : Value) (m : Nat) : Array Value := #[.slice (some ⟨g, 0, none⟩) n n, v, .int .i64 m]
theorem heldA_one (g n m : Nat) : (heldA g n (.slice none 0 0) m).all (·.oneCell') = true := all_oneCell_toArray (cs := [.slice (some ⟨g, 0, none⟩) n n, .slice none 0 0, .int .i64 m]) (by
  intro u hu; simp only [List.mem_cons, List.not_mem_nil, or_false] at hu; rcases hu with rfl | rfl | rfl <;> rfl)
/-- Within fillText: the Book, and the block of h. -/
def FillI (w0 : World) (gk gt cap ga gb n : Nat) (A B : List ByteArray) (q g m : Nat) (w : World) : Prop :=
  Pz w0 gk gt cap ga gb n (.slice none 0 0) (.slice none 0 0) A B w ∧ w.heap[q]? = some (.cells (heldA g n (.slice none 0 0) m) 72 (0, 0))
section
variable {w0 w w' : World} {gk gt cap ga gb n : Nat} {A B : List ByteArray} {q g m : Nat}
theorem FillI.go (h : FillI w0 gk gt cap ga gb n A B q g m w) (hb : Below w.heap.size w w') : FillI w0 gk gt cap ga gb n A B q g m w' :=
  ⟨h.1.go hb, (hb.block q (row_lt h.2)).trans h.2⟩
theorem FillI.drew (h : FillI w0 gk gt cap ga gb n A B q g m w) : FillI w0 gk gt cap ga gb n A B q g m w.drew := ⟨h.1.drew, h.2⟩
theorem FillI.c0 (h : FillI w0 gk gt cap ga gb n A B q g m w) : w.cell? ⟨q, 0, none⟩ = some (.slice (some ⟨g, 0, none⟩) n n) := row_cell h.2 rfl
theorem FillI.c2 (h : FillI w0 gk gt cap ga gb n A B q g m w) : w.cell? ⟨q, 2, none⟩ = some (.int .i64 m) := row_cell h.2 rfl
theorem FillI.setA (h : FillI w0 gk gt cap ga gb n A B q g m w) (d : Dis w0.heap.size gk gt ga gb) (hq : ga ≠ q) (k : Nat) (t : ByteArray) : FillI w0 gk gt cap ga gb n (A.set k t) B q g m (w.setCell ⟨ga, k, none⟩ (.string t)) :=
  ⟨h.1.setA d k t, (heap_setCell_other w ⟨ga, k, none⟩ q _ (fun e => hq e.symm)).trans h.2⟩
theorem FillI.setB (h : FillI w0 gk gt cap ga gb n A B q g m w) (d : Dis w0.heap.size gk gt ga gb) (hq : gb ≠ q) (k : Nat) (t : ByteArray) : FillI w0 gk gt cap ga gb n A (B.set k t) q g m (w.setCell ⟨gb, k, none⟩ (.string t)) :=
  ⟨h.1.setB d k t, (heap_setCell_other w ⟨gb, k, none⟩ q _ (fun e => hq e.symm)).trans h.2⟩
end
/-- What stands when i lists are filled. -/
def FillO (w0 : World) (gk gt cap ga gb n : Nat) (A B : List ByteArray) (i : Nat) (w : World) : Prop :=
  Pz w0 gk gt cap ga gb n (.slice none 0 0) (.slice none 0 0) (if 0 < i then List.replicate n (mkT 1) else A) (if 1 < i then List.replicate n (mkT 2) else B) w
def FillR (w0 : World) (gk gt cap ga gb n : Nat) (e : Ending) (w' : World) : Prop := e = .returned (.tuple #[]) ∧
  Pz w0 gk gt cap ga gb n (.slice none 0 0) (.slice none 0 0) (List.replicate n (mkT 1)) (List.replicate n (mkT 2)) w'
set_option maxHeartbeats 4000000 in
set_option maxRecDepth 100000 in
theorem fillText_any (w0 w : World) (gk gt cap ga gb n : Nat) (A B : List ByteArray) (T0 : Tb w0) (d : Dis w0.heap.size gk gt ga gb) (hA : A.length = n) (hB : B.length = n) (hn : n ≤ 2097152) (h : Pz w0 gk gt cap ga gb n (.slice none 0 0) (.slice none 0 0) A B w) :
    Calls Tryd.prog 32 #[.pointer (some ⟨gk, 0, none⟩)] w (FillR w0 gk gt cap ga gb n) := by
  have HT0 := hid T0
  have HD := hid d
  have H0 := hid h
  have HA := hid hA
  have HB := hid hB
  clear T0 d h hA hB
  go_enter Tryd.func32, Tryd.ntmps32
  go_wp2
  go_loopw [2] (fun iv wr => ∃ i : Nat, i ≤ 2 ∧ iv = .int .i64 i ∧ Hid (FillO w0 gk gt cap ga gb n A B i wr)) (fun iv _ => 2 - (RowKit.intOf iv).toNat)
  case atStart => exact ⟨0, by omega, rfl, H0⟩
  case round =>
    obtain ⟨i, hi, rfl, hp⟩ := hrel
    obtain rfl | rfl | rfl : i = 0 ∨ i = 1 ∨ i = 2 := by omega
    · have HP : Hid (Pz w0 gk gt cap ga gb n (.slice none 0 0) (.slice none 0 0) A B wr) := hid hp.out
      clear hp hi
      have c3 := HP.out.bk.cell (k := 3) (v := .slice (some ⟨gt, 0, none⟩) 2 cap) rfl
      have hr := HP.out.rangeA
      go_upto_region 4 with (first
        | (refine wpList_load_mid rfl 72 _ rfl gt 0 rfl (heldC ga n (.slice none 0 0) 1) _ hr Tryd.underlying72 rfl (by kernel_rfl) ?_)
        | (refine wpList_store_row rfl 72 _ _ rfl wr.heap.size (heldA ga n (.slice none 0 0) 1) rfl rfl _ _ (heap_alloc_new wr _) (infoHS _ rfl) rfl (heldA_one _ _ _) ?_))
      have hq : ga < wr.heap.size := HP.out.ta.lt
      have HI : Hid (FillI w0 gk gt cap ga gb n (mixM A (mkT 1) 0) B wr.heap.size ga 1 ((wr.alloc (.cells #[.slice none 0 0, .slice none 0 0, .int .i64 0] 72)).setRow wr.heap.size (heldA ga n (.slice none 0 0) 1))) :=
        hid ⟨by rw [mixM_zero]; exact HP.out.go (laid_belowB _ _ _ _), laid_rowB _ _ _ _⟩
      clear c3 hr
      generalize World.setRow _ wr.heap.size _ = w2 at *
      obtain ⟨q, hqq⟩ : ∃ q, q = wr.heap.size := ⟨_, rfl⟩
      rw [← hqq] at HI hq ⊢
      clear hqq HP
      have hqn : ga ≠ q := by omega
      have HQ := hid hqn
      clear hq hqn
      go_wp2
      go_loopw [4] (fun kv wi => ∃ k : Nat, k ≤ n ∧ kv = .int .i64 k ∧ Hid (FillI w0 gk gt cap ga gb n (mixM A (mkT 1) k) B q ga 1 wi)) (fun kv _ => n - (RowKit.intOf kv).toNat)
      case atStart => exact ⟨0, by omega, rfl, HI⟩
      case round =>
        obtain ⟨k, hk, rfl, hh⟩ := hrel
        have c0 := hh.out.c0
        have c2 := hh.out.c2
        by_cases hlt : k < n
        · have hkn : (k : Int) < (n : Int) := by omega
          obtain ⟨M, hM⟩ : ∃ M, M = mkT 1 := ⟨_, rfl⟩
          have HM : Hid (∀ w, Tb w → Calls Tryd.prog 69 #[.int .i64 1] w fun e w' => e = .returned (.string M) ∧ Below w.heap.size w w') := hid (by rw [hM]; exact fun w T => markText_any 1 (by omega) w T)
          have HME := hid hM
          clear hM
          have hd := hid hh.out.drew
          obtain ⟨t, ht⟩ : ∃ t, (mixM A (mkT 1) k)[k]? = some t := by
            refine ⟨_, List.getElem?_eq_getElem ?_⟩
            rw [mixM_len (by rw [HA.out]; omega), HA.out]; exact hlt
          have HTt := hid ht
          clear ht
          go_wp2
          go_region_with (first
            | (go_at_call 69; refine (HM.out _ (HT0.out.below hd.out.1.below)).mono ?_; rintro e w5 ⟨rfl, hb5⟩; have P5 := hd.out.go hb5; have HP5 := hid P5; have c0' := P5.c0; have ct' := P5.1.ta.cell HTt.out; have ft' := P5.1.ta.free k; clear P5 hb5))
          all_goals go_wp2
          all_goals go_roundw
          all_goals first
            | (simp only [RowKit.intOf]; omega)
            | (refine ⟨k + 1, by omega, by go_num, hid ?_⟩
               have hs := HP5.out.setA HD.out HQ.out k M
               rw [HME.out, mixM_set (by rw [HA.out]; exact hlt)] at hs
               rw [HME.out]
               exact hs)
        · obtain rfl : k = n := by omega
          have hf := hh.out.1
          rw [mixM_all HA.out.symm] at hf
          have HF := hid hf
          clear hf
          go_wp2
          go_roundw
          case rel => exact ⟨1, by omega, rfl, hid HF.out⟩
          case measure => simp only [RowKit.intOf]; omega
    · have HP : Hid (Pz w0 gk gt cap ga gb n (.slice none 0 0) (.slice none 0 0) (List.replicate n (mkT 1)) B wr) := hid hp.out
      clear hp hi
      have c3 := HP.out.bk.cell (k := 3) (v := .slice (some ⟨gt, 0, none⟩) 2 cap) rfl
      have hr := HP.out.rangeB
      go_upto_region 4 with (first
        | (refine wpList_load_mid rfl 72 _ rfl gt 3 rfl (heldC gb n (.slice none 0 0) 2) _ hr Tryd.underlying72 rfl (by kernel_rfl) ?_)
        | (refine wpList_store_row rfl 72 _ _ rfl wr.heap.size (heldA gb n (.slice none 0 0) 2) rfl rfl _ _ (heap_alloc_new wr _) (infoHS _ rfl) rfl (heldA_one _ _ _) ?_))
      have hq : gb < wr.heap.size := HP.out.tb.lt
      have HI : Hid (FillI w0 gk gt cap ga gb n (List.replicate n (mkT 1)) (mixM B (mkT 2) 0) wr.heap.size gb 2 ((wr.alloc (.cells #[.slice none 0 0, .slice none 0 0, .int .i64 0] 72)).setRow wr.heap.size (heldA gb n (.slice none 0 0) 2))) :=
        hid ⟨by rw [mixM_zero]; exact HP.out.go (laid_belowB _ _ _ _), laid_rowB _ _ _ _⟩
      clear c3 hr
      generalize World.setRow _ wr.heap.size _ = w2 at *
      obtain ⟨q, hqq⟩ : ∃ q, q = wr.heap.size := ⟨_, rfl⟩
      rw [← hqq] at HI hq ⊢
      clear hqq HP
      have hqn : gb ≠ q := by omega
      have HQ := hid hqn
      clear hq hqn
      go_wp2
      go_loopw [4] (fun kv wi => ∃ k : Nat, k ≤ n ∧ kv = .int .i64 k ∧ Hid (FillI w0 gk gt cap ga gb n (List.replicate n (mkT 1)) (mixM B (mkT 2) k) q gb 2 wi)) (fun kv _ => n - (RowKit.intOf kv).toNat)
      case atStart => exact ⟨0, by omega, rfl, HI⟩
      case round =>
        obtain ⟨k, hk, rfl, hh⟩ := hrel
        have c0 := hh.out.c0
        have c2 := hh.out.c2
        by_cases hlt : k < n
        · have hkn : (k : Int) < (n : Int) := by omega
          obtain ⟨M, hM⟩ : ∃ M, M = mkT 2 := ⟨_, rfl⟩
          have HM : Hid (∀ w, Tb w → Calls Tryd.prog 69 #[.int .i64 2] w fun e w' => e = .returned (.string M) ∧ Below w.heap.size w w') := hid (by rw [hM]; exact fun w T => markText_any 2 (by omega) w T)
          have HME := hid hM
          clear hM
          have hd := hid hh.out.drew
          obtain ⟨t, ht⟩ : ∃ t, (mixM B (mkT 2) k)[k]? = some t := by
            refine ⟨_, List.getElem?_eq_getElem ?_⟩
            rw [mixM_len (by rw [HB.out]; omega), HB.out]; exact hlt
          have HTt := hid ht
          clear ht
          go_wp2
          go_region_with (first
            | (go_at_call 69; refine (HM.out _ (HT0.out.below hd.out.1.below)).mono ?_; rintro e w5 ⟨rfl, hb5⟩; have P5 := hd.out.go hb5; have HP5 := hid P5; have c0' := P5.c0; have ct' := P5.1.tb.cell HTt.out; have ft' := P5.1.tb.free k; clear P5 hb5))
          all_goals go_wp2
          all_goals go_roundw
          all_goals first
            | (simp only [RowKit.intOf]; omega)
            | (refine ⟨k + 1, by omega, by go_num, hid ?_⟩
               have hs := HP5.out.setB HD.out HQ.out k M
               rw [HME.out, mixM_set (by rw [HB.out]; exact hlt)] at hs
               rw [HME.out]
               exact hs)
        · obtain rfl : k = n := by omega
          have hf := hh.out.1
          rw [mixM_all HB.out.symm] at hf
          have HF := hid hf
          clear hf
          go_wp2
          go_roundw
          case rel => exact ⟨2, by omega, rfl, hid HF.out⟩
          case measure => simp only [RowKit.intOf]; omega
    · have HP : Hid (Pz w0 gk gt cap ga gb n (.slice none 0 0) (.slice none 0 0) (List.replicate n (mkT 1)) (List.replicate n (mkT 2)) wr) := hid hp.out
      clear hp hi
      have c3 := HP.out.bk.cell (k := 3) (v := .slice (some ⟨gt, 0, none⟩) 2 cap) rfl
      go_wp2
      go_end0
      exact ⟨rfl, HP.out⟩
end Go.Proofs.YtalinfpakmcobaaDoor
