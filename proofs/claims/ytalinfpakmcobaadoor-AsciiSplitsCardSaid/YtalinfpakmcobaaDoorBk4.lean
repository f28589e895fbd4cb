/- Walk: a Book's growText. -/
import Derived.Test.YtalinfpakmcobaaDoorBk3
import Derived.Test.YtalinfpakmcobaaDoorAppG
namespace Go.Proofs.YtalinfpakmcobaaDoor
open Go.RowKit Go.Lib Go.Proofs.Foot

/-- A list with 40 marks behind it, in a block of its own. -/
def LongOk (w0 : World) (gt n : Nat) (M : ByteArray) (v : Value) (w : World) : Prop :=
  ∃ g cap, v = .slice (some ⟨g, 0, none⟩) (n + 40) cap ∧ g ≠ gt ∧ w.ownsRow w0.heap.size 9 1 (.slice (some ⟨g, 0, none⟩) (n + 40) cap) (n + 40) (List.replicate (n + 40) (.string M))
theorem LongOk.go {w0 w w' : World} {gt n : Nat} {M : ByteArray} {v : Value} (h : LongOk w0 gt n M v w) (hb : Below w.heap.size w w') : LongOk w0 gt n M v w' := by
  obtain ⟨g, cap, e, h1, h2⟩ := h
  exact ⟨g, cap, e, h1, (Touch.of_below (S := fun _ => False) hb).own h2 (fun _ _ hf => hf)⟩
theorem LongOk.set {w0 w : World} {gt n : Nat} {M : ByteArray} {v : Value} (h : LongOk w0 gt n M v w) (k : Nat) (u : Value) : LongOk w0 gt n M v (w.setCell ⟨gt, k, none⟩ u) := by
  obtain ⟨g, cap, e, h1, h2⟩ := h
  exact ⟨g, cap, e, h1, own_other h2 h1.symm⟩
/-- The list while it grows: k marks behind it. -/
def LInv (w2 : World) (g n : Nat) (M : ByteArray) (k : Nat) (v : Value) (w : World) : Prop :=
  Below w2.heap.size w2 w ∧ ((k = 0 ∧ v = .slice (some ⟨g, 0, none⟩) n n) ∨ (1 ≤ k ∧ w.ownsRow w2.heap.size 9 1 v (n + k) (List.replicate (n + k) (.string M))))
theorem LInv.form {w2 w : World} {g n k : Nat} {M : ByteArray} {v : Value} (h : LInv w2 g n M k v w) (hn : 1 ≤ n) : ∃ a cap, v = .slice (some a) (n + k) cap := by
  obtain ⟨_, ⟨rfl, rfl⟩ | ⟨h1, h2⟩⟩ := h
  · exact ⟨_, _, rfl⟩
  · obtain ⟨g, cap, rfl, _⟩ := h2.form (by omega)
    exact ⟨_, _, rfl⟩
theorem LInv.go {w2 w w' : World} {g n k : Nat} {M : ByteArray} {v : Value} (h : LInv w2 g n M k v w) (hb : Below w.heap.size w w') : LInv w2 g n M k v w' := by
  obtain ⟨h0, h1⟩ := h
  refine ⟨below_chain h0 hb, ?_⟩
  rcases h1 with h1 | ⟨h1, h2⟩
  · exact .inl h1
  · exact .inr ⟨h1, (Touch.of_below (S := fun _ => False) hb).own h2 (fun _ _ hf => hf)⟩
theorem appL {w : World} {ops : Array Oper} {rest : List Oper} {o : Oper} {a : Act} {Q : Exit → Act → World → Prop} (hgd : o.guard = none) (s x : Operand)
    (ho : o.op = .call { callee := .builtin .append, args := #[s, x], argTypes := #[25, 25] }) (w2 : World) (g n k : Nat) (M : ByteArray) (v : Value) (hs : a.eval s = v)
    (hL : LInv w2 g n M k v w) (hcells : Texts w g (List.replicate n M)) (hx : a.eval x = .slice (some ⟨w.heap.size, 0, none⟩) 1 1) (hn : n ≤ 2097152) (hk : k ≤ 40)
    (h : ∀ v' w', LInv w2 g n M (k + 1) v' w' → wpList Tryd.prog ops Q rest (a.put o.dst v') w') : wpList Tryd.prog ops Q (o :: rest) a (w.alloc (.cells #[.string M] 9)) := by
  obtain ⟨i0, hi, hz0, hz1, hz2⟩ := info_parts infoStr
  obtain ⟨hb, hv⟩ := hL
  have ba : Below w.heap.size w (w.alloc (.cells #[.string M] 9)) := (Below.refl _ _).alloc (Nat.le_refl _) _
  have bw := below_chain hb ba
  have hnew : ∀ (j : Nat) (u : Value), ([.string M] : List Value)[j]? = some u → (w.alloc (.cells #[.string M] 9)).cell? ((⟨w.heap.size, 0, none⟩ : Addr).add j) = some u := World.news_of_block (cs := #[.string M]) (heap_alloc_new w _)
  rcases hv with ⟨rfl, rfl⟩ | ⟨h1, hown⟩
  · have hT := hcells.below ba hcells.lt
    refine wpList_append_guarded _ (by simp [Region.wanted, hgd]) s x _ ho 9 i0 _ 1 16 Tryd.underlying25 hi hz0 hz1 hz2 rfl (by omega) ⟨g, 0, none⟩ n n (List.replicate n (.string M)) hs (by simp) (fun j u hu => ?_) ⟨w.heap.size, 0, none⟩ 1 1 [.string M] hx rfl hnew (by omega) (by unfold maxLen; omega) (by omega) (fun v' w' hown hgr => ?_)
    · have hadd : (⟨g, 0, none⟩ : Addr).add j = ⟨g, j, none⟩ := by unfold Addr.add; split <;> simp_all
      have hj : j < n := by have := (List.getElem?_eq_some_iff.1 hu).1; simpa using this
      have hu2 : u = .string M := by rw [List.getElem?_replicate, if_pos hj] at hu; exact (Option.some.inj hu).symm
      rw [hadd, hu2]
      exact hT.cell (by rw [List.getElem?_replicate, if_pos hj])
    · refine h v' w' ⟨?_, .inr ⟨by omega, ?_⟩⟩
      · exact bw.trans ((Below.refl _ _).grown hgr bw.size (by simp))
      · have e : List.replicate n (Value.string M) ++ [.string M] = List.replicate (n + (0 + 1)) (.string M) := by rw [Nat.zero_add, List.replicate_succ']
        rw [← e]
        exact ownsRow_mono hown bw.size
  · have ho2 : (w.alloc (.cells #[.string M] 9)).ownsRow w2.heap.size 9 1 v (n + k) (List.replicate (n + k) (.string M)) := hown.alloc _
    refine wpList_append_mine hgd s x _ ho w2.heap.size 9 i0 _ 1 16 Tryd.underlying25 hi hz0 hz1 hz2 rfl (by decide) v (n + k) _ hs ho2 ⟨w.heap.size, 0, none⟩ 1 1 [.string M] hx rfl hnew (by intro u hu; simp at hu; subst hu; rfl) (by unfold maxLen; omega) (by omega) bw.size (fun v' w' hown' hgr _ => ?_)
    refine h v' w' ⟨?_, .inr ⟨by omega, ?_⟩⟩
    · exact bw.trans ((Below.refl _ _).grown hgr bw.size (fun b hb => (hown.lt b hb).1))
    · have e : List.replicate (n + k) (Value.string M) ++ [.string M] = List.replicate (n + (k + 1)) (.string M) := by rw [← Nat.add_assoc, List.replicate_succ']
      rw [← e]
      exact hown'
/-- Within growText: the Book, the block of h, the first list's long one. -/
def GrowI (w0 : World) (gk gt cap ga gb n : Nat) (va : Value) (A B : List ByteArray) (q g m : Nat) (w : World) : Prop :=
  Pz w0 gk gt cap ga gb n va (.slice none 0 0) A B w ∧ w.heap[q]? = some (.cells (heldA g n (.slice none 0 0) m) 72 (0, 0))
section
variable {w0 w w' : World} {gk gt cap ga gb n : Nat} {va : Value} {A B : List ByteArray} {q g m : Nat}
theorem GrowI.go (h : GrowI w0 gk gt cap ga gb n va A B q g m w) (hb : Below w.heap.size w w') : GrowI w0 gk gt cap ga gb n va A B q g m w' :=
  ⟨h.1.go hb, (hb.block q (row_lt h.2)).trans h.2⟩
theorem GrowI.c0 (h : GrowI w0 gk gt cap ga gb n va A B q g m w) : w.cell? ⟨q, 0, none⟩ = some (.slice (some ⟨g, 0, none⟩) n n) := row_cell h.2 rfl
theorem GrowI.c2 (h : GrowI w0 gk gt cap ga gb n va A B q g m w) : w.cell? ⟨q, 2, none⟩ = some (.int .i64 m) := row_cell h.2 rfl
end
/-- What stands when i lists have grown. -/
def GrowO (w0 : World) (gk gt cap ga gb n : Nat) (i : Nat) (w : World) : Prop :=
  ∃ va vb, Pz w0 gk gt cap ga gb n va vb (List.replicate n (mkT 1)) (List.replicate n (mkT 2)) w ∧ (if 0 < i then LongOk w0 gt n (mkT 1) va w else va = .slice none 0 0) ∧ (if 1 < i then LongOk w0 gt n (mkT 2) vb w else vb = .slice none 0 0)
def GrowR (w0 : World) (gk gt cap ga gb n : Nat) (e : Ending) (w' : World) : Prop := e = .returned (.tuple #[]) ∧
  ∃ va vb, Pz w0 gk gt cap ga gb n va vb (List.replicate n (mkT 1)) (List.replicate n (mkT 2)) w' ∧ LongOk w0 gt n (mkT 1) va w' ∧ LongOk w0 gt n (mkT 2) vb w'
theorem long_fin {w0 w2 w : World} {gt g n k : Nat} {M : ByteArray} {v : Value} (h : LInv w2 g n M k v w) (hk : k = 40) (hb : w0.heap.size ≤ w2.heap.size) (ht : gt < w2.heap.size) : LongOk w0 gt n M v w := by
  subst hk
  obtain ⟨_, ⟨h0, _⟩ | ⟨_, h2⟩⟩ := h
  · omega
  · obtain ⟨g, cap, rfl, hg, _⟩ := h2.form (by omega)
    exact ⟨g, cap, rfl, by omega, ownsRow_mono h2 hb⟩
set_option maxHeartbeats 4000000 in
set_option maxRecDepth 100000 in
theorem growText_any (w0 w : World) (gk gt cap ga gb n : Nat) (T0 : Tb w0) (d : Dis w0.heap.size gk gt ga gb) (hn : n ≤ 2097152) (h1n : 1 ≤ n) (h : Pz w0 gk gt cap ga gb n (.slice none 0 0) (.slice none 0 0) (List.replicate n (mkT 1)) (List.replicate n (mkT 2)) w) :
    Calls Tryd.prog 40 #[.pointer (some ⟨gk, 0, none⟩)] w (GrowR w0 gk gt cap ga gb n) := by
  have HT0 := hid T0
  have HD := hid d
  have H0 : Hid (GrowO w0 gk gt cap ga gb n 0 w) := hid ⟨_, _, h, rfl, rfl⟩
  clear T0 d h
  go_enter Tryd.func40, Tryd.ntmps40
  go_wp2
  go_loopw [2] (fun iv wr => ∃ i : Nat, i ≤ 2 ∧ iv = .int .i64 i ∧ Hid (GrowO w0 gk gt cap ga gb n i wr)) (fun iv _ => 2 - (RowKit.intOf iv).toNat)
  case atStart => exact ⟨0, by omega, rfl, H0⟩
  case round =>
    obtain ⟨i, hi, rfl, hp⟩ := hrel
    obtain rfl | rfl | rfl : i = 0 ∨ i = 1 ∨ i = 2 := by omega
    · have HP : Hid (Pz w0 gk gt cap ga gb n (.slice none 0 0) (.slice none 0 0) (List.replicate n (mkT 1)) (List.replicate n (mkT 2)) wr) := hid (by
        obtain ⟨va, vb, h, rfl, rfl⟩ := hp.out
        exact h)
      clear hp hi
      have c3 := HP.out.bk.cell (k := 3) (v := .slice (some ⟨gt, 0, none⟩) 2 cap) rfl
      have hr := HP.out.rangeA
      go_upto_region 4 with (first
        | (refine wpList_load_mid rfl 72 _ rfl gt 0 rfl (heldC ga n (.slice none 0 0) 1) _ hr Tryd.underlying72 rfl (by kernel_rfl) ?_)
        | (refine wpList_store_row rfl 72 _ _ rfl wr.heap.size (heldA ga n (.slice none 0 0) 1) rfl rfl _ _ (heap_alloc_new wr _) (infoHS _ rfl) rfl (heldA_one _ _ _) ?_))
      have hq : ga < wr.heap.size := HP.out.ta.lt
      have hbel : Below wr.heap.size wr ((wr.alloc (.cells #[.slice none 0 0, .slice none 0 0, .int .i64 0] 72)).setRow wr.heap.size (heldA ga n (.slice none 0 0) 1)) := laid_belowB _ _ _ _
      have HI : Hid (GrowI w0 gk gt cap ga gb n (.slice none 0 0) (List.replicate n (mkT 1)) (List.replicate n (mkT 2)) wr.heap.size ga 1 ((wr.alloc (.cells #[.slice none 0 0, .slice none 0 0, .int .i64 0] 72)).setRow wr.heap.size (heldA ga n (.slice none 0 0) 1))) :=
        hid ⟨HP.out.go hbel, laid_rowB _ _ _ _⟩
      have hg2 : ga < ((wr.alloc (.cells #[.slice none 0 0, .slice none 0 0, .int .i64 0] 72)).setRow wr.heap.size (heldA ga n (.slice none 0 0) 1)).heap.size := by have := hbel.size; omega
      have hw0 : w0.heap.size ≤ ((wr.alloc (.cells #[.slice none 0 0, .slice none 0 0, .int .i64 0] 72)).setRow wr.heap.size (heldA ga n (.slice none 0 0) 1)).heap.size := by have := hbel.size; have := HP.out.below.size; omega
      have Hg2 := hid hg2
      have Hw0 := hid hw0
      clear c3 hr hbel hq hg2 hw0
      generalize World.setRow _ wr.heap.size _ = w2 at *
      obtain ⟨q, hqq⟩ : ∃ q, q = wr.heap.size := ⟨_, rfl⟩
      rw [← hqq] at HI ⊢
      clear hqq HP
      have c0 := HI.out.c0
      obtain ⟨M, hM⟩ : ∃ M, M = mkT 1 := ⟨_, rfl⟩
      have HM : Hid (∀ w, Tb w → Calls Tryd.prog 69 #[.int .i64 1] w fun e w' => e = .returned (.string M) ∧ Below w.heap.size w w') := hid (by rw [hM]; exact fun w T => markText_any 1 (by omega) w T)
      have HME := hid hM
      clear hM
      go_wp2
      clear c0
      go_loopw [4, 5] (fun lv kv wi => ∃ k : Nat, k ≤ 40 ∧ kv = .int .i64 k ∧ Hid (LInv w2 ga n M k lv wi)) (fun _ kv _ => 40 - (RowKit.intOf kv).toNat)
      case atStart => exact ⟨0, by omega, rfl, hid ⟨Below.refl _ _, .inl ⟨rfl, rfl⟩⟩⟩
      case round =>
        obtain ⟨k, hk, rfl, hh⟩ := hrel
        have HI2 := hid (HI.out.go hh.out.1)
        obtain ⟨la, lcap, hlv⟩ := hh.out.form h1n
        subst hlv
        by_cases hlt : k < 40
        · have hk40 : (k : Int) < 40 := by omega
          have c2 := HI2.out.c2
          go_wp2_with fail
          refine (HM.out _ (HT0.out.below HI2.out.1.below)).mono ?_
          rintro e w5 ⟨rfl, hb5⟩
          have H5 := hid (hh.out.go hb5)
          have HI5 := hid (HI2.out.go hb5)
          clear hb5 c2
          go_wp2_with (at_builtin; refine appL rfl _ _ rfl w2 ga n k M (.slice (some la) (n + k) lcap) rfl H5.out (by rw [HME.out]; exact HI5.out.1.ta) rfl hn (by omega) ?_; intro v' w6 happ; have H6 := hid happ; clear happ)
          refine ⟨⟨k + 1, by omega, by go_num, hid H6.out⟩, ?_⟩
          simp only [RowKit.intOf]; omega
        · obtain rfl : k = 40 := by omega
          have c3 := HI2.out.1.bk.cell (k := 3) (v := .slice (some ⟨gt, 0, none⟩) 2 cap) rfl
          have cl := (HI2.out.1.own.cellAt 1 (by omega)).trans (show _ = some (.slice none 0 0) from rfl)
          have fl := HI2.out.1.own.frozenAt 1
          have hX := long_fin (w0 := w0) (gt := gt) hh.out rfl Hw0.out (by have := own_lt HI.out.1.own; exact this)
          rw [HME.out] at hX
          have HX := hid (hX.set 1 (.slice (some la) (n + 40) lcap))
          have HN := hid (HI2.out.1.longA HD.out (.slice (some la) (n + 40) lcap))
          clear hX
          go_wp2
          go_roundw
          case rel => exact ⟨1, by omega, rfl, hid ⟨_, _, HN.out, HX.out, rfl⟩⟩
          case measure => simp only [RowKit.intOf]; omega
    · obtain ⟨va, HP, HLa⟩ : ∃ va, Hid (Pz w0 gk gt cap ga gb n va (.slice none 0 0) (List.replicate n (mkT 1)) (List.replicate n (mkT 2)) wr) ∧ Hid (LongOk w0 gt n (mkT 1) va wr) := by
        obtain ⟨va, vb, h, hl, rfl⟩ := hp.out
        exact ⟨va, hid h, hid hl⟩
      clear hp hi
      have c3 := HP.out.bk.cell (k := 3) (v := .slice (some ⟨gt, 0, none⟩) 2 cap) rfl
      have hr := HP.out.rangeB
      go_upto_region 4 with (first
        | (refine wpList_load_mid rfl 72 _ rfl gt 3 rfl (heldC gb n (.slice none 0 0) 2) _ hr Tryd.underlying72 rfl (by kernel_rfl) ?_)
        | (refine wpList_store_row rfl 72 _ _ rfl wr.heap.size (heldA gb n (.slice none 0 0) 2) rfl rfl _ _ (heap_alloc_new wr _) (infoHS _ rfl) rfl (heldA_one _ _ _) ?_))
      have hq : gb < wr.heap.size := HP.out.tb.lt
      have hbel : Below wr.heap.size wr ((wr.alloc (.cells #[.slice none 0 0, .slice none 0 0, .int .i64 0] 72)).setRow wr.heap.size (heldA gb n (.slice none 0 0) 2)) := laid_belowB _ _ _ _
      have HI : Hid (GrowI w0 gk gt cap ga gb n va (List.replicate n (mkT 1)) (List.replicate n (mkT 2)) wr.heap.size gb 2 ((wr.alloc (.cells #[.slice none 0 0, .slice none 0 0, .int .i64 0] 72)).setRow wr.heap.size (heldA gb n (.slice none 0 0) 2))) :=
        hid ⟨HP.out.go hbel, laid_rowB _ _ _ _⟩
      have HL2 := hid (HLa.out.go hbel)
      have hg2 : gb < ((wr.alloc (.cells #[.slice none 0 0, .slice none 0 0, .int .i64 0] 72)).setRow wr.heap.size (heldA gb n (.slice none 0 0) 2)).heap.size := by have := hbel.size; omega
      have hw0 : w0.heap.size ≤ ((wr.alloc (.cells #[.slice none 0 0, .slice none 0 0, .int .i64 0] 72)).setRow wr.heap.size (heldA gb n (.slice none 0 0) 2)).heap.size := by have := hbel.size; have := HP.out.below.size; omega
      have Hg2 := hid hg2
      have Hw0 := hid hw0
      clear c3 hr hbel hq hg2 hw0
      generalize World.setRow _ wr.heap.size _ = w2 at *
      obtain ⟨q, hqq⟩ : ∃ q, q = wr.heap.size := ⟨_, rfl⟩
      rw [← hqq] at HI ⊢
      clear hqq HP
      have c0 := HI.out.c0
      obtain ⟨M, hM⟩ : ∃ M, M = mkT 2 := ⟨_, rfl⟩
      have HM : Hid (∀ w, Tb w → Calls Tryd.prog 69 #[.int .i64 2] w fun e w' => e = .returned (.string M) ∧ Below w.heap.size w w') := hid (by rw [hM]; exact fun w T => markText_any 2 (by omega) w T)
      have HME := hid hM
      clear hM
      go_wp2
      clear c0
      go_loopw [4, 5] (fun lv kv wi => ∃ k : Nat, k ≤ 40 ∧ kv = .int .i64 k ∧ Hid (LInv w2 gb n M k lv wi)) (fun _ kv _ => 40 - (RowKit.intOf kv).toNat)
      case atStart => exact ⟨0, by omega, rfl, hid ⟨Below.refl _ _, .inl ⟨rfl, rfl⟩⟩⟩
      case round =>
        obtain ⟨k, hk, rfl, hh⟩ := hrel
        have HI2 := hid (HI.out.go hh.out.1)
        obtain ⟨la, lcap, hlv⟩ := hh.out.form h1n
        subst hlv
        by_cases hlt : k < 40
        · have hk40 : (k : Int) < 40 := by omega
          have c2 := HI2.out.c2
          go_wp2_with fail
          refine (HM.out _ (HT0.out.below HI2.out.1.below)).mono ?_
          rintro e w5 ⟨rfl, hb5⟩
          have H5 := hid (hh.out.go hb5)
          have HI5 := hid (HI2.out.go hb5)
          clear hb5 c2
          go_wp2_with (at_builtin; refine appL rfl _ _ rfl w2 gb n k M (.slice (some la) (n + k) lcap) rfl H5.out (by rw [HME.out]; exact HI5.out.1.tb) rfl hn (by omega) ?_; intro v' w6 happ; have H6 := hid happ; clear happ)
          refine ⟨⟨k + 1, by omega, by go_num, hid H6.out⟩, ?_⟩
          simp only [RowKit.intOf]; omega
        · obtain rfl : k = 40 := by omega
          have c3 := HI2.out.1.bk.cell (k := 3) (v := .slice (some ⟨gt, 0, none⟩) 2 cap) rfl
          have cl := (HI2.out.1.own.cellAt 4 (by omega)).trans (show _ = some (.slice none 0 0) from rfl)
          have fl := HI2.out.1.own.frozenAt 4
          have hX := long_fin (w0 := w0) (gt := gt) hh.out rfl Hw0.out (by have := own_lt HI.out.1.own; exact this)
          rw [HME.out] at hX
          have HX := hid (hX.set 4 (.slice (some la) (n + 40) lcap))
          have HN := hid (HI2.out.1.longB HD.out (.slice (some la) (n + 40) lcap))
          have HLx := hid ((HL2.out.go hh.out.1).set 4 (.slice (some la) (n + 40) lcap))
          clear hX
          go_wp2
          go_roundw
          case rel => exact ⟨2, by omega, rfl, hid ⟨_, _, HN.out, HLx.out, HX.out⟩⟩
          case measure => simp only [RowKit.intOf]; omega
    · obtain ⟨va, vb, hP, hla, hlb⟩ := hp.out
      have HF : Hid (GrowR w0 gk gt cap ga gb n (.returned (.tuple #[])) wr) := hid ⟨rfl, va, vb, hP, hla, hlb⟩
      have c3 := hP.bk.cell (k := 3) (v := .slice (some ⟨gt, 0, none⟩) 2 cap) rfl
      clear hP hla hlb hp hi
      go_wp2
      go_end0
      exact HF.out
end Go.Proofs.YtalinfpakmcobaaDoor
