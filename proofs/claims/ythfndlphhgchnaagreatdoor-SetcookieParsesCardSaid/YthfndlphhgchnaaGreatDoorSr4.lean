/- Walk: the reference's Parse (chapter 10). -/
import Derived.Test.YthfndlphhgchnaaGreatDoorSr1
import Derived.Test.YthfndlphhgchnaaGreatDoorSr3
namespace Go.Proofs.YthfndlphhgchnaaGreatDoor
open Go.RowKit Go.Lib Go.Proofs.Foot

theorem pairR_is (s : ByteArray) (hs : s.size ≤ 16777216) (w : World) (N V : ByteArray) (o : Bool) (hN : nameP s.data.toList = N.data.toList) (hV : valP s.data.toList = V.data.toList) (ho : hasE s.data.toList = o) :
    Calls Tryz.prog 30 #[.string s] w fun e w' => e = .returned (.tuple #[.string N, .string V, .bool o]) ∧ Below w.heap.size w w' := by
  have := pairR_any s hs w
  rw [hN, hV, ho, tx_of, tx_of] at this
  exact this
/-- What the loop over the parts keeps. -/
structure RHead (w : World) (gp gt : Nat) (L : List ByteArray) (t : CkT) (wr : World) : Prop where
  res : Blk wr w.heap.size 24 (rowC {})
  ck : Blk wr gt 24 (rowC t)
  tx : TextsAt wr gp 0 L
  below : Below w.heap.size w wr
  lt : w.heap.size < gt
  ne : gp ≠ gt
  gp : gp < wr.heap.size
theorem RHead.go {w wr w' : World} {gp gt : Nat} {L : List ByteArray} {t : CkT} (h : RHead w gp gt L t wr) (hb : Below wr.heap.size wr w') : RHead w gp gt L t w' :=
  ⟨h.res.keep hb, h.ck.keep hb, h.tx.below hb h.gp, below_chain h.below hb, h.lt, h.ne, Nat.lt_of_lt_of_le h.gp hb.size⟩
theorem RHead.says {w wr w' : World} {gp gt : Nat} {L : List ByteArray} {t t' : CkT} (h : RHead w gp gt L t wr) (hb : Blk w' gt 24 (rowC t')) (hg : wr.grownBy w' (some gt)) : RHead w gp gt L t' w' := by
  have lt := h.lt
  have hr := h.res.lt
  refine ⟨(hg.block _ hr (fun e => by injection e with e; omega)).trans h.res, hb, fun j x hj => ?_, h.below.trans ?_, lt, h.ne, Nat.lt_of_lt_of_le h.gp hg.size⟩
  · have := h.tx j x hj
    rw [World.cell?_of_block (a := ⟨gp, 0 + j, none⟩) (hg.block gp h.gp (fun e => h.ne (by injection e)))]
    exact this
  · exact ⟨hg.os, hg.tape, hg.output, hg.size, fun k hk => hg.block k (by omega) (fun e => by injection e with e; omega)⟩
theorem parseR_long (s : ByteArray) (hs : 65536 < s.size) (w : World) : Calls Tryz.prog 15 #[.string s] w (TellsR s.data.toList w) := by
  have hP := hid (parseC_long (l := s.data.toList) (by rw [← Lib.size_eq]; exact hs))
  have hgt : (s.size : Int) > 65536 := by omega
  go_enter Tryz.func15, Tryz.ntmps15
  go_wp2_with (refine wpList_store_row rfl 24 _ _ rfl w.heap.size (rowC {}) rfl rfl _ _ (heap_alloc_new w _) (infoTd _) rfl (rowC_one _) ?_)
  exact bodyPost_ret (v := .tuple #[.agg (rowC {}), .int .i64 3]) (results_row2 (p := 2) (u := 3) rfl _ _ w.heap.size _ (rowC {}) _ _ rfl (setRow_heap _ w.heap.size _ (rowC {}) _ _ (heap_alloc_new w _)) Tryz.underlying24 rfl (infoTd _)) rfl
    (TellsR.mk hP.out (below_setRow ((Below.refl _ _).alloc (Nat.le_refl _) _) (Nat.le_refl _) _))
set_option maxHeartbeats 4000000 in
set_option maxRecDepth 100000 in
theorem parseR_short (s : ByteArray) (hs : ¬ 65536 < s.size) (w : World) : Calls Tryz.prog 15 #[.string s] w (TellsR s.data.toList w) := by
  have hgt : ¬ ((s.size : Int) > 65536) := by omega
  have hsl : s.data.toList.length = s.size := (Lib.size_eq s).symm
  have Hsl := hid hsl
  have hnl := hid (show ¬ 65536 < s.data.toList.length by omega)
  have hr0 : Blk (w.alloc (.cells #[.string ⟨#[]⟩, .string ⟨#[]⟩, .string ⟨#[]⟩, .string ⟨#[]⟩, .int .i64 0, .bool false, .int .i64 0, .bool false, .bool false, .bool false, .int .u8 0] 24)) w.heap.size 24 (rowC {}) := heap_alloc_new w _
  have hfin : Below w.heap.size w (w.alloc (.cells #[.string ⟨#[]⟩, .string ⟨#[]⟩, .string ⟨#[]⟩, .string ⟨#[]⟩, .int .i64 0, .bool false, .int .i64 0, .bool false, .bool false, .bool false, .int .u8 0] 24)) := (Below.refl w.heap.size w).alloc (Nat.le_refl _) _
  have Hr0 := hid hr0
  have Hfin := hid hfin
  clear hsl hr0 hfin
  go_enter Tryz.func15, Tryz.ntmps15
  go_wp2
  generalize World.alloc w _ = w2 at *
  go_loop [4] (fun i => ∃ k : Nat, k ≤ s.size ∧ i = .int .i64 k ∧ Hid ((s.data.toList.take k).any badB = false)) (fun i => s.size - (RowKit.intOf i).toNat)
  case atStart => exact ⟨0, Nat.zero_le _, rfl, hid rfl⟩
  case round =>
    obtain ⟨k, hk, rfl, ht⟩ := hrel
    by_cases hlt : k < s.size
    · have hl : k < s.data.toList.length := by rw [Hsl.out]; exact hlt
      obtain ⟨x, hx⟩ : ∃ x : UInt8, s[k]'hlt = x := ⟨_, rfl⟩
      have hxl : s.data.toList[k]'hl = x := hx
      have hx256 : (x.toNat : Int) < 256 := by have := UInt8.toNat_lt x; omega
      have Hyes := hid (fun h : badB x = true => any_at hl (by rw [hxl]; exact h))
      have Hno := hid (fun h : badB x = false => any_take_snoc hl ht.out (by rw [hxl]; exact h))
      clear hxl hl
      by_cases hbad : (x.toNat < 32 ∧ x.toNat ≠ 9) ∨ x.toNat = 127
      · have hb : badB x = true := by
          rcases hbad with ⟨a, b⟩ | a
          · exact badB_one a b
          · exact badB_127 a
        have HP := hid (parseC_bad hnl.out (Hyes.out hb))
        have hR := Hr0.out
        have Hb := hid hbad
        clear hbad hb
        rcases Hb.out with ⟨a, b⟩ | a
        · have d1 : (x.toNat : Int) < 32 := by omega
          have d2 : ((x.toNat : Int) == 9) = false := by rw [beq_eq_false_iff_ne]; omega
          have d3 : ((x.toNat : Int) != 9) = true := by rw [bne, d2]; rfl
          have d4 : ((x.toNat : Int) == 127) = false := by rw [beq_eq_false_iff_ne]; omega
          clear a b
          go_wp2_with (refine wpList_store_row rfl 24 _ _ rfl w.heap.size (rowC {}) rfl rfl _ _ hR (infoTd _) rfl (rowC_one _) ?_)
          exact bodyPost_ret (v := .tuple #[.agg (rowC {}), .int .i64 4]) (results_row2 (p := 2) (u := 3) rfl _ _ w.heap.size _ (rowC {}) _ _ rfl (setRow_heap _ w.heap.size _ (rowC {}) _ _ Hr0.out) Tryz.underlying24 rfl (infoTd _)) rfl
            (TellsR.mk HP.out (below_setRow Hfin.out (Nat.le_refl _) _))
        · have d2 : ((x.toNat : Int) == 127) = true := by rw [beq_iff_eq]; omega
          clear a
          go_wp2_with (refine wpList_store_row rfl 24 _ _ rfl w.heap.size (rowC {}) rfl rfl _ _ hR (infoTd _) rfl (rowC_one _) ?_)
          exact bodyPost_ret (v := .tuple #[.agg (rowC {}), .int .i64 4]) (results_row2 (p := 2) (u := 3) rfl _ _ w.heap.size _ (rowC {}) _ _ rfl (setRow_heap _ w.heap.size _ (rowC {}) _ _ Hr0.out) Tryz.underlying24 rfl (infoTd _)) rfl
            (TellsR.mk HP.out (below_setRow Hfin.out (Nat.le_refl _) _))
      · have Hn := hid (Hno.out (badB_no (by omega)))
        have e127 : ((x.toNat : Int) == 127) = false := by rw [beq_eq_false_iff_ne]; omega
        by_cases h9 : x.toNat = 9
        · have d1 : (x.toNat : Int) < 32 := by omega
          have d2 : ((x.toNat : Int) == 9) = true := by rw [beq_iff_eq]; omega
          have d3 : ((x.toNat : Int) != 9) = false := by rw [bne, d2]; rfl
          clear hbad h9
          go_wp2
          go_round
          case rel => exact ⟨k + 1, by omega, by go_num, Hn⟩
          case measure => simp [RowKit.intOf]; omega
        · have d1 : ¬ (x.toNat : Int) < 32 := by omega
          clear hbad h9
          go_wp2
          go_round
          case rel => exact ⟨k + 1, by omega, by go_num, Hn⟩
          case measure => simp [RowKit.intOf]; omega
    · have hclean : s.data.toList.any badB = false := by
        have := ht.out
        rwa [List.take_of_length_le (by rw [Hsl.out]; omega)] at this
      have Hclean := hid hclean
      clear hclean ht
      go_wp2_with fail
      refine (partsR_any s w2 (by omega)).mono ?_
      rintro e w3 ⟨L, gp, cap, hL, hL1, hLz, hLn, rfl, hcap, hTx, hgp1, hgp2, hb3⟩
      obtain ⟨P, hP⟩ : ∃ P, L[0]? = some P := ⟨_, List.getElem?_eq_getElem (by omega)⟩
      have hparts : cutAt 59 s.data.toList = P.data.toList :: (L.map (·.data.toList)).drop 1 := by
        rw [← hL]
        cases L with
        | nil => cases hP
        | cons x r => simp at hP; subst hP; rfl
      have hmem : P.data.toList ∈ cutAt 59 s.data.toList := by rw [hparts]; simp
      have hpl := cutAt_size 59 _ _ hmem
      rw [← Lib.size_eq, ← Lib.size_eq] at hpl
      have Hall := hid (show ∀ (j : Nat) Q, L[j]? = some Q → Q.size ≤ 65536 from fun j Q hj => by
        have hm : Q.data.toList ∈ cutAt 59 s.data.toList := by rw [← hL]; exact List.mem_map_of_mem (List.mem_of_getElem? hj)
        have := cutAt_size 59 _ _ hm
        rw [← Lib.size_eq, ← Lib.size_eq] at this; omega)
      obtain ⟨N, hN⟩ : ∃ N : ByteArray, nameP P.data.toList = N.data.toList := ⟨tx _, (tx_list _).symm⟩
      obtain ⟨V, hV⟩ : ∃ V : ByteArray, valP P.data.toList = V.data.toList := ⟨tx _, (tx_list _).symm⟩
      obtain ⟨o, ho⟩ : ∃ o, hasE P.data.toList = o := ⟨_, rfl⟩
      obtain ⟨N0, hN0⟩ : ∃ N0 : ByteArray, N0 = if o = true then N else ⟨#[]⟩ := ⟨_, rfl⟩
      obtain ⟨V0, hV0⟩ : ∃ V0 : ByteArray, V0 = if o = true then V else N := ⟨_, rfl⟩
      have hNl := name_len P.data.toList
      have hVl := val_len P.data.toList
      rw [hN, ← Lib.size_eq, ← Lib.size_eq] at hNl
      rw [hV, ← Lib.size_eq, ← Lib.size_eq] at hVl
      have eN0 : name0 P.data.toList = N0.data.toList := by unfold name0; rw [ho, hN0]; split <;> simp [hN]
      have eV0 : value0 P.data.toList = V0.data.toList := by unfold value0; rw [ho, hV0]; split <;> simp [hV, hN]
      have hN0s : N0.size ≤ 65536 := by
        rw [hN0]; split
        · omega
        · exact Nat.zero_le _
      have hV0s : V0.size ≤ 65536 := by rw [hV0]; split <;> omega
      have hgo := parseC_go hnl.out Hclean.out hparts
      have hst : startC P.data.toList ((L.map (·.data.toList)).drop 1) = if 4096 < N0.size + V0.size then ({}, 3) else if N0.data.toList = [] ∧ V0.data.toList = [] then ({}, 4) else (moreC { name := N0.data.toList, value := V0.data.toList } ((L.map (·.data.toList)).drop 1), 0) := by
        unfold startC
        rw [eN0, eV0, ← Lib.size_eq, ← Lib.size_eq]
      have Hgo := hid (hgo.trans hst)
      have HPr := hid (fun W => pairR_is P (by omega) W N V o hN hV ho)
      have Hb3 := hid (below_chain Hfin.out hb3)
      have Hr3 := hid (Hr0.out.keep hb3)
      have hcell : w3.cell? ⟨gp, 0, none⟩ = some (.string P) := by have := hTx 0 P hP; simpa using this
      have HTx := hid hTx
      have HL := hid hL
      have hL1' : (0 : Int) < (L.length : Int) := by omega
      have hgpw : w.heap.size < gp := by have := Hr0.out.lt; omega
      have hLm : (L.length : Int) ≤ 9223372036854775807 := by omega
      clear hparts hmem hpl hN hV ho hgo hst eN0 eV0 hNl hVl hb3 hTx hL hP hLz hgp1 hlt hk
      go_wp2_with fail
      have hz4 : (w3.alloc (.cells #[.string ⟨#[]⟩, .string ⟨#[]⟩, .string ⟨#[]⟩, .string ⟨#[]⟩, .int .i64 0, .bool false, .int .i64 0, .bool false, .bool false, .bool false, .int .u8 0] 24)).heap.size = w3.heap.size + 1 := by simp
      have hck4 : Blk (w3.alloc (.cells #[.string ⟨#[]⟩, .string ⟨#[]⟩, .string ⟨#[]⟩, .string ⟨#[]⟩, .int .i64 0, .bool false, .int .i64 0, .bool false, .bool false, .bool false, .int .u8 0] 24)) w3.heap.size 24 (rowC {}) := heap_alloc_new w3 _
      have hb4 : Below w3.heap.size w3 (w3.alloc (.cells #[.string ⟨#[]⟩, .string ⟨#[]⟩, .string ⟨#[]⟩, .string ⟨#[]⟩, .int .i64 0, .bool false, .int .i64 0, .bool false, .bool false, .bool false, .int .u8 0] 24)) := (Below.refl _ _).alloc (Nat.le_refl _) _
      have R4 : RHead w gp w3.heap.size L {} (w3.alloc (.cells #[.string ⟨#[]⟩, .string ⟨#[]⟩, .string ⟨#[]⟩, .string ⟨#[]⟩, .int .i64 0, .bool false, .int .i64 0, .bool false, .bool false, .bool false, .int .u8 0] 24)) :=
        ⟨Hr3.out.keep hb4, hck4, HTx.out.below hb4 hgp2, below_chain Hb3.out hb4, Hr3.out.lt, by omega, by rw [hz4]; omega⟩
      have HR4 := hid R4
      clear hz4 hck4 hb4 R4 hcell
      generalize World.alloc w3 _ = w4 at *
      obtain ⟨gt, hgt2⟩ : ∃ gt, gt = w3.heap.size := ⟨_, rfl⟩
      rw [← hgt2] at HR4 ⊢
      clear hgt2 Hr3 Hb3 HTx hgp2
      refine (HPr.out _).mono ?_
      rintro e w5 ⟨rfl, hb5⟩
      have HR5 := hid (HR4.out.go hb5)
      clear hb5
      go_upto_if 52 with fail
      go_cut [7, 8] (fun va vb wx => va = .string N0 ∧ vb = .string V0 ∧ w5 = wx)
      case first =>
        have HN0 := hid hN0
        have HV0 := hid hV0
        clear hN0 hV0
        cases o with
        | true =>
          go_wp2
          go_meet
          exact ⟨by rw [HN0.out]; rfl, by rw [HV0.out]; rfl, rfl⟩
        | false =>
          go_wp2
          go_meet
          exact ⟨by rw [HN0.out]; rfl, by rw [HV0.out]; rfl, rfl⟩
      case rest =>
        obtain ⟨rfl, rfl, rfl⟩ := hcut
        clear hN0 hV0
        have hR5 := HR5.out.res
        by_cases hbig : 4096 < N0.size + V0.size
        · have hgt2 : (N0.size : Int) + (V0.size : Int) > 4096 := by omega
          have HP := hid (Hgo.out.trans (if_pos hbig))
          clear hbig
          go_wp2_with (refine wpList_store_row rfl 24 _ _ rfl w.heap.size (rowC {}) rfl rfl _ _ hR5 (infoTd _) rfl (rowC_one _) ?_)
          exact bodyPost_ret (v := .tuple #[.agg (rowC {}), .int .i64 3]) (results_row2 (p := 2) (u := 3) rfl _ _ w.heap.size _ (rowC {}) _ _ rfl (setRow_heap _ w.heap.size _ (rowC {}) _ _ HR5.out.res) Tryz.underlying24 rfl (infoTd _)) rfl
            (TellsR.mk HP.out (below_setRow HR5.out.below (Nat.le_refl _) _))
        · have hgt2 : ¬ ((N0.size : Int) + (V0.size : Int) > 4096) := by omega
          have Hgo2 := hid (Hgo.out.trans (if_neg hbig))
          clear hbig
          by_cases hemp : N0.data.toList = [] ∧ V0.data.toList = []
          · have HP := hid (Hgo2.out.trans (if_pos hemp))
            obtain ⟨e1, e2⟩ := hemp
            obtain rfl := empty_is e1
            obtain rfl := empty_is e2
            clear e1 e2
            go_wp2_with (refine wpList_store_row rfl 24 _ _ rfl w.heap.size (rowC {}) rfl rfl _ _ hR5 (infoTd _) rfl (rowC_one _) ?_)
            exact bodyPost_ret (v := .tuple #[.agg (rowC {}), .int .i64 4]) (results_row2 (p := 2) (u := 3) rfl _ _ w.heap.size _ (rowC {}) _ _ rfl (setRow_heap _ w.heap.size _ (rowC {}) _ _ HR5.out.res) Tryz.underlying24 rfl (infoTd _)) rfl
              (TellsR.mk HP.out (below_setRow HR5.out.below (Nat.le_refl _) _))
          · have HP := hid (Hgo2.out.trans (if_neg hemp))
            obtain ⟨C0, hC0⟩ : ∃ C0 : CkT, C0 = { name := N0.data.toList, value := V0.data.toList } := ⟨_, rfl⟩
            rw [← hC0] at HP
            obtain ⟨fin, hfin⟩ : ∃ fin, fin = moreC C0 ((L.map (·.data.toList)).drop 1) := ⟨_, rfl⟩
            rw [← hfin] at HP
            have Hfin2 := hid hfin.symm
            have hw : N0.toList.isEmpty = false ∨ (N0 = ⟨#[]⟩ ∧ V0.toList.isEmpty = false) := by
              by_cases h : N0.data.toList = []
              · exact .inr ⟨empty_is h, empty_no (fun e => hemp ⟨h, e⟩)⟩
              · exact .inl (empty_no h)
            have Hw := hid hw
            have HC0 := hid hC0
            clear hemp hC0 hfin hw hR5
            go_upto_region 16 with fail
            go_cut [66] (fun va wx => va = .bool false ∧ w5 = wx)
            case first =>
              rcases Hw.out with a | ⟨rfl, a⟩
              all_goals
                go_wp2
                go_meet
                exact ⟨rfl, rfl⟩
            case rest =>
              obtain ⟨rfl, rfl⟩ := hcut
              have c0 : w5.cell? ⟨gt, 0, none⟩ = some (.string ⟨#[]⟩) := HR5.out.ck.cell rfl
              have f0 := HR5.out.ck.free 0
              have c1 : w5.cell? ⟨gt, 1, none⟩ = some (.string ⟨#[]⟩) := HR5.out.ck.cell rfl
              have f1 := HR5.out.ck.free 1
              have HR6 := hid (HR5.out.says (t' := C0) (((HR5.out.ck.put 0 (.string N0)).put 1 (.string V0)).eq (by rw [HC0.out]; unfold rowC; rw [tx_of, tx_of]; rfl)) (grown_set (grown_set (grown_refl _ _) _ _) _ _))
              clear Hw HR5 HR4 Hgo Hgo2
              go_wp2
              clear c0 f0 c1 f1
              go_loopw [10] (fun iv wr => ∃ (k : Nat) (t : CkT), 1 ≤ k ∧ k ≤ L.length ∧ iv = .int .i64 k ∧ Hid (RHead w gp gt L t wr ∧ moreC t ((L.map (·.data.toList)).drop k) = fin)) (fun iv _ => L.length - (RowKit.intOf iv).toNat)
              case atStart => exact ⟨1, C0, Nat.le_refl _, hL1, rfl, hid ⟨HR6.out, Hfin2.out⟩⟩
              case round =>
                obtain ⟨k, t, hk1, hk, rfl, hh⟩ := hrel
                obtain ⟨rh, heq⟩ := hh.out
                have RH := hid rh
                have Heq := hid heq
                clear rh heq hh
                by_cases hlt : k < L.length
                · obtain ⟨Q, hQ⟩ : ∃ Q, L[k]? = some Q := ⟨_, List.getElem?_eq_getElem hlt⟩
                  have hQs := Hall.out k Q hQ
                  have hcell : wr.cell? ⟨gp, k, none⟩ = some (.string Q) := by have := RH.out.tx k Q hQ; rwa [Nat.zero_add] at this
                  have hd : (L.map (·.data.toList)).drop k = Q.data.toList :: (L.map (·.data.toList)).drop (k + 1) := by
                    have hlen : k < (L.map (·.data.toList)).length := by rw [List.length_map]; exact hlt
                    rw [List.drop_eq_getElem_cons hlen]
                    congr 1
                    have h1 : (L.map (·.data.toList))[k]? = some Q.data.toList := by rw [List.getElem?_map, hQ]; rfl
                    rw [List.getElem?_eq_getElem hlen] at h1
                    exact Option.some.inj h1
                  have hf := Heq.out
                  rw [hd, moreC_cons] at hf
                  obtain ⟨N, hN⟩ : ∃ N : ByteArray, nameP Q.data.toList = N.data.toList := ⟨tx _, (tx_list _).symm⟩
                  obtain ⟨V, hV⟩ : ∃ V : ByteArray, valP Q.data.toList = V.data.toList := ⟨tx _, (tx_list _).symm⟩
                  obtain ⟨o, ho⟩ : ∃ o, hasE Q.data.toList = o := ⟨_, rfl⟩
                  rw [hN, hV] at hf
                  have hNl := name_len Q.data.toList
                  have hVl := val_len Q.data.toList
                  rw [hN, ← Lib.size_eq, ← Lib.size_eq] at hNl
                  rw [hV, ← Lib.size_eq, ← Lib.size_eq] at hVl
                  have HPr := hid (fun W => pairR_is Q (by omega) W N V o hN hV ho)
                  have HSy := hid (fun W (h : Blk W gt 24 (rowC t)) => saysR_any gt t N V (by omega) (by omega) W h)
                  have Hf := hid hf
                  have hki : (k : Int) < (L.length : Int) := by omega
                  clear hf hd hN hV ho hQ hNl hVl
                  go_wp2_with fail
                  refine (HPr.out _).mono ?_
                  rintro e wa ⟨rfl, hba⟩
                  have RHa := hid (RH.out.go hba)
                  clear hba hcell
                  by_cases hv : V.size ≤ 1024
                  · obtain ⟨t2, ht2⟩ : ∃ t2, t2 = applyC t N.data.toList V.data.toList := ⟨_, rfl⟩
                    have HK := HSy.out wa RHa.out.ck
                    rw [← apply_go (by rw [← Lib.size_eq]; exact hv), ← ht2] at HK
                    have HKK := hid HK
                    have Hf2 := hid (show moreC t2 ((L.map (·.data.toList)).drop (k + 1)) = fin by rw [ht2]; exact Hf.out)
                    clear ht2 HK
                    go_wp2_with fail
                    refine HKK.out.mono ?_
                    rintro e wd ⟨rfl, hblk, hgrow⟩
                    have RHd := hid (RHa.out.says hblk hgrow)
                    clear hblk hgrow
                    go_wp2
                    go_roundw
                    case rel => exact ⟨k + 1, t2, by omega, by omega, by go_num, hid ⟨RHd.out, Hf2.out⟩⟩
                    case measure => simp [RowKit.intOf]; omega
                  · have Ht := hid (show applyC t N.data.toList V.data.toList = t from if_neg (by rw [← Lib.size_eq]; exact hv))
                    go_wp2
                    go_roundw
                    case rel => exact ⟨k + 1, t, by omega, by omega, by go_num, hid ⟨RHa.out, by have := Hf.out; rw [Ht.out] at this; exact this⟩⟩
                    case measure => simp [RowKit.intOf]; omega
                · have hf := Heq.out
                  rw [List.drop_of_length_le (by rw [List.length_map]; omega), moreC_nil] at hf
                  subst hf
                  have hck := RH.out.ck
                  have hres := RH.out.res
                  go_wp2_with (first
                    | (refine wpList_load_row rfl 24 _ rfl gt rfl _ _ _ _ hck Tryz.underlying24 rfl (infoTd _) ?_)
                    | (refine wpList_store_row rfl 24 _ _ rfl w.heap.size (rowC t) rfl rfl _ _ hres (infoTd _) rfl (rowC_one _) ?_))
                  exact bodyPost_ret (v := .tuple #[.agg (rowC t), .int .i64 0]) (results_row2 (p := 2) (u := 3) rfl _ _ w.heap.size _ (rowC t) _ _ rfl (setRow_heap _ w.heap.size _ (rowC t) _ _ RH.out.res) Tryz.underlying24 rfl (infoTd _)) rfl
                    (TellsR.mk HP.out (below_setRow RH.out.below (Nat.le_refl _) _))
theorem parseR_any (s : ByteArray) (w : World) : Calls Tryz.prog 15 #[.string s] w (TellsR s.data.toList w) := by
  by_cases h : 65536 < s.size
  · exact parseR_long s h w
  · exact parseR_short s h w
end Go.Proofs.YthfndlphhgchnaaGreatDoor
