/- Walk: footmanref04.Six. -/
import Derived.Test.YtiookngmgednjaaDoorSd6
namespace Go.Proofs.YtiookngmgednjaaDoor
open Go.RowKit Go.Lib Go.Proofs.Foot

theorem occ_two {l : List UInt8} {k : Nat} (h : k + 1 < l.length) : occAt l [58, 58] k = (l[k] == 58 && l[k + 1] == 58) := by
  unfold occAt
  rw [List.drop_eq_getElem_cons (by omega), List.drop_eq_getElem_cons h]
  simp only [List.isPrefixOf, Bool.and_true]
  rw [show ((58 : UInt8) == l[k]) = (l[k] == 58) from Bool.beq_comm, show ((58 : UInt8) == l[k + 1]) = (l[k + 1] == 58) from Bool.beq_comm]
/-- An address of the call's own, with its mark. -/
def AdrB (b : Bool) (w : World) (g : Nat) (R : List UInt8) : Prop := R.length = 16 ∧ w.heap[g]? = some (.cells (adrC b R) 24 (0, 0))
theorem AdrB.put {b : Bool} {w : World} {g : Nat} {R : List UInt8} (h : AdrB b w g R) (j : Nat) (c : UInt8) : AdrB b (w.setCell ⟨g, 1 + j, none⟩ (.int .u8 (c.toNat : Int))) g (R.set j c) := by
  refine ⟨by rw [List.length_set]; exact h.1, ?_⟩
  rw [heap_setCell_same w g (1 + j) _ _ (.int .u8 (c.toNat : Int)) h.2, adrC_set]
theorem AdrB.cell {b : Bool} {w : World} {g : Nat} {R : List UInt8} (h : AdrB b w g R) {j : Nat} (hj : j < 16) : ∃ v, w.cell? ⟨g, 1 + j, none⟩ = some v := by
  rw [cell_of_row _ _ _ _ _ _ h.2]
  have : 1 + j < (adrC b R).size := by simp [adrC, h.1]; omega
  exact ⟨_, Array.getElem?_eq_getElem this⟩
theorem AdrB.free {b : Bool} {w : World} {g : Nat} {R : List UInt8} (h : AdrB b w g R) (k : Nat) : w.frozen? ⟨g, k, none⟩ = false := frozen_of_heap h.2 k
theorem AdrB.lt {b : Bool} {w : World} {g : Nat} {R : List UInt8} (h : AdrB b w g R) : g < w.heap.size := (Array.getElem?_eq_some_iff.1 h.2).1
theorem AdrB.below {b : Bool} {w w' : World} {g B : Nat} {R : List UInt8} (h : AdrB b w g R) (hb : Below B w w') (hg : g < B) : AdrB b w' g R := ⟨h.1, (hb.block g hg).trans h.2⟩
theorem AdrB.touch {b : Bool} {w w' : World} {g : Nat} {S : Nat → Prop} {R : List UInt8} (h : AdrB b w g R) (hb : Touch S w w') (hg : ¬ S g) : AdrB b w' g R := ⟨h.1, (hb.block g h.lt hg).trans h.2⟩
theorem fill_step {x : List UInt8} {k : Nat} (hk : k < x.length) (hx : x.length ≤ 16) : (x.take k ++ noughts (16 - k)).set k x[k] = x.take (k + 1) ++ noughts (16 - (k + 1)) := by
  have hl : (x.take k).length = k := by rw [List.length_take]; omega
  rw [List.set_append_right _ _ (by omega), hl, Nat.sub_self]
  have e : noughts (16 - k) = 0 :: noughts (16 - (k + 1)) := by
    have e : 16 - k = (16 - (k + 1)) + 1 := by omega
    rw [e]; rfl
  rw [e, List.set_cons_zero, List.take_succ_eq_append_getElem hk, List.append_assoc]
  rfl
theorem fill_tail {p y : List UInt8} {j : Nat} (hj : j < y.length) (hp : p.length + y.length = 16) : (p ++ (y.take j ++ noughts (y.length - j))).set (16 - y.length + j) y[j] = p ++ (y.take (j + 1) ++ noughts (y.length - (j + 1))) := by
  have hl : (y.take j).length = j := by rw [List.length_take]; omega
  rw [List.set_append_right _ _ (by omega), List.set_append_right _ _ (by omega), hl, show 16 - y.length + j - p.length - j = 0 from by omega]
  have e : noughts (y.length - j) = 0 :: noughts (y.length - (j + 1)) := by
    have e : y.length - j = (y.length - (j + 1)) + 1 := by omega
    rw [e]; rfl
  rw [e, List.set_cons_zero, List.take_succ_eq_append_getElem hj, List.append_assoc]
  rfl
/-- The cells of a row, each with its block. -/
theorem row_byte {w : World} {base : Nat} {v : Value} {x : List UInt8} {ao : Option Addr} {n cap : Nat} (hown : w.ownsRow base 5 1 v x.length (byteCells x)) (hv : v = .slice ao n cap) {k : Nat} (hk : k < x.length) : ∃ g, ao = some ⟨g, 0, none⟩ ∧ w.cell? ⟨g, k, none⟩ = some (.int .u8 ((x[k]).toNat : Int)) := by
  rcases hown.2 with ⟨hv2, h⟩ | ⟨g, cap2, cur, hv2, hb, hg, hnc, hcm, hcs, htake⟩
  · omega
  · have hv3 := hv.symm.trans hv2
    injection hv3 with h1 h2 h3
    refine ⟨g, h1, ?_⟩
    have h4 := hown.cells (g := g) (by rw [hv2]; rfl) k (.int .u8 ((x[k]).toNat : Int)) (by simp [byteCells, hk])
    have hadd : (⟨g, 0, none⟩ : Addr).add k = ⟨g, k, none⟩ := by unfold Addr.add; split <;> simp_all
    rwa [hadd] at h4
theorem cut_no {l : List UInt8} (h : Lib.index l [58, 58] = -1) : Lib.cut l [58, 58] = (l, [], false) := by
  unfold Lib.cut; rw [h, if_neg (by decide)]
theorem cut_yes {l : List UInt8} {p : Nat} (h : Lib.index l [58, 58] = (p : Int)) : Lib.cut l [58, 58] = (l.take p, l.drop (p + 2), true) := by
  unfold Lib.cut; rw [h, if_pos (by omega)]; rfl
/-- What the search has found when place k is reached. -/
def FindAt (l : List UInt8) (k : Nat) (at' : Int) : Prop := (at' = -1 ∧ NoOcc l [58, 58] k) ∨ ∃ p : Nat, at' = (p : Int) ∧ Lib.index l [58, 58] = (p : Int) ∧ p + 2 ≤ l.length
theorem FindAt.ways {l : List UInt8} {k : Nat} {a : Int} (h : FindAt l k a) : (k + 1 < l.length ∧ a = -1 ∧ NoOcc l [58, 58] k) ∨ (¬ k + 1 < l.length ∧ a = -1 ∧ Lib.index l [58, 58] = -1) ∨ (∃ p : Nat, a = (p : Int) ∧ Lib.index l [58, 58] = (p : Int) ∧ p + 2 ≤ l.length) := by
  rcases h with ⟨rfl, h⟩ | h
  · by_cases hk : k + 1 < l.length
    · exact .inl ⟨hk, rfl, h⟩
    · exact .inr (.inl ⟨hk, rfl, index_past (by decide) h (by show _ < k + 2; omega)⟩)
  · exact .inr (.inr h)
theorem AdrB.done {b : Bool} {w : World} {g : Nat} {R : List UInt8} (h : AdrB b w g R) : w.heap[g]? = some (.cells (adrC b R) 24 (0, 0)) := h.2
theorem noughts_add (a b : Nat) : noughts (a + b) = noughts a ++ noughts b := by
  simp only [noughts]
  exact List.replicate_append_replicate.symm
theorem sixOf_none1 (f : Bool) (b : Option (List UInt8)) : sixOf f none b = (false, noughts 16, 5) := by cases b <;> rfl
theorem sixOf_none2 (f : Bool) (a : Option (List UInt8)) : sixOf f a none = (false, noughts 16, 5) := by cases a <;> rfl
theorem sixOf_no {f : Bool} {x y : List UInt8} (h : ¬ ((f = false ∧ x.length + y.length = 16) ∨ (f = true ∧ x.length + y.length ≤ 14))) : sixOf f (some x) (some y) = (false, noughts 16, 5) := by rw [sixOf_some, if_neg h]
theorem sixOf_yes {f : Bool} {x y : List UInt8} (h : (f = false ∧ x.length + y.length = 16) ∨ (f = true ∧ x.length + y.length ≤ 14)) : sixOf f (some x) (some y) = (true, x ++ noughts (16 - x.length - y.length) ++ y, 0) := by rw [sixOf_some, if_pos h]
/-- What holds while bytes are set. -/
structure CopyAt (wp : World) (g : Nat) (R : List UInt8) (w : World) : Prop where
  touch : Touch (fun k => k = g) wp w
  adr : AdrB true w g R
theorem CopyAt.put {wp w : World} {g : Nat} {R : List UInt8} (h : CopyAt wp g R w) (j : Nat) (c : UInt8) : CopyAt wp g (R.set j c) (w.setCell ⟨g, 1 + j, none⟩ (.int .u8 (c.toNat : Int))) := ⟨h.touch.setCell (.inl rfl) _, h.adr.put j c⟩
set_option maxHeartbeats 4000000 in
set_option maxRecDepth 100000 in
theorem sixR_any (s : ByteArray) (hs : s.size ≤ 1048576) (w : World) :
    Calls Tryd.prog 17 #[.string s] w fun e w' => e = .returned (sixV (sixS s.data.toList)) ∧ Below w.heap.size w w' := by
  have hsl : s.data.toList.length = s.size := (Lib.size_eq s).symm
  have Hsl := hid hsl
  have B0 : Below w.heap.size w (w.alloc (.cells (adrC false (noughts 16)) 24)) := (Below.refl _ _).alloc (Nat.le_refl _) _
  have hg : AdrB false (w.alloc (.cells (adrC false (noughts 16)) 24)) w.heap.size (noughts 16) := ⟨rfl, heap_alloc_new _ _⟩
  have hz0 : (w.alloc (.cells (adrC false (noughts 16)) 24)).heap.size = w.heap.size + 1 := by simp
  have HB := hid B0
  have Hgr := hid hg
  have Hz0 := hid hz0
  clear B0 hg hz0 hsl
  go_enter Tryd.func17, Tryd.ntmps17
  go_wp2_with fail
  rw [← zero17]
  generalize w.alloc _ = wa at *
  go_loop [4, 5] (fun av iv => ∃ (k : Nat) (a : Int), k ≤ s.size ∧ iv = .int .i64 k ∧ av = .int .i64 a ∧ Hid (FindAt s.data.toList k a)) (fun _ iv => s.size - (RowKit.intOf iv).toNat)
  case atStart => exact ⟨0, -1, Nat.zero_le _, rfl, rfl, hid (.inl ⟨rfl, NoOcc.zero _ _⟩)⟩
  case round =>
    obtain ⟨k, a, hk, rfl, rfl, hfind⟩ := hrel
    obtain ⟨q, hq⟩ : ∃ q : Bool, (q = true ∧ k + 1 < s.size ∧ a = -1 ∧ NoOcc s.data.toList [58, 58] k) ∨ (q = false ∧ ((¬ k + 1 < s.size ∧ a = -1 ∧ Lib.index s.data.toList [58, 58] = -1) ∨ ∃ p : Nat, a = (p : Int) ∧ Lib.index s.data.toList [58, 58] = (p : Int) ∧ p + 2 ≤ s.size)) := by
      have h := hfind.out.ways
      rw [Hsl.out] at h
      rcases h with h | h | h
      · exact ⟨true, .inl ⟨rfl, h⟩⟩
      · exact ⟨false, .inr ⟨rfl, .inl h⟩⟩
      · exact ⟨false, .inr ⟨rfl, .inr h⟩⟩
    have Hq := hid hq
    clear hfind hq
    go_upto_region 3 with fail
    go_cut [24] (fun v wx => v = .bool q ∧ wa = wx)
    case first =>
      rcases Hq.out with ⟨hq, hk1, ha, _⟩ | ⟨hq, ⟨hk1, ha, _⟩ | ⟨p, ha, _⟩⟩
      · have hk2 : (k : Int) + 1 < (s.size : Int) := by omega
        have a0 : a < 0 := by omega
        have hqq := hid hq
        clear hq ha hk1
        go_wp2
        go_meet
        exact ⟨by rw [hqq.out]; first | done | rfl | (congr 1; exact decide_eq_true a0), rfl⟩
      · have hk2 : ¬ (k : Int) + 1 < (s.size : Int) := by omega
        have hqq := hid hq
        clear hq ha hk1
        go_wp2
        go_meet
        exact ⟨by rw [hqq.out]; first | done | rfl, rfl⟩
      · have a0 : ¬ a < 0 := by omega
        have hqq := hid hq
        clear hq ha
        by_cases hk2 : (k : Int) + 1 < (s.size : Int)
        all_goals
          go_wp2
          go_meet
          exact ⟨by rw [hqq.out]; first | done | rfl | (congr 1; exact decide_eq_false a0), rfl⟩
    case rest =>
      obtain ⟨rfl, rfl⟩ := hcut
      cases q with
      | true =>
        obtain ⟨hk1, ha, hno⟩ : k + 1 < s.size ∧ a = -1 ∧ NoOcc s.data.toList [58, 58] k := by
          rcases Hq.out with ⟨_, h⟩ | ⟨h, _⟩
          · exact h
          · cases h
        have h0 : k < s.size := by omega
        obtain ⟨c, hc⟩ : ∃ c, s[k]'h0 = c := ⟨_, rfl⟩
        obtain ⟨d, hd⟩ : ∃ d, s[k + 1]'hk1 = d := ⟨_, rfl⟩
        have hocc := occ_two (l := s.data.toList) (k := k) (by rw [Hsl.out]; exact hk1)
        have hocc2 : occAt s.data.toList [58, 58] k = (c == 58 && d == 58) := by rw [hocc, ← hc, ← hd]; rfl
        have hqe : ∀ x : UInt8, ((x.toNat : Int) == 58) = (x == 58) := by
          intro x
          rw [Bool.eq_iff_iff, beq_iff_eq, beq_iff_eq]
          constructor
          · intro h; exact UInt8.toNat.inj (by have : (58 : UInt8).toNat = 58 := rfl; omega)
          · intro h; rw [h]; rfl
        obtain ⟨q0, hq0⟩ : ∃ q0, (c == 58) = q0 := ⟨_, rfl⟩
        obtain ⟨q1, hq1⟩ : ∃ q1, (d == 58) = q1 := ⟨_, rfl⟩
        have e0 : ((c.toNat : Int) == 58) = q0 := by rw [hqe]; exact hq0
        have e1 : ((d.toNat : Int) == 58) = q1 := by rw [hqe]; exact hq1
        rw [hq0, hq1] at hocc2
        have Hyes := hid (show q0 = true → q1 = true → FindAt s.data.toList (k + 1) (k : Int) from fun h1 h2 => .inr ⟨k, rfl, index_hit hno (by rw [Hsl.out]; omega) (by rw [hocc2, h1, h2]; rfl), by rw [Hsl.out]; omega⟩)
        have Hno := hid (show (q0 && q1) = false → FindAt s.data.toList (k + 1) a from fun h => .inl ⟨ha, hno.succ (by rw [hocc2]; exact h)⟩)
        clear hocc hocc2 hno hqe hq0 hq1 ha Hq
        cases q0 <;> cases q1
        all_goals go_wp2
        · exact ⟨⟨k + 1, a, by omega, by go_num, rfl, hid (Hno.out rfl)⟩, by simp only [RowKit.intOf]; omega⟩
        · exact ⟨⟨k + 1, a, by omega, by go_num, rfl, hid (Hno.out rfl)⟩, by simp only [RowKit.intOf]; omega⟩
        · exact ⟨⟨k + 1, a, by omega, by go_num, rfl, hid (Hno.out rfl)⟩, by simp only [RowKit.intOf]; omega⟩
        · exact ⟨⟨k + 1, k, by omega, by go_num, rfl, hid (Hyes.out rfl rfl)⟩, by simp only [RowKit.intOf]; omega⟩
      | false =>
        obtain hways : ((¬ k + 1 < s.size ∧ a = -1 ∧ Lib.index s.data.toList [58, 58] = -1) ∨ ∃ p : Nat, a = (p : Int) ∧ Lib.index s.data.toList [58, 58] = (p : Int) ∧ p + 2 ≤ s.size) := by
          rcases Hq.out with ⟨h, _⟩ | ⟨_, h⟩
          · cases h
          · exact h
        have Hways := hid hways
        clear Hq hways hk
        go_upto_region 8 with fail
        rw [← true17]
        obtain ⟨g6, h6⟩ : ∃ g6, g6 = wa.heap.size := ⟨_, rfl⟩
        rw [← h6]
        have h6w : g6 = w.heap.size + 1 := by rw [h6]; exact Hz0.out
        have hbc : Below w.heap.size w (wa.alloc (.cells (adrC true (noughts 16)) 24)) := HB.out.alloc (by have := Hz0.out; omega) _
        have hgc : AdrB false (wa.alloc (.cells (adrC true (noughts 16)) 24)) w.heap.size (noughts 16) := ⟨rfl, heap_old4 Hgr.out.2⟩
        have hg6 : AdrB true (wa.alloc (.cells (adrC true (noughts 16)) 24)) g6 (noughts 16) := by rw [h6]; exact ⟨rfl, heap_alloc_new _ _⟩
        have hzc : (wa.alloc (.cells (adrC true (noughts 16)) 24)).heap.size = w.heap.size + 2 := by have := Hz0.out; simp; omega
        generalize wa.alloc _ = wc at *
        have Hbc := hid hbc
        have Hgc := hid hgc
        have Hg6 := hid hg6
        have H6w := hid h6w
        clear hbc hgc hg6 h6 h6w
        rcases Hways.out with ⟨_, ha, hix⟩ | ⟨p, ha, hix, hp⟩
        · have HF := hid (show sixS s.data.toList = sixOf false (takeP true s.data.toList) (some []) by unfold sixS; rw [cut_no hix]; rfl)
          have a0 : a < 0 := by omega
          have HP := hid (fun w => piecesR_any s true hs w)
          have hlen := fun x (h : takeP true s.data.toList = some x) => takeP_len h
          have Hlen := hid hlen
          clear hix ha Hways hlen
          go_wp2_with fail
          refine (HP.out _).mono ?_
          intro e wd hres
          rcases hres with ⟨hno, rfl, hb⟩ | ⟨x, v1, hx, rfl, hown, hb⟩
          · have HF2 := hid (show sixS s.data.toList = (false, noughts 16, 5) by rw [HF.out, hno]; rfl)
            have hgd := (Hgc.out.below hb (by omega)).done
            have Hbd := hid (Hbc.out.trans (hb.mono (by omega)))
            clear hb hno
            go_wp2_with (refine wpList_store_row rfl 24 _ _ rfl w.heap.size (adrC false (noughts 16)) rfl rfl _ _ hgd (infoAdr (noughts 16) rfl false) rfl (adr_one _ _) ?_)
            refine bodyPost_ret (v := sixV (false, noughts 16, 5)) (results_row2 (p := 2) (u := 3) rfl _ _ w.heap.size _ (adrC false (noughts 16)) _ _ rfl (setRow_heap wd w.heap.size _ (adrC false (noughts 16)) _ _ hgd) Tryd.underlying24 rfl (infoAdr (noughts 16) rfl false)) rfl ⟨by rw [HF2.out], below_setRow Hbd.out (Nat.le_refl _) _⟩
          · obtain ⟨ao, cap, hv1⟩ := slice_of_row hown
            obtain ⟨n, hn⟩ : ∃ n, n = x.length := ⟨_, rfl⟩
            have Hown := hid hown
            have hd0 := Hgc.out.below hb (by omega)
            have hd6 := Hg6.out.below hb (by have := H6w.out; omega)
            have hgd := hd0.done
            have Hd0 := hid hd0
            have Hd6 := hid hd6
            have Hbd := hid (Hbc.out.trans (hb.mono (by omega)))
            have Hn := hid hn
            have hxe := HF.out
            rw [hx] at hxe
            have HF1 := hid hxe
            rw [← hn] at hv1
            subst hv1
            clear hb hn hown hd0 hd6 hx hxe HF
            by_cases h16 : n = 16
            · have h16' : ((n : Int) != 16) = false := by rw [bne_eq_false_iff_eq]; omega
              have HF2 := hid (show sixS s.data.toList = (true, x, 0) by
                rw [HF1.out, sixOf_yes (.inl ⟨rfl, by rw [← Hn.out]; exact h16⟩), ← Hn.out, h16]
                simp [noughts])
              have Hl := hid (show x.length = 16 by rw [← Hn.out]; exact h16)
              have HC17 := hid (show (17 : Nat) = (adrC true x).size by rw [adr_size, Hl.out])
              have H16 := hid h16
              clear h16 HF1
              go_wp2_with fail
              go_loopw [9] (fun iv wr => ∃ k : Nat, k ≤ 16 ∧ iv = .int .i64 k ∧ Hid (CopyAt wd g6 (x.take k ++ noughts (16 - k)) wr)) (fun iv _ => 16 - (RowKit.intOf iv).toNat)
              case atStart => exact ⟨0, Nat.zero_le _, rfl, hid ⟨Touch.refl _ _, by simpa using Hd6.out⟩⟩
              case round =>
                obtain ⟨k, hk, rfl, hh⟩ := hrel
                have hcp := hh.out
                clear hh
                by_cases hlt : k < 16
                · have hkx : k < x.length := by rw [Hl.out]; exact hlt
                  obtain ⟨g, hgo, hcell⟩ := row_byte (hcp.touch.own Hown.out (fun j hj h => by have := (Hown.out.lt j hj).1; have := H6w.out; omega)) rfl hkx
                  subst hgo
                  have hput := hcp.put k x[k]
                  rw [fill_step hkx (by rw [Hl.out]; exact Nat.le_refl _)] at hput
                  obtain ⟨c, hc⟩ : ∃ c, x[k] = c := ⟨_, rfl⟩
                  rw [hc] at hcell hput
                  obtain ⟨old, hold⟩ := hcp.adr.cell hlt
                  have hfr := hcp.adr.free (1 + k)
                  have Hput := hid hput
                  have kn : (k : Int) < (n : Int) := by have := H16.out; omega
                  have k16 : (k : Int) < 16 := by omega
                  clear hput hc hcp hkx
                  go_wp2
                  exact ⟨⟨k + 1, by omega, by go_num, Hput⟩, by simp only [RowKit.intOf]; omega⟩
                · obtain rfl : k = 16 := by omega
                  have e16 : x.take 16 ++ noughts (16 - 16) = x := by
                    rw [List.take_of_length_le (by rw [Hl.out]; exact Nat.le_refl _), Nat.sub_self]
                    show x ++ [] = x
                    rw [List.append_nil]
                  rw [e16] at hcp
                  have h6r := hcp.adr.done
                  have hgr := (Hd0.out.touch hcp.touch (by have := H6w.out; omega)).done
                  have Hbr := hid (Hbd.out.trans (hcp.touch.below (B := w.heap.size) (fun j hj => by have := H6w.out; omega) Hbd.out.size))
                  clear hcp e16
                  go_wp2_with (first
                    | (refine wpList_load_row rfl 24 _ rfl g6 rfl _ _ _ _ h6r Tryd.underlying24 rfl (infoAdr x Hl.out true) ?_)
                    | (refine wpList_store_row rfl 24 _ _ rfl w.heap.size (adrC true x) rfl rfl _ _ hgr (infoAdr x Hl.out true) HC17.out (adr_one _ _) ?_))
                  refine bodyPost_ret (v := sixV (true, x, 0)) (results_row2 (p := 2) (u := 3) rfl _ _ w.heap.size _ (adrC true x) _ _ rfl (setRow_heap wr w.heap.size _ (adrC true x) _ _ hgr) Tryd.underlying24 rfl (infoAdr x Hl.out true)) rfl ⟨by rw [HF2.out], below_setRow Hbr.out (Nat.le_refl _) _⟩
            · have h16' : ((n : Int) != 16) = true := by rw [bne_iff_ne]; omega
              have HF2 := hid (show sixS s.data.toList = (false, noughts 16, 5) by
                rw [HF1.out, sixOf_no]
                rintro (⟨_, h⟩ | ⟨h, _⟩)
                · exact h16 (by rw [Hn.out]; exact h)
                · cases h)
              clear h16 HF1
              go_wp2_with (refine wpList_store_row rfl 24 _ _ rfl w.heap.size (adrC false (noughts 16)) rfl rfl _ _ hgd (infoAdr (noughts 16) rfl false) rfl (adr_one _ _) ?_)
              refine bodyPost_ret (v := sixV (false, noughts 16, 5)) (results_row2 (p := 2) (u := 3) rfl _ _ w.heap.size _ (adrC false (noughts 16)) _ _ rfl (setRow_heap wd w.heap.size _ (adrC false (noughts 16)) _ _ hgd) Tryd.underlying24 rfl (infoAdr (noughts 16) rfl false)) rfl ⟨by rw [HF2.out], below_setRow Hbd.out (Nat.le_refl _) _⟩
        · subst ha
          obtain ⟨T1, hT1⟩ : ∃ T1, T1 = s.extract 0 p := ⟨_, rfl⟩
          obtain ⟨T2, hT2⟩ : ∃ T2, T2 = s.extract (p + 2) s.size := ⟨_, rfl⟩
          have hl1 : T1.data.toList = s.data.toList.take p := by rw [hT1, extract_eq]; simp
          have hl2 : T2.data.toList = s.data.toList.drop (p + 2) := by rw [hT2, ext_from]
          have hz1 : T1.size ≤ 1048576 := by rw [Lib.size_eq, hl1, List.length_take]; omega
          have hz2 : T2.size ≤ 1048576 := by rw [Lib.size_eq, hl2, List.length_drop, Hsl.out]; omega
          have HF := hid (show sixS s.data.toList = sixOf true (takeP false T1.data.toList) (takeP true T2.data.toList) by unfold sixS; rw [cut_yes hix, hl1, hl2]; rfl)
          have a0 : ¬ (p : Int) < 0 := by omega
          have HP1 := hid (fun w => piecesR_any T1 false hz1 w)
          have HP2 := hid (fun w => piecesR_any T2 true hz2 w)
          have HT1 := hid hT1
          have HT2 := hid hT2
          clear hix Hways hl1 hl2 hT1 hT2
          go_wp2_with fail
          rw [← HT1.out]
          refine (HP1.out _).mono ?_
          intro e wd hres
          rcases hres with ⟨hno, rfl, hb⟩ | ⟨x, v1, hx, rfl, hown, hb⟩
          · have HF2 := hid (show sixS s.data.toList = (false, noughts 16, 5) by rw [HF.out, hno, sixOf_none1])
            have Hd0 := hid (Hgc.out.below hb (by omega))
            have Hbd := hid (Hbc.out.trans (hb.mono (by omega)))
            have hzd := hb.size
            clear hb hno
            go_wp2_with fail
            rw [← HT2.out]
            refine (HP2.out _).mono ?_
            intro e we hres
            rcases hres with ⟨_, rfl, hb⟩ | ⟨y, v2, _, rfl, _, hb⟩
            all_goals
              have hge := (Hd0.out.below hb (by omega)).done
              have Hbe := hid (Hbd.out.trans (hb.mono Hbd.out.size))
              clear hb
              go_wp2_with (refine wpList_store_row rfl 24 _ _ rfl w.heap.size (adrC false (noughts 16)) rfl rfl _ _ hge (infoAdr (noughts 16) rfl false) rfl (adr_one _ _) ?_)
              refine bodyPost_ret (v := sixV (false, noughts 16, 5)) (results_row2 (p := 2) (u := 3) rfl _ _ w.heap.size _ (adrC false (noughts 16)) _ _ rfl (setRow_heap we w.heap.size _ (adrC false (noughts 16)) _ _ hge) Tryd.underlying24 rfl (infoAdr (noughts 16) rfl false)) rfl ⟨by rw [HF2.out], below_setRow Hbe.out (Nat.le_refl _) _⟩
          · obtain ⟨ao1, cap1, hv1⟩ := slice_of_row hown
            have Hown1 := hid hown
            have Hd0 := hid (Hgc.out.below hb (by omega))
            have Hd6 := hid (Hg6.out.below hb (by have := H6w.out; omega))
            have Hbd := hid (Hbc.out.trans (hb.mono (by omega)))
            have hzd := hb.size
            have Hx := hid hx
            have hxl := takeP_len hx
            rw [← Lib.size_eq] at hxl
            obtain ⟨xn, hxn⟩ : ∃ xn, xn = x.length := ⟨_, rfl⟩
            rw [← hxn] at hv1 hxl
            have Hxn := hid hxn
            subst hv1
            clear hb hown hx hxn
            go_wp2_with fail
            rw [← HT2.out]
            refine (HP2.out _).mono ?_
            intro e we hres
            rcases hres with ⟨hno, rfl, hb⟩ | ⟨y, v2, hy, rfl, hown, hb⟩
            · have HF2 := hid (show sixS s.data.toList = (false, noughts 16, 5) by rw [HF.out, hno, sixOf_none2])
              have hge := (Hd0.out.below hb (by omega)).done
              have Hbe := hid (Hbd.out.trans (hb.mono Hbd.out.size))
              clear hb hno
              go_wp2_with (refine wpList_store_row rfl 24 _ _ rfl w.heap.size (adrC false (noughts 16)) rfl rfl _ _ hge (infoAdr (noughts 16) rfl false) rfl (adr_one _ _) ?_)
              refine bodyPost_ret (v := sixV (false, noughts 16, 5)) (results_row2 (p := 2) (u := 3) rfl _ _ w.heap.size _ (adrC false (noughts 16)) _ _ rfl (setRow_heap we w.heap.size _ (adrC false (noughts 16)) _ _ hge) Tryd.underlying24 rfl (infoAdr (noughts 16) rfl false)) rfl ⟨by rw [HF2.out], below_setRow Hbe.out (Nat.le_refl _) _⟩
            · obtain ⟨ao2, cap2, hv2⟩ := slice_of_row hown
              have Hown2 := hid (ownsRow_mono hown (show wc.heap.size ≤ wd.heap.size by omega))
              have Hown1e := hid ((Touch.of_below (S := fun _ => False) hb).own Hown1.out (fun _ _ h => h))
              have hge := (Hd0.out.below hb (by omega)).done
              have He0 := hid (Hd0.out.below hb (by omega))
              have He6 := hid (Hd6.out.below hb (by have := H6w.out; omega))
              have Hbe := hid (Hbd.out.trans (hb.mono Hbd.out.size))
              have hyl := takeP_len hy
              rw [← Lib.size_eq] at hyl
              obtain ⟨yn, hyn⟩ : ∃ yn, yn = y.length := ⟨_, rfl⟩
              rw [← hyn] at hv2 hyl
              have Hyn := hid hyn
              have HF1 := hid (show sixS s.data.toList = sixOf true (some x) (some y) by rw [HF.out, Hx.out, hy])
              subst hv2
              clear hb hown hy hyn
              have q1 : IntKind.i64.wrap ((xn : Int) + (yn : Int)) = (xn : Int) + (yn : Int) := IntWalk.i64_in _ (by omega)
              by_cases h14 : xn + yn ≤ 14
              · have h14' : ¬ (xn : Int) + (yn : Int) > 14 := by omega
                have HF2 := hid (show sixS s.data.toList = (true, x ++ noughts (16 - xn - yn) ++ y, 0) by
                  rw [HF1.out, sixOf_yes (.inr ⟨rfl, by rw [← Hxn.out, ← Hyn.out]; exact h14⟩), ← Hxn.out, ← Hyn.out])
                go_wp2_with fail
                go_loopw [14] (fun iv wr => ∃ k : Nat, k ≤ xn ∧ iv = .int .i64 k ∧ Hid (CopyAt we g6 (x.take k ++ noughts (16 - k)) wr)) (fun iv _ => xn - (RowKit.intOf iv).toNat)
                case atStart => exact ⟨0, Nat.zero_le _, rfl, hid ⟨Touch.refl _ _, by simpa using He6.out⟩⟩
                case round =>
                  obtain ⟨k, hk, rfl, hh⟩ := hrel
                  have hcp := hh.out
                  clear hh
                  by_cases hlt : k < xn
                  · have hkx : k < x.length := by rw [← Hxn.out]; exact hlt
                    obtain ⟨g, hgo, hcell⟩ := row_byte (hcp.touch.own Hown1e.out (fun j hj h => by have := (Hown1e.out.lt j hj).1; have := H6w.out; omega)) rfl hkx
                    subst hgo
                    have hput := hcp.put k x[k]
                    rw [fill_step hkx (by rw [← Hxn.out]; omega)] at hput
                    obtain ⟨c, hc⟩ : ∃ c, x[k] = c := ⟨_, rfl⟩
                    rw [hc] at hcell hput
                    obtain ⟨old, hold⟩ := hcp.adr.cell (j := k) (by omega)
                    have hfr := hcp.adr.free (1 + k)
                    have Hput := hid hput
                    have kn : (k : Int) < (xn : Int) := by omega
                    have k16 : (k : Int) < 16 := by omega
                    clear hput hc hcp hkx
                    go_wp2
                    exact ⟨⟨k + 1, by omega, by go_num, Hput⟩, by simp only [RowKit.intOf]; omega⟩
                  · have hkx : k = xn := by omega
                    have e0 : x.take k ++ noughts (16 - k) = (x ++ noughts (16 - xn - yn)) ++ (y.take 0 ++ noughts (y.length - 0)) := by
                      rw [List.take_of_length_le (by rw [← Hxn.out]; omega), List.take_zero, List.nil_append, Nat.sub_zero, ← Hyn.out, hkx, List.append_assoc, ← noughts_add]
                      congr 2
                      omega
                    rw [e0] at hcp
                    have Hcp := hid hcp
                    obtain ⟨P0, hP0⟩ : ∃ P0, P0 = x ++ noughts (16 - xn - yn) := ⟨_, rfl⟩
                    have hP0l : P0.length + y.length = 16 := by rw [hP0, List.length_append, ← Hyn.out, ← Hxn.out]; simp [noughts]; omega
                    rw [← hP0] at Hcp HF2
                    have HPl := hid hP0l
                    obtain ⟨m, hm⟩ : ∃ m, m = 16 - yn := ⟨_, rfl⟩
                    have q2 : IntKind.i64.wrap (16 - (yn : Int)) = (m : Int) := by rw [IntWalk.i64_in _ (by omega)]; omega
                    have Hm := hid hm
                    have hkl : ¬ (k : Int) < (xn : Int) := by omega
                    clear hcp e0 hkx hP0 hP0l hm
                    go_wp2_with fail
                    go_loopw [15] (fun iv wr => ∃ j : Nat, j ≤ yn ∧ iv = .int .i64 j ∧ Hid (CopyAt we g6 (P0 ++ (y.take j ++ noughts (y.length - j))) wr)) (fun iv _ => yn - (RowKit.intOf iv).toNat)
                    case atStart => exact ⟨0, Nat.zero_le _, rfl, Hcp⟩
                    case round =>
                      obtain ⟨j, hj, rfl, hh⟩ := hrel
                      have hcp := hh.out
                      clear hh Hcp
                      by_cases hlt2 : j < yn
                      · have hjy : j < y.length := by rw [← Hyn.out]; exact hlt2
                        obtain ⟨g, hgo, hcell⟩ := row_byte (hcp.touch.own Hown2.out (fun j hj h => by have := (Hown2.out.lt j hj).1; have := H6w.out; omega)) rfl hjy
                        subst hgo
                        obtain ⟨t, ht⟩ : ∃ t, t = m + j := ⟨_, rfl⟩
                        have ht16 : t < 16 := by have := Hm.out; omega
                        have hput := hcp.put t y[j]
                        have et : t = 16 - y.length + j := by rw [← Hyn.out, ht, Hm.out]
                        have hR : (P0 ++ (y.take j ++ noughts (y.length - j))).set t y[j] = P0 ++ (y.take (j + 1) ++ noughts (y.length - (j + 1))) := by rw [et]; exact fill_tail hjy HPl.out
                        rw [hR] at hput
                        obtain ⟨c, hc⟩ : ∃ c, y[j] = c := ⟨_, rfl⟩
                        rw [hc] at hcell hput
                        obtain ⟨old, hold⟩ := hcp.adr.cell (j := t) ht16
                        have hfr := hcp.adr.free (1 + t)
                        have Hput := hid hput
                        have kn : (j : Int) < (yn : Int) := by omega
                        have q3 : IntKind.i64.wrap ((m : Int) + (j : Int)) = (t : Int) := by rw [IntWalk.i64_in _ (by omega)]; omega
                        have k16 : (t : Int) < 16 := by omega
                        have Ht := hid ht
                        clear hput hc hcp hjy et hR ht
                        go_wp2
                        exact ⟨⟨j + 1, by omega, by go_num, Hput⟩, by simp only [RowKit.intOf]; omega⟩
                      · have e16 : P0 ++ (y.take j ++ noughts (y.length - j)) = P0 ++ y := by
                          rw [List.take_of_length_le (by rw [← Hyn.out]; omega), show y.length - j = 0 from by rw [← Hyn.out]; omega]
                          show P0 ++ (y ++ []) = _
                          rw [List.append_nil]
                        rw [e16] at hcp
                        obtain ⟨R, hR⟩ : ∃ R, R = P0 ++ y := ⟨_, rfl⟩
                        rw [← hR] at hcp HF2
                        have Hl := hid (show R.length = 16 by rw [hR, List.length_append]; exact HPl.out)
                        have HC17 := hid (show (17 : Nat) = (adrC true R).size by rw [adr_size, Hl.out])
                        have h6r := hcp.adr.done
                        have hgr := (He0.out.touch hcp.touch (by have := H6w.out; omega)).done
                        have Hbr := hid (Hbe.out.trans (hcp.touch.below (B := w.heap.size) (fun j hj => by have := H6w.out; omega) Hbe.out.size))
                        have hjl : ¬ (j : Int) < (yn : Int) := by omega
                        clear hcp e16 hR
                        go_wp2_with (first
                          | (refine wpList_load_row rfl 24 _ rfl g6 rfl _ _ _ _ h6r Tryd.underlying24 rfl (infoAdr R Hl.out true) ?_)
                          | (refine wpList_store_row rfl 24 _ _ rfl w.heap.size (adrC true R) rfl rfl _ _ hgr (infoAdr R Hl.out true) HC17.out (adr_one _ _) ?_))
                        refine bodyPost_ret (v := sixV (true, R, 0)) (results_row2 (p := 2) (u := 3) rfl _ _ w.heap.size _ (adrC true R) _ _ rfl (setRow_heap wr w.heap.size _ (adrC true R) _ _ hgr) Tryd.underlying24 rfl (infoAdr R Hl.out true)) rfl ⟨by rw [HF2.out], below_setRow Hbr.out (Nat.le_refl _) _⟩
              · have h14' : (xn : Int) + (yn : Int) > 14 := by omega
                have HF2 := hid (show sixS s.data.toList = (false, noughts 16, 5) by
                  rw [HF1.out, sixOf_no]
                  rintro (⟨h, _⟩ | ⟨_, h⟩)
                  · cases h
                  · exact h14 (by rw [Hxn.out, Hyn.out]; exact h))
                clear h14
                go_wp2_with (refine wpList_store_row rfl 24 _ _ rfl w.heap.size (adrC false (noughts 16)) rfl rfl _ _ hge (infoAdr (noughts 16) rfl false) rfl (adr_one _ _) ?_)
                refine bodyPost_ret (v := sixV (false, noughts 16, 5)) (results_row2 (p := 2) (u := 3) rfl _ _ w.heap.size _ (adrC false (noughts 16)) _ _ rfl (setRow_heap we w.heap.size _ (adrC false (noughts 16)) _ _ hge) Tryd.underlying24 rfl (infoAdr (noughts 16) rfl false)) rfl ⟨by rw [HF2.out], below_setRow Hbe.out (Nat.le_refl _) _⟩
end Go.Proofs.YtiookngmgednjaaDoor
