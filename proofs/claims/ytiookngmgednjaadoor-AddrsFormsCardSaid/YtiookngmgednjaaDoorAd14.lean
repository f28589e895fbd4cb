/- Walk: footmanref04.Four. -/
import Derived.Test.YtiookngmgednjaaDoorPts
namespace Go.Proofs.YtiookngmgednjaaDoor
open Go.RowKit Go.Lib Go.Proofs.Foot

/-- The last k bytes of a number, the greatest first. -/
def beB : Nat → Nat → List UInt8
  | 0, _ => []
  | k + 1, a => beB k (a / 256) ++ [UInt8.ofNat a]
theorem beB_len (k : Nat) : ∀ a, (beB k a).length = k := by
  induction k with
  | zero => intro a; rfl
  | succ k ih => intro a; rw [beB, List.length_append, ih]; rfl
theorem ofNat_mod {x y : Nat} (h : x % 256 = y % 256) : UInt8.ofNat x = UInt8.ofNat y := UInt8.toNat.inj (by rw [UInt8.toNat_ofNat', UInt8.toNat_ofNat']; exact h)
theorem beB_more {k a n : Nat} (hn : n < 256) : beB (k + 1) (a * 256 + n) = beB k a ++ [UInt8.ofNat n] := by
  rw [beB, show (a * 256 + n) / 256 = a from by omega, ofNat_mod (x := a * 256 + n) (y := n) (by omega)]
/-- A row in which the bytes 3, 2, .. have been set to the last bytes of a number (t of them). -/
def fillB (R : List UInt8) (n : Nat) : Nat → List UInt8
  | 0 => R
  | t + 1 => (fillB R n t).set (3 - t) (UInt8.ofNat (n / 256 ^ t % 256))
theorem fillB_len (R : List UInt8) (n t : Nat) : (fillB R n t).length = R.length := by
  induction t with
  | zero => rfl
  | succ t ih => rw [fillB, List.length_set, ih]
theorem fill_end {i a n : Nat} (hi : i ≤ 3) (hn : n < 256 ^ (4 - i)) : fillB (beB i a ++ noughts (16 - i)) n (4 - i) = fourBytes (a * 256 ^ (4 - i) + n) ++ noughts 12 := by
  have b0 : ∀ x : Nat, UInt8.ofNat (x % 256) = UInt8.ofNat x := fun x => ofNat_mod (by omega)
  have hc : i = 0 ∨ i = 1 ∨ i = 2 ∨ i = 3 := by omega
  rcases hc with rfl | rfl | rfl | rfl
  · have hn : n < 4294967296 := hn
    show [UInt8.ofNat (n / 16777216 % 256), UInt8.ofNat (n / 65536 % 256), UInt8.ofNat (n / 256 % 256), UInt8.ofNat (n / 1 % 256)] ++ noughts 12 = fourBytes (a * 4294967296 + n) ++ noughts 12
    unfold fourBytes
    rw [ofNat_mod (x := n / 16777216 % 256) (y := (a * 4294967296 + n) / 16777216) (by omega), ofNat_mod (x := n / 65536 % 256) (y := (a * 4294967296 + n) / 65536) (by omega), ofNat_mod (x := n / 256 % 256) (y := (a * 4294967296 + n) / 256) (by omega), ofNat_mod (x := n / 1 % 256) (y := a * 4294967296 + n) (by omega)]
  · have hn : n < 16777216 := hn
    show [UInt8.ofNat a, UInt8.ofNat (n / 65536 % 256), UInt8.ofNat (n / 256 % 256), UInt8.ofNat (n / 1 % 256)] ++ noughts 12 = fourBytes (a * 16777216 + n) ++ noughts 12
    unfold fourBytes
    rw [ofNat_mod (x := a) (y := (a * 16777216 + n) / 16777216) (by omega), ofNat_mod (x := n / 65536 % 256) (y := (a * 16777216 + n) / 65536) (by omega), ofNat_mod (x := n / 256 % 256) (y := (a * 16777216 + n) / 256) (by omega), ofNat_mod (x := n / 1 % 256) (y := a * 16777216 + n) (by omega)]
  · have hn : n < 65536 := hn
    show [UInt8.ofNat (a / 256), UInt8.ofNat a, UInt8.ofNat (n / 256 % 256), UInt8.ofNat (n / 1 % 256)] ++ noughts 12 = fourBytes (a * 65536 + n) ++ noughts 12
    unfold fourBytes
    rw [ofNat_mod (x := a / 256) (y := (a * 65536 + n) / 16777216) (by omega), ofNat_mod (x := a) (y := (a * 65536 + n) / 65536) (by omega), ofNat_mod (x := n / 256 % 256) (y := (a * 65536 + n) / 256) (by omega), ofNat_mod (x := n / 1 % 256) (y := a * 65536 + n) (by omega)]
  · have hn : n < 256 := hn
    show [UInt8.ofNat (a / 256 / 256), UInt8.ofNat (a / 256), UInt8.ofNat a, UInt8.ofNat (n / 1 % 256)] ++ noughts 12 = fourBytes (a * 256 + n) ++ noughts 12
    unfold fourBytes
    rw [ofNat_mod (x := a / 256 / 256) (y := (a * 256 + n) / 16777216) (by omega), ofNat_mod (x := a / 256) (y := (a * 256 + n) / 65536) (by omega), ofNat_mod (x := a) (y := (a * 256 + n) / 256) (by omega), ofNat_mod (x := n / 1 % 256) (y := a * 256 + n) (by omega)]
theorem adrC_set (b : Bool) (R : List UInt8) (j : Nat) (c : UInt8) : (adrC b R).setIfInBounds (1 + j) (.int .u8 (c.toNat : Int)) = adrC b (R.set j c) := by
  rw [Nat.add_comm]
  simp [adrC, List.map_set]
/-- An address of the call's own. -/
def AdrBlk (w : World) (g : Nat) (R : List UInt8) : Prop := R.length = 16 ∧ w.heap[g]? = some (.cells (adrC false R) 24 (0, 0))
theorem AdrBlk.put {w : World} {g : Nat} {R : List UInt8} (h : AdrBlk w g R) (j : Nat) (c : UInt8) : AdrBlk (w.setCell ⟨g, 1 + j, none⟩ (.int .u8 (c.toNat : Int))) g (R.set j c) := by
  refine ⟨by rw [List.length_set]; exact h.1, ?_⟩
  rw [heap_setCell_same w g (1 + j) _ _ (.int .u8 (c.toNat : Int)) h.2, adrC_set]
theorem AdrBlk.cell {w : World} {g : Nat} {R : List UInt8} (h : AdrBlk w g R) {j : Nat} (hj : j < 16) : ∃ v, w.cell? ⟨g, 1 + j, none⟩ = some v := by
  rw [cell_of_row _ _ _ _ _ _ h.2]
  have : 1 + j < (adrC false R).size := by simp [adrC, h.1]; omega
  exact ⟨_, Array.getElem?_eq_getElem this⟩
theorem AdrBlk.free {w : World} {g : Nat} {R : List UInt8} (h : AdrBlk w g R) (k : Nat) : w.frozen? ⟨g, k, none⟩ = false := frozen_of_heap h.2 k
theorem AdrBlk.below {w w' : World} {g B : Nat} {R : List UInt8} (h : AdrBlk w g R) (hb : Below B w w') (hg : g < B) : AdrBlk w' g R := ⟨h.1, (hb.block g hg).trans h.2⟩
theorem like_ref (l : List UInt8) : likeB l = (digsB l || (hexedB l && (numP4 l).isSome)) := by
  unfold likeB
  by_cases h : hexedB l = true
  · rw [if_pos h, h, Bool.true_and]
    have hd : digsB l = false := by
      match l, h with
      | a :: b :: r, h =>
        have hb : digB b = false := by
          unfold hexedB at h
          simp only [Bool.and_eq_true, Bool.or_eq_true, beq_iff_eq] at h
          rcases h.2 with rfl | rfl <;> decide
        exact digsB_no (c := b) (by simp) hb
    rw [hd, Bool.false_or]
  · rw [if_neg h]
    have h' : hexedB l = false := by simpa using h
    rw [h', Bool.false_and, Bool.or_false]; rfl
theorem digits_R {s : ByteArray} {b : Bool} (h : digsB s.data.toList = b) (hs : s.size ≤ 16777216) (w : World) :
    Calls Tryd.prog 30 #[.string s] w fun e w' => e = .returned (.bool b) ∧ w = w' := by
  rw [← h]; exact digitsR_any s w hs
theorem number_R {s : ByteArray} {n : Nat} {k : Bool} (h : optV (numP4 s.data.toList) = .tuple #[.int .i64 n, .bool k]) (hs : s.size ≤ 16777216) (w : World) :
    Calls Tryd.prog 29 #[.string s] w fun e w' => e = .returned (.tuple #[.int .i64 n, .bool k]) ∧ w = w' := by
  rw [← h]; exact numberR_any s w hs
/-- The ways in which the test for 0x may go. -/
theorem hex_ways (s : ByteArray) : (¬ (s.size : Int) ≥ 2 ∧ hexedB s.data.toList = false) ∨ ∃ (a b : UInt8) (h0 : 0 < s.size) (h1 : 1 < s.size), (s.size : Int) ≥ 2 ∧ s[0]'h0 = a ∧ s[1]'h1 = b ∧
    ((((a.toNat : Int) == 48) = false ∧ hexedB s.data.toList = false) ∨ (((a.toNat : Int) == 48) = true ∧
      ((((b.toNat : Int) == 120) = true ∧ hexedB s.data.toList = true) ∨ (((b.toNat : Int) == 120) = false ∧ ((((b.toNat : Int) == 88) = true ∧ hexedB s.data.toList = true) ∨ (((b.toNat : Int) == 88) = false ∧ hexedB s.data.toList = false)))))) := by
  have hq : ∀ (x : UInt8) (v : Nat), v < 256 → ((x.toNat : Int) == (v : Int)) = (x == UInt8.ofNat v) := by
    intro x v hv
    rw [Bool.eq_iff_iff, beq_iff_eq, beq_iff_eq]
    constructor
    · intro h
      exact UInt8.toNat.inj (by rw [UInt8.toNat_ofNat', Nat.mod_eq_of_lt (by omega)]; omega)
    · intro h
      rw [h, UInt8.toNat_ofNat', Nat.mod_eq_of_lt (by omega)]
  by_cases h2 : 2 ≤ s.size
  · right
    obtain ⟨a, b, r, hl, h0, h1, e0, e1⟩ := two_of h2
    refine ⟨a, b, h0, h1, by omega, e0, e1, ?_⟩
    rw [hexedB_two hl, show ((a.toNat : Int) == 48) = (a == 48) from hq a 48 (by omega), show ((b.toNat : Int) == 120) = (b == 120) from hq b 120 (by omega), show ((b.toNat : Int) == 88) = (b == 88) from hq b 88 (by omega)]
    cases a == 48 <;> cases b == 120 <;> cases b == 88 <;> simp
  · exact .inl ⟨by omega, hexedB_short h2⟩
/-- What holds after k parts. -/
def FourRel (P : List (List UInt8)) (m : Nat) (wb : World) (k : Nat) (wr : World) : Prop := Below wb.heap.size wb wr ∧ ∃ R, AdrBlk wr wb.heap.size R ∧
  ((k < m ∧ ∃ a, a < 256 ^ k ∧ addrV 4 0 P = addrV (4 - k) a (P.drop k) ∧ R = beB k a ++ noughts (16 - k)) ∨ (k = m ∧ ∃ v, addrV 4 0 P = some v ∧ R = fourBytes v ++ noughts 12))
theorem set_more {k a x : Nat} (hx : x < 256) (hk : k ≤ 3) : (beB k a ++ noughts (16 - k)).set k (UInt8.ofNat x) = beB (k + 1) (a * 256 + x) ++ noughts (16 - (k + 1)) := by
  rw [beB_more hx, List.set_append_right _ _ (by rw [beB_len]; exact Nat.le_refl _), beB_len, Nat.sub_self]
  have : noughts (16 - k) = 0 :: noughts (16 - (k + 1)) := by
    have e : 16 - k = (16 - (k + 1)) + 1 := by omega
    rw [e]; rfl
  rw [this, List.set_cons_zero]
  simp
set_option maxHeartbeats 4000000 in
set_option maxRecDepth 100000 in
theorem fourR_any (s : ByteArray) (hs : s.size ≤ 4194304) (w : World) :
    Calls Tryd.prog 15 #[.string s] w fun e w' => e = .returned (fourV (fourS s.data.toList)) ∧ Below w.heap.size w w' := by
  have B0 : Below w.heap.size w (w.alloc (.cells (adrC false (noughts 16)) 24)) := (Below.refl _ _).alloc (Nat.le_refl _) _
  have hg : AdrBlk (w.alloc (.cells (adrC false (noughts 16)) 24)) w.heap.size (noughts 16) := ⟨rfl, heap_alloc_new _ _⟩
  have hz0 : (w.alloc (.cells (adrC false (noughts 16)) 24)).heap.size = w.heap.size + 1 := by simp
  have HB := hid B0
  have Hgr := hid hg
  have Hz0 := hid hz0
  have HP := hid (fun w => partsR_any s 46 w hs)
  clear B0 hg hz0
  go_enter Tryd.func15, Tryd.ntmps15
  go_wp2_with fail
  rw [← zero17]
  generalize w.alloc _ = wa at *
  refine (HP.out _).mono ?_
  rintro e wb ⟨L, gl, capL, hcut, h1, hel, hLs, rfl, hLc, hTx, hg1, hg2, hb1⟩
  obtain ⟨m, T, hT, m1, mL, hparts, hways⟩ := parts_of hcut h1
  obtain ⟨n, hn⟩ : ∃ n, n = L.length := ⟨_, rfl⟩
  rw [← hn] at h1 hLs hT mL hways hLc ⊢
  obtain ⟨n1, hn1⟩ : ∃ n1, n = n1 + 1 := ⟨n - 1, by omega⟩
  have hnn1 : n - 1 = n1 := by omega
  rw [hnn1] at hT hways
  have Hel := hid hel
  have Hparts := hid hparts
  have Hn := hid hn
  have qn : IntKind.i64.wrap ((n : Int) - 1) = (n1 : Int) := by rw [IntWalk.i64_in _ (by omega)]; omega
  have Hn1 := hid hn1
  have hcT := hTx n1 T hT
  rw [Nat.zero_add] at hcT
  have HTx := hid hTx
  have Hb1 := hid hb1
  have Hg1 := hid hg1
  have Hg2 := hid hg2
  obtain ⟨q, hq⟩ : ∃ q : Bool, (q = true ∧ m = n1 ∧ (n : Int) > 1 ∧ T.toList.isEmpty = true) ∨ (q = false ∧ m = n ∧ (¬ (n : Int) > 1 ∨ ((n : Int) > 1 ∧ T.toList.isEmpty = false))) := by
    rcases hways with ⟨a, b, c⟩ | ⟨a, b⟩ | ⟨a, b, c⟩
    · refine ⟨true, .inl ⟨rfl, by omega, by omega, ?_⟩⟩
      have : T = ⟨#[]⟩ := by cases T; simp at b; rw [b]
      rw [← decide_eq_emptyBytes]
      exact decide_eq_true this
    · exact ⟨false, .inr ⟨rfl, by omega, .inl (by omega)⟩⟩
    · exact ⟨false, .inr ⟨rfl, by omega, .inr ⟨by omega, empty_not b⟩⟩⟩
  have k0 : (0 : Int) ≤ (n1 : Int) := by omega
  have k1 : (n1 : Int) < (n : Int) := by omega
  have Hq := hid hq
  clear hways hq hn1 hcut hel hparts hn hnn1 hTx hb1 hg1 hg2 hT
  go_upto_region 2 with fail
  go_cut [30] (fun v wx => v = .bool q ∧ wb = wx)
  case first =>
    rcases Hq.out with ⟨hq, _, h0, hT⟩ | ⟨hq, _, h0 | ⟨h0, hT⟩⟩
    all_goals
      have hqq := hid hq
      clear hq
      go_wp2
      go_meet
      exact ⟨by rw [hqq.out], rfl⟩
  case rest =>
    obtain ⟨rfl, rfl⟩ := hcut
    go_upto_if 30 with fail
    go_cut [5] (fun v wx => v = .slice (some ⟨gl, 0, none⟩) m capL ∧ wb = wx)
    case first =>
      have s1 := slice_to (g := gl) (n := n) (cap := capL) (b := n1) (by omega)
      rcases Hq.out with ⟨hq, hm, _⟩ | ⟨hq, hm, _⟩
      all_goals
        have Hm := hid hm
        subst hq
        clear hm
        go_wp2
        go_meet
        exact ⟨by rw [Hm.out], rfl⟩
    case rest =>
      obtain ⟨rfl, rfl⟩ := hcut
      clear hcT k0 k1 qn h1 Hq Hn1
      obtain ⟨M, hM⟩ : ∃ M, m = M + 1 := ⟨m - 1, by omega⟩
      have hML : M < L.length := by rw [← Hn.out]; omega
      obtain ⟨T2, hT2⟩ : ∃ T2, L[M]? = some T2 := ⟨_, List.getElem?_eq_getElem hML⟩
      have hz2 : T2.size ≤ 16777216 := Hel.out T2 (List.mem_of_getElem? hT2)
      have hlast := last_of (L := L) (m := m) m1 (by rw [hM]; simpa using hT2)
      have hcT := HTx.out M T2 hT2
      rw [Nat.zero_add] at hcT
      have qm : IntKind.i64.wrap ((m : Int) - 1) = (M : Int) := by rw [IntWalk.i64_in _ (by omega)]; omega
      have k0 : (0 : Int) ≤ (M : Int) := by omega
      have k1 : (M : Int) < (m : Int) := by omega
      have hF := fourS_is (l := s.data.toList) (b := likeB T2.data.toList) (m := m) (by rw [Hparts.out, hlast]) (by rw [Hparts.out, List.length_map, List.length_take, ← Hn.out]; omega)
      obtain ⟨x2, ok2, hx2⟩ := optV_pair (numP4 T2.data.toList)
      have HN2 := hid (number_R hx2 hz2)
      have hok2 := optV_some hx2
      rw [like_ref, hok2] at hF
      obtain ⟨d2, hd2⟩ : ∃ d2, digsB T2.data.toList = d2 := ⟨_, rfl⟩
      have HD2 := hid (digits_R hd2 hz2)
      rw [hd2] at hF
      obtain ⟨h2, hh2⟩ : ∃ h2, h2 = (hexedB T2.data.toList && ok2) := ⟨_, rfl⟩
      rw [← hh2] at hF
      have Hh2 := hid hh2
      have Hways := hid (hex_ways T2)
      have HF := hid hF
      have HM := hid hM
      have HBB := hid (below_chain HB.out Hb1.out)
      have Hgb := hid (Hgr.out.below Hb1.out (by have := Hz0.out; omega))
      have hz16 : T2.size ≤ 9223372036854775807 := by omega
      clear hF hM hlast hT2 hML hx2 hok2 hd2 hh2
      go_wp2_with fail
      refine (HN2.out _).mono ?_
      rintro e w' ⟨rfl, rfl⟩
      go_upto_region 6 with fail
      go_cut [9] (fun v wx => v = .bool h2 ∧ wb = wx)
      case first =>
        rcases Hways.out with ⟨hs2, hx⟩ | ⟨a, b, i0, i1, hs2, e0, e1, ⟨ha, hx⟩ | ⟨ha, ⟨hb, hx⟩ | ⟨hb, ⟨hb2, hx⟩ | ⟨hb2, hx⟩⟩⟩⟩
        all_goals
          have Hx := hid (show h2 = (hexedB T2.data.toList && ok2) from Hh2.out)
          rw [hx] at Hx
          clear hx
          go_wp2
          go_meet
          exact ⟨by rw [Hx.out]; rfl, rfl⟩
      case rest =>
        obtain ⟨rfl, rfl⟩ := hcut
        clear Hways Hh2
        obtain ⟨lk, hlk⟩ : ∃ lk, lk = (d2 || h2) := ⟨_, rfl⟩
        have hF := HF.out
        rw [← hlk] at hF
        have HF := hid hF
        have Hlk := hid hlk
        clear hF hlk
        go_upto_region 7 with fail
        go_cut [74] (fun v wx => v = .bool (!lk) ∧ wb = wx)
        case first =>
          cases d2 <;> cases h2
          all_goals
            go_wp2_with (go_at_call 30; refine (HD2.out _).mono ?_; rintro e w' ⟨rfl, rfl⟩)
            go_meet
            exact ⟨by rw [Hlk.out]; rfl, rfl⟩
        case rest =>
          obtain ⟨rfl, rfl⟩ := hcut
          clear Hlk HD2 HN2 hcT k0 k1 qm hz2 hz16
          cases lk with
          | false =>
            have hF := HF.out
            rw [if_neg (by decide)] at hF
            have HF2 := hid hF
            have hgb := Hgb.out.2
            clear hF
            go_wp2_with (refine wpList_store_row rfl 24 _ _ rfl w.heap.size (adrC false (noughts 16)) rfl rfl _ _ hgb (infoAdr (noughts 16) rfl false) rfl (adr_one _ _) ?_)
            refine bodyPost_ret (v := fourV (noughts 16, false, 0)) (results_row3 (p := 2) (u := 3) (v := 4) rfl _ _ w.heap.size _ (adrC false (noughts 16)) _ _ rfl (setRow_heap wb w.heap.size _ (adrC false (noughts 16)) _ _ hgb) Tryd.underlying24 rfl (infoAdr (noughts 16) rfl false)) rfl ⟨by rw [HF2.out]; first | done | rfl, below_setRow HBB.out (Nat.le_refl _) _⟩
          | true =>
            have hF := HF.out
            rw [if_pos (by rfl)] at hF
            by_cases hm4 : 4 < m
            · rw [if_pos hm4] at hF
              have HF2 := hid hF
              have hm5 : (m : Int) > 4 := by omega
              have hgb := Hgb.out.2
              clear hF
              go_wp2_with (refine wpList_store_row rfl 24 _ _ rfl w.heap.size (adrC false (noughts 16)) rfl rfl _ _ hgb (infoAdr (noughts 16) rfl false) rfl (adr_one _ _) ?_)
              refine bodyPost_ret (v := fourV (noughts 16, true, 5)) (results_row3 (p := 2) (u := 3) (v := 4) rfl _ _ w.heap.size _ (adrC false (noughts 16)) _ _ rfl (setRow_heap wb w.heap.size _ (adrC false (noughts 16)) _ _ hgb) Tryd.underlying24 rfl (infoAdr (noughts 16) rfl false)) rfl ⟨by rw [HF2.out]; first | done | rfl, below_setRow HBB.out (Nat.le_refl _) _⟩
            · rw [if_neg hm4] at hF
              have HF2 := hid hF
              have hm5 : ¬ (m : Int) > 4 := by omega
              have hbs : w.heap.size + 1 ≤ wb.heap.size := by have := Hb1.out.size; have := Hz0.out; omega
              have hbgl : gl < wb.heap.size := Hg2.out
              clear hF HF
              go_wp2_with fail
              generalize hwc : wb.alloc _ = wc at *
              have hac : AdrBlk wc wb.heap.size (noughts 16) := by rw [← hwc]; exact ⟨rfl, heap_alloc_new _ _⟩
              have hbc : Below wb.heap.size wb wc := by rw [← hwc]; exact (Below.refl _ _).alloc (Nat.le_refl _) _
              have Hstart := hid (show FourRel (partsFour s.data.toList) m wb 0 wc from ⟨hbc, noughts 16, hac, .inl ⟨by omega, 0, by decide, rfl, rfl⟩⟩)
              clear hac hbc hwc
              go_loopw [11] (fun iv wr => ∃ k : Nat, k ≤ m ∧ iv = .int .i64 k ∧ Hid (FourRel (partsFour s.data.toList) m wb k wr)) (fun iv _ => m - (RowKit.intOf iv).toNat)
              case atStart => exact ⟨0, Nat.zero_le _, rfl, Hstart⟩
              case round =>
                obtain ⟨k, hk, rfl, hh⟩ := hrel
                obtain ⟨hbel, R, hR, hcase⟩ := hh.out
                clear hh
                have hgr := (hbel.block w.heap.size (by omega)).trans Hgb.out.2
                have Hbw := hid (HBB.out.trans (hbel.mono (by omega)))
                have Hgr2 := hid hgr
                have HR := hid hR
                have Hbel := hid hbel
                have hRlt : wb.heap.size < wr.heap.size := (Array.getElem?_eq_some_iff.1 hR.2).1
                by_cases hlt : k < m
                · obtain ⟨a, hak, hadd, hRe⟩ : ∃ a, a < 256 ^ k ∧ addrV 4 0 (partsFour s.data.toList) = addrV (4 - k) a ((partsFour s.data.toList).drop k) ∧ R = beB k a ++ noughts (16 - k) := by
                    rcases hcase with ⟨_, h⟩ | ⟨h, _⟩
                    · exact h
                    · omega
                  obtain ⟨T3, hT3⟩ : ∃ T3, L[k]? = some T3 := ⟨_, List.getElem?_eq_getElem (by rw [← Hn.out]; omega)⟩
                  have hz3 : T3.size ≤ 16777216 := Hel.out T3 (List.mem_of_getElem? hT3)
                  have hcT3 := (HTx.out.below hbel hbgl) k T3 hT3
                  rw [Nat.zero_add] at hcT3
                  have hdrop := drop_parts (L := L) (m := m) hT3 hlt
                  rw [← Hparts.out] at hdrop
                  rw [hdrop] at hadd
                  obtain ⟨x, ok, hx⟩ := optV_pair (numP4 T3.data.toList)
                  have HN := hid (number_R hx hz3)
                  have k0 : (0 : Int) ≤ (k : Int) := by omega
                  have k1 : (k : Int) < (m : Int) := by omega
                  have qm : IntKind.i64.wrap ((m : Int) - 1) = (M : Int) := by have := HM.out; rw [IntWalk.i64_in _ (by omega)]; omega
                  have HRe := hid hRe
                  have Hak := hid hak
                  have Hadd := hid hadd
                  have Hx := hid hx
                  clear hT3 hbel hgr hR hcase hdrop hRe hak hadd hx
                  by_cases hkM : k = M
                  · have hke : ((k : Int) == (M : Int)) = true := by rw [beq_iff_eq]; omega
                    have hkl : ¬ (k : Int) < (M : Int) := by omega
                    have hk3 : k ≤ 3 := by omega
                    have hnil : (partsFour s.data.toList).drop (k + 1) = [] := by
                      apply List.drop_eq_nil_of_le
                      rw [Hparts.out, List.length_map, List.length_take]
                      have := HM.out
                      omega
                    have hmk : m = k + 1 := by have := HM.out; omega
                    have Hmk := hid hmk
                    have Hnil := hid hnil
                    have HkM := hid hkM
                    clear hmk hnil hkM
                    go_wp2_with fail
                    refine (HN.out _).mono ?_
                    rintro e w' ⟨rfl, rfl⟩
                    go_wp2_with fail
                    go_loop [14, 15] (fun rv kv => ∃ kk rm : Nat, m ≤ kk ∧ kk ≤ 4 ∧ kv = .int .i64 kk ∧ rv = .int .i64 rm ∧ Hid (rm = 256 ^ (kk - m + 1))) (fun _ kv => 4 - (RowKit.intOf kv).toNat)
                    case atStart => exact ⟨m, 256, Nat.le_refl _, by omega, rfl, rfl, hid (by rw [Nat.sub_self])⟩
                    case round =>
                      obtain ⟨kk, rm, hk1, hk2, rfl, rfl, hrm⟩ := hrel
                      by_cases hk4 : kk < 4
                      · have hk4' : (kk : Int) < 4 := by omega
                        have hrb : rm ≤ 16777216 := by
                          rw [hrm.out]
                          have h1 : kk - m + 1 ≤ 3 := by omega
                          have h2 := Nat.pow_le_pow_right (show 1 ≤ 256 by omega) h1
                          have h3 : (256 : Nat) ^ 3 = 16777216 := rfl
                          omega
                        have Hnew := hid (show rm * 256 = 256 ^ (kk + 1 - m + 1) by rw [show kk + 1 - m + 1 = (kk - m + 1) + 1 from by omega, Nat.pow_succ, ← hrm.out])
                        go_wp2
                        exact ⟨⟨kk + 1, rm * 256, by omega, by omega, by go_num, by go_num, Hnew⟩, by simp only [RowKit.intOf]; omega⟩
                      · have hk4' : ¬ (kk : Int) < 4 := by omega
                        have hrm2 : rm = 256 ^ (4 - k) := by rw [hrm.out, show kk - m + 1 = 4 - k from by have := Hmk.out; omega]
                        have Hrm := hid hrm2
                        clear hrm2 hrm
                        cases ok with
                        | false =>
                          have hres := HF2.out
                          rw [Hadd.out, addrV_none (optV_none Hx.out)] at hres
                          have HF3 := hid hres
                          have hgr := Hgr2.out
                          clear hres
                          go_wp2_with (refine wpList_store_row rfl 24 _ _ rfl w.heap.size (adrC false (noughts 16)) rfl rfl _ _ hgr (infoAdr (noughts 16) rfl false) rfl (adr_one _ _) ?_)
                          refine bodyPost_ret (v := fourV (noughts 16, true, 5)) (results_row3 (p := 2) (u := 3) (v := 4) rfl _ _ w.heap.size _ (adrC false (noughts 16)) _ _ rfl (setRow_heap wr w.heap.size _ (adrC false (noughts 16)) _ _ hgr) Tryd.underlying24 rfl (infoAdr (noughts 16) rfl false)) rfl ⟨by rw [HF3.out]; first | done | rfl, below_setRow Hbw.out (Nat.le_refl _) _⟩
                        | true =>
                          have hyes := optV_yes Hx.out
                          have hxb := numP4_le hyes
                          have hadd := Hadd.out
                          rw [Hnil.out, addrV_last hyes, ← Hrm.out] at hadd
                          by_cases hxr : x < rm
                          · rw [if_pos hxr] at hadd
                            have hge : ¬ (x : Int) ≥ (rm : Int) := by omega
                            have Hadd2 := hid hadd
                            have Hxr := hid hxr
                            have hxx : x ≤ 4294967296 := hxb
                            clear hadd hyes hxb hxr
                            go_wp2_with fail
                            obtain ⟨wo, rfl⟩ : ∃ wo : World, wo = wr := ⟨_, rfl⟩
                            go_loopw [12, 16] (fun nv kv wx => ∃ (t y : Nat) (z : Int), t ≤ 4 - k ∧ z = 3 - (t : Int) ∧ kv = .int .i64 z ∧ nv = .int .i64 y ∧ y ≤ 4294967296 ∧ Hid (y = x / 256 ^ t ∧ Below wb.heap.size wb wx ∧ AdrBlk wx wb.heap.size (fillB R x t))) (fun _ kv _ => (RowKit.intOf kv + 1).toNat)
                            case atStart => exact ⟨0, x, 3, Nat.zero_le _, rfl, rfl, rfl, hxx, hid ⟨by rw [Nat.pow_zero, Nat.div_one], Hbel.out, HR.out⟩⟩
                            case round =>
                              obtain ⟨t, y, z, ht, hz, rfl, rfl, hy, hh⟩ := hrel
                              obtain ⟨hyx, hbx, hax⟩ := hh.out
                              clear hh
                              by_cases htk : t < 4 - k
                              · obtain ⟨j, hj⟩ : ∃ j : Nat, z = (j : Int) := ⟨3 - t, by omega⟩
                                subst hj
                                have hjt : j = 3 - t := by omega
                                have hge : (j : Int) ≥ (k : Int) := by omega
                                obtain ⟨old, hold⟩ := hax.cell (j := j) (by omega)
                                have hfr := hax.free (1 + j)
                                have hput := hax.put j (UInt8.ofNat (y % 256))
                                rw [hjt, hyx, show (fillB R x t).set (3 - t) (UInt8.ofNat (x / 256 ^ t % 256)) = fillB R x (t + 1) from rfl, ← hyx, ← hjt] at hput
                                have hbx2 := hbx.setCell (p := ⟨wb.heap.size, 1 + j, none⟩) (Nat.le_refl _) (.int .u8 ((UInt8.ofNat (y % 256)).toNat : Int))
                                have hy2 : y / 256 = x / 256 ^ (t + 1) := by rw [hyx, Nat.div_div_eq_div_mul, Nat.pow_succ]
                                have Hnew := hid (And.intro hy2 (And.intro hbx2 hput))
                                have hcv : IntKind.u8.wrap ((y : Int) % 256) = ((UInt8.ofNat (y % 256)).toNat : Int) := by rw [IntKind.wrap_u8, UInt8.toNat_ofNat']; omega
                                generalize ((UInt8.ofNat (y % 256)).toNat : Int) = b at hcv Hnew
                                have j16 : (j : Int) < 16 := by omega
                                have Hjt := hid hjt
                                clear hyx hbx hax hput hbx2 hy2 hz hjt
                                go_wp2
                                refine ⟨⟨t + 1, y / 256, (j : Int) - 1, by omega, by have := Hjt.out; omega, rfl, by go_num, by omega, Hnew⟩, ?_⟩
                                simp only [RowKit.intOf]; omega
                              · obtain rfl : t = 4 - k := by omega
                                have hge : ¬ z ≥ (k : Int) := by omega
                                rw [HRe.out, fill_end hk3 (by have := Hxr.out; rw [Hrm.out] at this; exact this), ← Hrm.out] at hax
                                have Hnew := hid (show FourRel (partsFour s.data.toList) m wb (k + 1) wr from ⟨hbx, _, hax, .inr ⟨Hmk.out.symm, _, Hadd2.out, rfl⟩⟩)
                                clear hyx hbx hax hz
                                go_wp2
                                exact ⟨⟨k + 1, by have := Hmk.out; omega, by go_num, Hnew⟩, by simp only [RowKit.intOf]; omega⟩
                          · rw [if_neg hxr] at hadd
                            have hge : (x : Int) ≥ (rm : Int) := by omega
                            have hres := HF2.out
                            rw [hadd] at hres
                            have HF3 := hid hres
                            have hgr := Hgr2.out
                            clear hres hadd hyes hxr
                            go_wp2_with (refine wpList_store_row rfl 24 _ _ rfl w.heap.size (adrC false (noughts 16)) rfl rfl _ _ hgr (infoAdr (noughts 16) rfl false) rfl (adr_one _ _) ?_)
                            refine bodyPost_ret (v := fourV (noughts 16, true, 5)) (results_row3 (p := 2) (u := 3) (v := 4) rfl _ _ w.heap.size _ (adrC false (noughts 16)) _ _ rfl (setRow_heap wr w.heap.size _ (adrC false (noughts 16)) _ _ hgr) Tryd.underlying24 rfl (infoAdr (noughts 16) rfl false)) rfl ⟨by rw [HF3.out]; first | done | rfl, below_setRow Hbw.out (Nat.le_refl _) _⟩
                  · have hkne : ((k : Int) == (M : Int)) = false := by rw [beq_eq_false_iff_ne]; omega
                    have hkl : (k : Int) < (M : Int) := by have := HM.out; omega
                    go_wp2_with fail
                    refine (HN.out _).mono ?_
                    rintro e w' ⟨rfl, rfl⟩
                    go_wp2_with fail
                    go_loop [14, 15] (fun rv kv => rv = .int .i64 256 ∧ kv = .int .i64 m) (fun _ _ => 0)
                    case atStart => exact ⟨rfl, rfl⟩
                    case round =>
                      obtain ⟨rfl, rfl⟩ := hrel
                      cases ok with
                      | false =>
                        have hres := HF2.out
                        rw [Hadd.out, addrV_none (optV_none Hx.out)] at hres
                        have HF3 := hid hres
                        have hgr := Hgr2.out
                        clear hres
                        go_wp2_with (refine wpList_store_row rfl 24 _ _ rfl w.heap.size (adrC false (noughts 16)) rfl rfl _ _ hgr (infoAdr (noughts 16) rfl false) rfl (adr_one _ _) ?_)
                        refine bodyPost_ret (v := fourV (noughts 16, true, 5)) (results_row3 (p := 2) (u := 3) (v := 4) rfl _ _ w.heap.size _ (adrC false (noughts 16)) _ _ rfl (setRow_heap wr w.heap.size _ (adrC false (noughts 16)) _ _ hgr) Tryd.underlying24 rfl (infoAdr (noughts 16) rfl false)) rfl ⟨by rw [HF3.out]; first | done | rfl, below_setRow Hbw.out (Nat.le_refl _) _⟩
                      | true =>
                        have hyes := optV_yes Hx.out
                        have hxb := numP4_le hyes
                        obtain ⟨T4, hT4⟩ : ∃ T4, L[k + 1]? = some T4 := ⟨_, List.getElem?_eq_getElem (by rw [← Hn.out]; have := HM.out; omega)⟩
                        have hdrop4 := drop_parts (L := L) (m := m) hT4 (by have := HM.out; omega)
                        rw [← Hparts.out] at hdrop4
                        have hadd := Hadd.out
                        rw [hdrop4, addrV_more hyes, ← hdrop4] at hadd
                        by_cases hx256 : x < 256
                        · rw [if_pos hx256] at hadd
                          have hge : ¬ (x : Int) ≥ 256 := by omega
                          have hcv : IntKind.u8.wrap (x : Int) = ((UInt8.ofNat x).toNat : Int) := by rw [IntKind.wrap_u8, UInt8.toNat_ofNat']; omega
                          obtain ⟨old, hold⟩ := HR.out.cell (j := k) (by omega)
                          have hfr := HR.out.free (1 + k)
                          have hput := HR.out.put k (UInt8.ofNat x)
                          rw [HRe.out, set_more hx256 (by omega)] at hput
                          have hnew := hid (show FourRel (partsFour s.data.toList) m wb (k + 1) (wr.setCell ⟨wb.heap.size, 1 + k, none⟩ (.int .u8 ((UInt8.ofNat x).toNat : Int))) from ⟨Hbel.out.setCell (Nat.le_refl _) _, _, hput, .inl ⟨by have := HM.out; omega, a * 256 + x, by have := Hak.out; rw [Nat.pow_succ]; omega, hadd, rfl⟩⟩)
                          generalize ((UInt8.ofNat x).toNat : Int) = z at hcv hnew
                          have k16 : (k : Int) < 16 := by omega
                          clear hput hadd hdrop4 hT4 hyes
                          go_wp2
                          exact ⟨⟨k + 1, by have := HM.out; omega, by go_num, hnew⟩, by simp only [RowKit.intOf]; omega⟩
                        · rw [if_neg hx256] at hadd
                          have hge : (x : Int) ≥ 256 := by omega
                          have hres := HF2.out
                          rw [hadd] at hres
                          have HF3 := hid hres
                          have hgr := Hgr2.out
                          clear hres hadd hdrop4 hT4 hyes
                          go_wp2_with (refine wpList_store_row rfl 24 _ _ rfl w.heap.size (adrC false (noughts 16)) rfl rfl _ _ hgr (infoAdr (noughts 16) rfl false) rfl (adr_one _ _) ?_)
                          refine bodyPost_ret (v := fourV (noughts 16, true, 5)) (results_row3 (p := 2) (u := 3) (v := 4) rfl _ _ w.heap.size _ (adrC false (noughts 16)) _ _ rfl (setRow_heap wr w.heap.size _ (adrC false (noughts 16)) _ _ hgr) Tryd.underlying24 rfl (infoAdr (noughts 16) rfl false)) rfl ⟨by rw [HF3.out]; first | done | rfl, below_setRow Hbw.out (Nat.le_refl _) _⟩
                · obtain rfl : k = m := by omega
                  obtain ⟨v, hv, hRe⟩ : ∃ v, addrV 4 0 (partsFour s.data.toList) = some v ∧ R = fourBytes v ++ noughts 12 := by
                    rcases hcase with ⟨h, _⟩ | ⟨_, h⟩
                    · omega
                    · exact h
                  have hres := HF2.out
                  rw [hv] at hres
                  have HF3 : Hid (fourS s.data.toList = (fourBytes v ++ noughts 12, true, 0)) := hid hres
                  have hRR := hR.2
                  rw [hRe] at hRR
                  have hl16 : (fourBytes v ++ noughts 12).length = 16 := rfl
                  clear hres hcase hbel hv
                  go_wp2_with (first
                    | (refine wpList_load_row rfl 24 _ rfl wb.heap.size rfl _ _ _ _ hRR Tryd.underlying24 rfl (infoAdr _ rfl false) ?_)
                    | (refine wpList_store_row rfl 24 _ _ rfl w.heap.size (adrC false (fourBytes v ++ noughts 12)) rfl rfl _ _ hgr (infoAdr (fourBytes v ++ noughts 12) rfl false) rfl (adr_one _ _) ?_))
                  refine bodyPost_ret (v := fourV (fourBytes v ++ noughts 12, true, 0)) (results_row3 (p := 2) (u := 3) (v := 4) rfl _ _ w.heap.size _ (adrC false (fourBytes v ++ noughts 12)) _ _ rfl (setRow_heap wr w.heap.size _ (adrC false (fourBytes v ++ noughts 12)) _ _ hgr) Tryd.underlying24 rfl (infoAdr (fourBytes v ++ noughts 12) rfl false)) rfl ⟨by rw [HF3.out]; first | done | rfl, below_setRow Hbw.out (Nat.le_refl _) _⟩
end Go.Proofs.YtiookngmgednjaaDoor
