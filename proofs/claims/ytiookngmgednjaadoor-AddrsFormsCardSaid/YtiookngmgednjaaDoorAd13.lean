/- Walk: addrs.Four. -/
import Derived.Test.YtiookngmgednjaaDoorAd12
import Derived.Test.YtiookngmgednjaaDoorJn
import Derived.Test.YtiookngmgednjaaDoorSpec04
import Derived.Laws.Tables
import Derived.Laws.ResultCell
import Derived.Deep.Cut
import Derived.Deep.DeepCutAuto
import Derived.Deep.CutBlock
import Derived.IntWalk
namespace Go.Proofs.YtiookngmgednjaaDoor
open Go.RowKit Go.Lib Go.Proofs.Foot

/-- What Four answers, as a value. -/
def fourV (x : List UInt8 × Bool × Nat) : Value := .tuple #[.agg (adrC false x.1), .bool x.2.1, .int .i64 x.2.2]
theorem cutAt_le4 (a : UInt8) : ∀ (l p : List UInt8), p ∈ cutAt a l → p.length ≤ l.length
  | [], p, h => by simp [cutAt] at h; subst h; simp
  | c :: l, p, h => by
    rw [cutAt] at h
    split at h
    · rcases List.mem_cons.1 h with rfl | h
      · simp
      · have := cutAt_le4 a l p h; simp; omega
    · split at h
      · rename_i q qs hq
        rcases List.mem_cons.1 h with rfl | h
        · have := cutAt_le4 a l q (by rw [hq]; simp); simp; omega
        · have := cutAt_le4 a l p (by rw [hq]; exact List.mem_cons_of_mem _ h); simp; omega
      · simp at h; subst h; simp
/-- strings.Split at one byte: a new row of the parts. -/
theorem split_at (s : ByteArray) (a : UInt8) (w : World) (hs : s.size ≤ 16777216) (hsh : w.ShapedOpen Tryd.prog) :
    ∃ L : List ByteArray, L.map (·.data.toList) = cutAt a s.data.toList ∧ 1 ≤ L.length ∧ L.length ≤ 16777217 ∧ (∀ t ∈ L, t.size ≤ 16777216) ∧
      Calls Tryd.prog 25 #[.string s, .string ⟨#[a]⟩] w fun e w' => e = .returned (.slice (some ⟨w.heap.size, 0, none⟩) L.length L.length) ∧ TextsAt w' w.heap.size 0 L ∧ Below w.heap.size w w' ∧ w.heap.size < w'.heap.size := by
  have hsp := Tryd.strings_Split_shaped s ⟨#[a]⟩ w hsh (by omega) (by show 1 ≤ 1; exact Nat.le_refl 1)
  obtain ⟨L, hL⟩ : ∃ L, L = Lib.splitB ⟨#[a]⟩ 0 (Lib.countB s ⟨#[a]⟩) s := ⟨_, rfl⟩
  have hcut := splitB_cutAt a s
  rw [← hL] at hcut hsp
  have hlen := congrArg List.length hcut
  rw [List.length_map, cutAt_length] at hlen
  have hn : Lib.countB s ⟨#[a]⟩ + 1 = L.length := by
    have h2 : Lib.countB s ⟨#[a]⟩ = s.data.toList.count a := count_at a _ _ (Nat.le_refl _)
    omega
  rw [hn] at hsp
  have hsl : s.data.toList.length = s.size := (Lib.size_eq s).symm
  refine ⟨L, hcut, by omega, ?_, fun t ht => ?_, hsp.mono ?_⟩
  · have := List.count_le_length (a := a) (l := s.data.toList)
    omega
  · have hm : t.data.toList ∈ cutAt a s.data.toList := by rw [← hcut]; exact List.mem_map_of_mem ht
    have := cutAt_le4 a _ _ hm
    rw [Lib.size_eq]; omega
  · rintro e w' ⟨he, rfl⟩
    refine ⟨he, fun j x hj => ?_, (Below.refl _ _).alloc (Nat.le_refl _) _, by simp⟩
    rw [cell_of_row _ _ _ _ _ _ (heap_alloc_new _ _), Nat.zero_add]
    simp [hj]
/-- The parts, without an empty last one. -/
theorem parts_of {L : List ByteArray} {l : List UInt8} (hcut : L.map (·.data.toList) = cutAt 46 l) (h1 : 1 ≤ L.length) : ∃ (m : Nat) (T : ByteArray), L[L.length - 1]? = some T ∧ 1 ≤ m ∧ m ≤ L.length ∧ partsFour l = (L.take m).map (·.data.toList) ∧
    ((1 < L.length ∧ T.data.toList = [] ∧ m = L.length - 1) ∨ (¬ 1 < L.length ∧ m = L.length) ∨ (1 < L.length ∧ T.data.toList ≠ [] ∧ m = L.length)) := by
  obtain ⟨T, hT⟩ : ∃ T, L[L.length - 1]? = some T := ⟨_, List.getElem?_eq_getElem (by omega)⟩
  have hl : (L.map (·.data.toList)).getLast? = some T.data.toList := by
    rw [List.getLast?_eq_getElem?, List.length_map, List.getElem?_map, hT]; rfl
  unfold partsFour
  rw [← hcut, hl, List.length_map]
  by_cases hg : 1 < L.length
  · by_cases he : T.data.toList = []
    · refine ⟨L.length - 1, T, hT, by omega, by omega, ?_, .inl ⟨hg, he, rfl⟩⟩
      rw [if_pos ⟨hg, by rw [he]⟩, List.dropLast_eq_take, List.length_map, List.map_take]
    · refine ⟨L.length, T, hT, by omega, Nat.le_refl _, ?_, .inr (.inr ⟨hg, he, rfl⟩)⟩
      rw [if_neg (by rintro ⟨_, h⟩; injection h with h; exact he h), List.take_of_length_le (Nat.le_refl _)]
  · refine ⟨L.length, T, hT, by omega, Nat.le_refl _, ?_, .inr (.inl ⟨hg, rfl⟩)⟩
    rw [if_neg (fun h => hg h.1), List.take_of_length_le (Nat.le_refl _)]
theorem results_row3 {P : Program} {fn : Func} {p u v : Tmp} {ty : TypeId} (h : fn.results = #[.cell p ty, .tmp u, .tmp v]) (tmps : Array Value) (w : World) (g : Nat) (t : TypeId) (cs : Array Value) (fr : Nat × Nat) (d : TypeDesc)
    (hp : tmps.getD p undef = .pointer (some ⟨g, 0, none⟩)) (hg : w.heap[g]? = some (.cells cs t fr))
    (hu : P.underlying ty = some d) (hd : (match d with | .struct _ | .array _ _ => true | _ => false) = true) (hi : (P.info? ty).map (·.size) = some cs.size) :
    (results fn tmps).run P w = .ok (.tuple #[.agg cs, tmps.getD u undef, tmps.getD v undef]) w := by
  have hp' : tmps[p]?.getD undef = .pointer (some ⟨g, 0, none⟩) := by simpa using hp
  simp [results, h, hp', asAddr, run_loadVar_row w g t ty cs fr d hg hu hd hi]
theorem or_add (a n r : Nat) (hn : n < 2 ^ r) (hr : r ≤ 32) (h : a * 2 ^ r < 4611686018427387904) : bits .or .i64 ((a * 2 ^ r : Nat) : Int) (n : Int) = ((a * 2 ^ r + n : Nat) : Int) := by
  have h1 : a * 2 ^ r ||| n = a * 2 ^ r + n := by rw [← Nat.shiftLeft_eq, Nat.shiftLeft_add_eq_or_of_lt hn]
  have hr32 : n < 4294967296 := by
    have h2 := Nat.pow_le_pow_right (show 1 ≤ 2 by omega) hr
    have h3 : (2 : Nat) ^ 32 = 4294967296 := rfl
    omega
  have hr : n < 9223372036854775808 := by omega
  show IntKind.i64.wrap ((BitVec.ofInt 64 ((a * 2 ^ r : Nat) : Int) ||| BitVec.ofInt 64 (n : Int)).toNat : Int) = _
  have ho : ∀ x : Nat, x < 9223372036854775808 → (BitVec.ofInt 64 (x : Int)).toNat = x := fun x hx => by
    rw [BitVec.ofInt_natCast, BitVec.toNat_ofNat]; exact Nat.mod_eq_of_lt (by omega)
  rw [BitVec.toNat_or, ho _ (by omega), ho _ hr, h1, IntKind.wrap_i64]
  omega
theorem or_is {a n r R y : Nat} {A : Int} (hR : R = 2 ^ r) (hA : A = ((a * R : Nat) : Int)) (hy : y = a * R + n) (hn : n < R) (hr : r ≤ 32) (h : a * R < 4611686018427387904) : bits .or .i64 A (n : Int) = (y : Int) := by
  subst hR hA hy
  exact or_add a n r hn hr h
theorem zero17 : adrC false (noughts 16) = #[.bool false, .int .u8 0, .int .u8 0, .int .u8 0, .int .u8 0, .int .u8 0, .int .u8 0, .int .u8 0, .int .u8 0, .int .u8 0, .int .u8 0, .int .u8 0, .int .u8 0, .int .u8 0, .int .u8 0, .int .u8 0, .int .u8 0] := rfl
theorem infoAdr17 : (Tryd.prog.info? 24).map (·.size) = some 17 := by kernel_rfl
theorem infoAdr (B : List UInt8) (hB : B.length = 16) (b : Bool) : (Tryd.prog.info? 24).map (·.size) = some (adrC b B).size := by
  have : (adrC b B).size = 17 := by simp [adrC, hB]
  rw [infoAdr17, this]
theorem adr_one (b : Bool) (B : List UInt8) : (adrC b B).all (·.oneCell') = true := by
  simp [adrC, Value.oneCell', Function.comp_def]
/-- What Four answers of the number told. -/
def fourR (o : Option Nat) : List UInt8 × Bool × Nat := match o with
  | some n => (fourBytes n ++ noughts 12, true, 0)
  | none => (noughts 16, true, 5)
theorem optV_none {o : Option Nat} {n : Nat} (h : optV o = .tuple #[.int .i64 n, .bool false]) : o = none := by
  cases o with
  | none => rfl
  | some m => simp [optV] at h
theorem optV_yes {o : Option Nat} {n : Nat} (h : optV o = .tuple #[.int .i64 n, .bool true]) : o = some n := by
  cases o with
  | none => simp [optV] at h
  | some m => simp [optV] at h; rw [show m = n by omega]
theorem addrV_none {r a : Nat} {p : List UInt8} {ps : List (List UInt8)} (h : numP4 p = none) : addrV r a (p :: ps) = none := by
  cases ps with
  | nil => rw [addrV, h]
  | cons q ps => rw [addrV, h]
theorem addrV_last {r a n : Nat} {p : List UInt8} (h : numP4 p = some n) : addrV r a [p] = if n < 256 ^ r then some (a * 256 ^ r + n) else none := by rw [addrV, h]
theorem addrV_more {r a n : Nat} {p q : List UInt8} {ps : List (List UInt8)} (h : numP4 p = some n) : addrV r a (p :: q :: ps) = if n < 256 then addrV (r - 1) (a * 256 + n) (q :: ps) else none := by rw [addrV, h]
theorem drop_parts {L : List ByteArray} {m k : Nat} {T : ByteArray} (hT : L[k]? = some T) (hk : k < m) : ((L.take m).map (·.data.toList)).drop k = T.data.toList :: ((L.take m).map (·.data.toList)).drop (k + 1) := by
  have hl := (List.getElem?_eq_some_iff.1 hT).1
  have hlen : k < ((L.take m).map (·.data.toList)).length := by rw [List.length_map, List.length_take]; omega
  rw [List.drop_eq_getElem_cons hlen]
  congr 1
  have h1 : ((L.take m).map (·.data.toList))[k]? = some T.data.toList := by rw [List.getElem?_map, List.getElem?_take_of_lt hk, hT]; rfl
  rw [List.getElem?_eq_getElem hlen] at h1
  exact Option.some.inj h1
theorem cntB_le {b n : Nat} {l : List UInt8} (h : cntB b l = some n) : n ≤ 4294967296 := by
  unfold cntB at h
  split at h
  · injection h with h; rw [← h]; exact Nat.min_le_left _ _
  · cases h
theorem numP4_le {l : List UInt8} {n : Nat} (h : numP4 l = some n) : n ≤ 4294967296 := by
  unfold numP4 at h
  split at h
  · exact cntB_le h
  · split at h
    · cases h
    · split at h
      · exact cntB_le h
      · exact cntB_le h
theorem fourS_is {l : List UInt8} {b : Bool} {m : Nat} (hb : likeB ((partsFour l).getLast?.getD []) = b) (hm : (partsFour l).length = m) : fourS l = if b = true then (if 4 < m then (noughts 16, true, 5) else fourR (addrV 4 0 (partsFour l))) else (noughts 16, false, 0) := by
  unfold fourS
  rw [hb, hm]; rfl
theorem last_of {L : List ByteArray} {m : Nat} {T : ByteArray} (hm : 1 ≤ m) (hT : L[m - 1]? = some T) : ((L.take m).map (·.data.toList)).getLast?.getD [] = T.data.toList := by
  have hl := (List.getElem?_eq_some_iff.1 hT).1
  have hlen : (L.take m).length = m := by rw [List.length_take]; omega
  rw [List.getLast?_eq_getElem?, List.length_map, hlen, List.getElem?_map, List.getElem?_take_of_lt (by omega), hT]; rfl
theorem like_A {s : ByteArray} {b : Bool} (h : likeB s.data.toList = b) (hs : s.size ≤ 16777216) (w : World) (G : GoodE w) :
    Calls Tryd.prog 26 #[.string s] w fun e w' => e = .returned (.bool b) ∧ Below w.heap.size w w' := by
  rw [← h]; exact likeA_any s w hs G
theorem number_A {s : ByteArray} {n : Nat} {k : Bool} (h : optV (numP4 s.data.toList) = .tuple #[.int .i64 n, .bool k]) (hs : s.size ≤ 16777216) (w : World) (G : GoodE w) :
    Calls Tryd.prog 27 #[.string s] w fun e w' => e = .returned (.tuple #[.int .i64 n, .bool k]) ∧ Below w.heap.size w w' := by
  rw [← h]; exact numberA_any s w hs G
set_option maxHeartbeats 4000000 in
set_option maxRecDepth 100000 in
theorem fourA_any (s : ByteArray) (hs : s.size ≤ 16777216) (w : World) (hsh : w.ShapedOpen Tryd.prog) (G : GoodE w) :
    Calls Tryd.prog 14 #[.string s] w fun e w' => e = .returned (fourV (fourS s.data.toList)) ∧ Below w.heap.size w w' := by
  have B0 : Below w.heap.size w (w.alloc (.cells (adrC false (noughts 16)) 24)) := (Below.refl _ _).alloc (Nat.le_refl _) _
  have hg : (w.alloc (.cells (adrC false (noughts 16)) 24)).heap[w.heap.size]? = some (.cells (adrC false (noughts 16)) 24 (0, 0)) := heap_alloc_new _ _
  have hz0 : (w.alloc (.cells (adrC false (noughts 16)) 24)).heap.size = w.heap.size + 1 := by simp
  obtain ⟨L, hcut, h1, hLs, hel, hsp⟩ := split_at s 46 _ hs (hsh.keptBut (B0.frame (fun _ => False)) (fun _ h => h.elim))
  obtain ⟨m, T, hT, m1, mL, hparts, hways⟩ := parts_of hcut h1
  rw [zero17] at hsp B0 hg hz0
  have HG := hid (G.below B0)
  have Hsp := hid hsp
  have HB := hid B0
  have Hgr := hid hg
  have Hz0 := hid hz0
  obtain ⟨n, hn⟩ : ∃ n, n = L.length := ⟨_, rfl⟩
  rw [← hn] at h1 hLs hT mL hways Hsp
  obtain ⟨n1, hn1⟩ : ∃ n1, n = n1 + 1 := ⟨n - 1, by omega⟩
  have hnn1 : n - 1 = n1 := by omega
  rw [hnn1] at hT hways
  have Hel := hid hel
  have Hparts := hid hparts
  have Hn := hid hn
  have qn : IntKind.i64.wrap ((n : Int) - 1) = (n1 : Int) := by rw [IntWalk.i64_in _ (by omega)]; omega
  have Hn1 := hid hn1
  clear hsp B0 hg hz0 hsh G hcut hel hparts hn hnn1
  go_enter Tryd.func14, Tryd.ntmps14
  go_wp2_with fail
  generalize w.alloc _ = wa at *
  have hgr := Hgr.out
  rw [← zero17] at hgr
  have Hgr := hid hgr
  clear hgr
  refine Hsp.out.mono ?_
  rintro e wb ⟨rfl, hTx, hb1, hlt⟩
  have hcT := hTx n1 T hT
  rw [Nat.zero_add, Hz0.out] at hcT
  rw [Hz0.out]
  have HTx := hid hTx
  have Hb1 := hid hb1
  have Hlt := hid hlt
  clear hTx hb1 hlt hT
  obtain ⟨q, hq⟩ : ∃ q : Bool, (q = true ∧ m = n1 ∧ (n : Int) > 1 ∧ T.toList.isEmpty = true) ∨ (q = false ∧ m = n ∧ (¬ (n : Int) > 1 ∨ ((n : Int) > 1 ∧ T.toList.isEmpty = false))) := by
    rcases hways with ⟨a, b, c⟩ | ⟨a, b⟩ | ⟨a, b, c⟩
    · refine ⟨true, .inl ⟨rfl, by omega, by omega, ?_⟩⟩
      have : T = ⟨#[]⟩ := by cases T; simp at b; rw [b]
      rw [← decide_eq_emptyBytes]
      exact decide_eq_true this
    · exact ⟨false, .inr ⟨rfl, by omega, .inl (by omega)⟩⟩
    · exact ⟨false, .inr ⟨rfl, by omega, .inr ⟨by omega, empty_not b⟩⟩⟩
  have k0 : (0 : Int) ≤ (n1 : Int) := by omega
  have k1 : (n1 : Int) < (n : Int) := by omega
  have Hq := hid hq
  clear hways hq hn1
  go_upto_region 3 with fail
  go_cut [28] (fun v wx => v = .bool q ∧ wb = wx)
  case first =>
    rcases Hq.out with ⟨hq, _, h0, hT⟩ | ⟨hq, _, h0 | ⟨h0, hT⟩⟩
    all_goals
      have hqq := hid hq
      clear hq
      go_wp2
      go_meet
      exact ⟨by rw [hqq.out], rfl⟩
  case rest =>
    obtain ⟨rfl, rfl⟩ := hcut
    go_upto_if 28 with fail
    go_cut [5] (fun v wx => v = .slice (some ⟨w.heap.size + 1, 0, none⟩) m n ∧ wb = wx)
    case first =>
      have s1 := slice_to (g := w.heap.size + 1) (n := n) (cap := n) (b := n1) (by omega)
      rcases Hq.out with ⟨hq, hm, _⟩ | ⟨hq, hm, _⟩
      all_goals
        have Hm := hid hm
        subst hq
        clear hm
        go_wp2
        go_meet
        exact ⟨by rw [Hm.out], rfl⟩
    case rest =>
      obtain ⟨rfl, rfl⟩ := hcut
      clear hcT k0 k1 qn h1 Hq Hn1
      obtain ⟨M, hM⟩ : ∃ M, m = M + 1 := ⟨m - 1, by omega⟩
      have hML : M < L.length := by rw [← Hn.out]; omega
      obtain ⟨T2, hT2⟩ : ∃ T2, L[M]? = some T2 := ⟨_, List.getElem?_eq_getElem hML⟩
      have hz2 : T2.size ≤ 16777216 := Hel.out T2 (List.mem_of_getElem? hT2)
      have hlast := last_of (L := L) (m := m) m1 (by rw [hM]; simpa using hT2)
      have hcT := HTx.out M T2 hT2
      rw [Nat.zero_add, Hz0.out] at hcT
      have qm : IntKind.i64.wrap ((m : Int) - 1) = (M : Int) := by rw [IntWalk.i64_in _ (by omega)]; omega
      have k0 : (0 : Int) ≤ (M : Int) := by omega
      have k1 : (M : Int) < (m : Int) := by omega
      have hF := fourS_is (l := s.data.toList) (b := likeB T2.data.toList) (m := m) (by rw [Hparts.out, hlast]) (by rw [Hparts.out, List.length_map, List.length_take, ← Hn.out]; omega)
      have HF := hid hF
      have HM := hid hM
      have HBB := hid (below_chain HB.out Hb1.out)
      have Hgb := hid ((Hb1.out.block w.heap.size (by have := Hz0.out; omega)).trans Hgr.out)
      have HGb := hid (HG.out.below Hb1.out)
      clear hF hM hlast hT2 hML
      cases hlk : likeB T2.data.toList with
      | false =>
        have HLk := hid (like_A hlk hz2)
        have hF := HF.out
        rw [hlk, if_neg (by decide)] at hF
        have HF2 := hid hF
        clear hF hlk
        go_wp2_with fail
        refine (HLk.out _ HGb.out).mono ?_
        rintro e wc ⟨rfl, hb2⟩
        have hgc := (hb2.block w.heap.size (by have := Hlt.out; have := Hz0.out; omega)).trans Hgb.out
        have Hb2 := hid (below_chain HBB.out hb2)
        clear hb2
        go_wp2_with (first
          | (refine wpList_load_row rfl 24 _ rfl w.heap.size rfl _ _ _ _ hgc Tryd.underlying24 rfl (infoAdr _ rfl false) ?_)
          | (refine wpList_store_row rfl 24 _ _ rfl w.heap.size _ rfl rfl _ _ hgc (infoAdr _ rfl false) rfl (adr_one _ _) ?_))
        refine bodyPost_ret (v := fourV (noughts 16, false, 0)) (results_row3 (p := 2) (u := 3) (v := 4) rfl _ _ w.heap.size _ (adrC false (noughts 16)) _ _ rfl (setRow_heap wc w.heap.size _ (adrC false (noughts 16)) _ _ hgc) Tryd.underlying24 rfl (infoAdr (noughts 16) rfl false)) rfl ⟨by rw [HF2.out], below_setRow Hb2.out (Nat.le_refl _) _⟩
      | true =>
        have HLk := hid (like_A hlk hz2)
        have hF := HF.out
        rw [hlk, if_pos rfl] at hF
        clear hlk
        by_cases hm4 : 4 < m
        · rw [if_pos hm4] at hF
          have HF2 := hid hF
          have hm3 : (M : Int) > 3 := by have := HM.out; omega
          clear hF
          go_wp2_with fail
          refine (HLk.out _ HGb.out).mono ?_
          rintro e wc ⟨rfl, hb2⟩
          have hgc := (hb2.block w.heap.size (by have := Hlt.out; have := Hz0.out; omega)).trans Hgb.out
          have Hb2 := hid (below_chain HBB.out hb2)
          clear hb2
          go_wp2_with (first
            | (refine wpList_load_row rfl 24 _ rfl w.heap.size rfl _ _ _ _ hgc Tryd.underlying24 rfl (infoAdr _ rfl false) ?_)
            | (refine wpList_store_row rfl 24 _ _ rfl w.heap.size _ rfl rfl _ _ hgc (infoAdr _ rfl false) rfl (adr_one _ _) ?_))
          refine bodyPost_ret (v := fourV (noughts 16, true, 5)) (results_row3 (p := 2) (u := 3) (v := 4) rfl _ _ w.heap.size _ (adrC false (noughts 16)) _ _ rfl (setRow_heap wc w.heap.size _ (adrC false (noughts 16)) _ _ hgc) Tryd.underlying24 rfl (infoAdr (noughts 16) rfl false)) rfl ⟨by rw [HF2.out], below_setRow Hb2.out (Nat.le_refl _) _⟩
        · rw [if_neg hm4] at hF
          have HF2 := hid hF
          have hm3 : ¬ (M : Int) > 3 := by have := HM.out; omega
          clear hF
          go_wp2_with fail
          refine (HLk.out _ HGb.out).mono ?_
          rintro e wc ⟨rfl, hb2⟩
          have hgc := (hb2.block w.heap.size (by have := Hlt.out; have := Hz0.out; omega)).trans Hgb.out
          have Hgc := hid hgc
          have Hb2 := hid (below_chain HBB.out hb2)
          have HGc := hid (HGb.out.below hb2)
          have Hlc := hid (show w.heap.size + 1 < wc.heap.size by have := Hlt.out; have := Hz0.out; have := hb2.size; omega)
          have HTc := hid (HTx.out.below hb2 (by exact Hlt.out))
          clear hb2 hgc
          go_wp2_with fail
          go_loopw [8, 48] (fun av iv wr => ∃ k a : Nat, k ≤ m ∧ iv = .int .i64 k ∧ av = .int .i64 a ∧ a < 4294967296 ∧ Hid ((k < m → a < 256 ^ k) ∧ addrV 4 0 (partsFour s.data.toList) = addrV (4 - k) a ((partsFour s.data.toList).drop k) ∧ Below wc.heap.size wc wr)) (fun _ iv _ => m - (RowKit.intOf iv).toNat)
          case atStart => exact ⟨0, 0, Nat.zero_le _, rfl, rfl, by omega, hid ⟨fun _ => by decide, rfl, Below.refl _ _⟩⟩
          case round =>
            obtain ⟨k, a, hk, rfl, rfl, ha, hh⟩ := hrel
            obtain ⟨hak, hadd, hbel⟩ := hh.out
            have Hbel := hid hbel
            clear hh
            by_cases hlt : k < m
            · have hak := hak hlt
              have hkL : k < L.length := by rw [← Hn.out]; omega
              obtain ⟨T3, hT3⟩ : ∃ T3, L[k]? = some T3 := ⟨_, List.getElem?_eq_getElem hkL⟩
              have hz3 : T3.size ≤ 16777216 := Hel.out T3 (List.mem_of_getElem? hT3)
              have hcT3 := (HTc.out.below hbel (by rw [Hz0.out]; exact Hlc.out)) k T3 hT3
              rw [Nat.zero_add, Hz0.out] at hcT3
              have hdrop := drop_parts (L := L) (m := m) hT3 hlt
              rw [← Hparts.out] at hdrop
              rw [hdrop] at hadd
              obtain ⟨x, ok, hx⟩ := optV_pair (numP4 T3.data.toList)
              have HN := hid (number_A hx hz3)
              have HGr := hid (HGc.out.below hbel)
              have k0 : (0 : Int) ≤ (k : Int) := by omega
              have k1 : (k : Int) < (m : Int) := by omega
              have hgr := (hbel.block w.heap.size (by have := Hlc.out; omega)).trans Hgc.out
              have Hgr2 := hid hgr
              have Hb4 := hid (below_chain Hb2.out hbel)
              clear hT3 hbel hdrop hgr
              cases ok with
              | false =>
                have hno := optV_none hx
                have hres := HF2.out
                rw [hadd, addrV_none hno] at hres
                have HF3 := hid hres
                clear hres hno hx hadd hak
                go_wp2_with fail
                refine (HN.out _ HGr.out).mono ?_
                rintro e wd ⟨rfl, hb5⟩
                have hgd := (hb5.block w.heap.size (by have := Hlc.out; have := Hbel.out.size; omega)).trans Hgr2.out
                have Hb5 := hid (below_chain Hb4.out hb5)
                clear hb5
                go_wp2_with (first
                  | (refine wpList_load_row rfl 24 _ rfl w.heap.size rfl _ _ _ _ hgd Tryd.underlying24 rfl (infoAdr _ rfl false) ?_)
                  | (refine wpList_store_row rfl 24 _ _ rfl w.heap.size _ rfl rfl _ _ hgd (infoAdr _ rfl false) rfl (adr_one _ _) ?_))
                all_goals refine bodyPost_ret (v := fourV (noughts 16, true, 5)) (results_row3 (p := 2) (u := 3) (v := 4) rfl _ _ w.heap.size _ (adrC false (noughts 16)) _ _ rfl (setRow_heap wd w.heap.size _ (adrC false (noughts 16)) _ _ hgd) Tryd.underlying24 rfl (infoAdr (noughts 16) rfl false)) rfl ⟨by rw [HF3.out]; rfl, below_setRow Hb5.out (Nat.le_refl _) _⟩
              | true =>
                have hyes := optV_yes hx
                have hxb : x ≤ 4294967296 := numP4_le hyes
                by_cases hkM : k = M
                · have hnil : (partsFour s.data.toList).drop (k + 1) = [] := by
                    apply List.drop_eq_nil_of_le
                    rw [Hparts.out, List.length_map, List.length_take]
                    have := HM.out
                    omega
                  rw [hnil, addrV_last hyes] at hadd
                  have hM3 : (k = 0 ∧ M = 0) ∨ (k = 1 ∧ M = 1) ∨ (k = 2 ∧ M = 2) ∨ (k = 3 ∧ M = 3) := by have := HM.out; omega
                  clear hkM
                  rcases hM3 with ⟨rfl, hMv⟩ | ⟨rfl, hMv⟩ | ⟨rfl, hMv⟩ | ⟨rfl, hMv⟩
                  · have hkk : ((0 : Int) == (M : Int)) = true := by rw [beq_iff_eq]; omega
                    have hwb : IntKind.i64.wrap (8 * (M : Int)) = 0 := by rw [IntWalk.i64_in _ (by omega)]; omega
                    have HMv := hid hMv
                    clear hMv
                    have hx1 : (if x < 256 ^ (4 - 0) then some (a * 256 ^ (4 - 0) + x) else none) = if x < 4294967296 then some (a * 4294967296 + x) else none := rfl
                    rw [hx1] at hadd
                    have hakk : a < 1 := hak
                    by_cases hxR : x < 4294967296
                    · rw [if_pos hxR] at hadd
                      have hq : ((x : Int) / 4294967296 != 0) = false := by rw [bne_eq_false_iff_eq]; omega
                      obtain ⟨y, hy⟩ : ∃ y, y = a * 4294967296 + x := ⟨_, rfl⟩
                      rw [← hy] at hadd
                      have hnew : Hid (y < 4294967296 ∧ addrV 4 0 (partsFour s.data.toList) = addrV (4 - (0 + 1)) y ((partsFour s.data.toList).drop (0 + 1))) := hid ⟨by omega, by rw [hnil, hadd]; rfl⟩
                      have hor2 : bits .or .i64 ((a : Int) * 4294967296) (x : Int) = (y : Int) := or_is (r := 32) (R := 4294967296) rfl (by omega) hy hxR (by omega) (by omega)
                      have Hy := hid hy
                      clear hx1 hakk hadd hx hyes hnil hak hy
                      go_wp2_with fail
                      refine (HN.out _ HGr.out).mono ?_
                      rintro e wd ⟨rfl, hb5⟩
                      have Hb5 := hid (below_chain Hbel.out hb5)
                      clear hb5
                      go_wp2_with fail
                      refine ⟨⟨0 + 1, y, by omega, by go_num, rfl, hnew.out.1, hid ⟨fun h => by have := HM.out; have := HMv.out; omega, hnew.out.2, Hb5.out⟩⟩, ?_⟩
                      simp only [RowKit.intOf]; omega
                    · rw [if_neg hxR] at hadd
                      have hq : ((x : Int) / 4294967296 != 0) = true := by rw [bne_iff_ne]; omega
                      have hres := HF2.out
                      rw [hadd] at hres
                      have HF3 := hid hres
                      clear hres hx1 hakk hx hadd hak hyes hnil
                      go_wp2_with fail
                      refine (HN.out _ HGr.out).mono ?_
                      rintro e wd ⟨rfl, hb5⟩
                      have hgd := (hb5.block w.heap.size (by have := Hlc.out; have := Hbel.out.size; omega)).trans Hgr2.out
                      have Hb5 := hid (below_chain Hb4.out hb5)
                      clear hb5
                      go_wp2_with (first
                        | (refine wpList_load_row rfl 24 _ rfl w.heap.size rfl _ _ _ _ hgd Tryd.underlying24 rfl (infoAdr _ rfl false) ?_)
                        | (refine wpList_store_row rfl 24 _ _ rfl w.heap.size _ rfl rfl _ _ hgd (infoAdr _ rfl false) rfl (adr_one _ _) ?_))
                      refine bodyPost_ret (v := fourV (noughts 16, true, 5)) (results_row3 (p := 2) (u := 3) (v := 4) rfl _ _ w.heap.size _ (adrC false (noughts 16)) _ _ rfl (setRow_heap wd w.heap.size _ (adrC false (noughts 16)) _ _ hgd) Tryd.underlying24 rfl (infoAdr (noughts 16) rfl false)) rfl ⟨by rw [HF3.out]; rfl, below_setRow Hb5.out (Nat.le_refl _) _⟩
                  · have hkk : ((1 : Int) == (M : Int)) = true := by rw [beq_iff_eq]; omega
                    have hwb : IntKind.i64.wrap (8 * (M : Int)) = 8 := by rw [IntWalk.i64_in _ (by omega)]; omega
                    have HMv := hid hMv
                    clear hMv
                    have hx1 : (if x < 256 ^ (4 - 1) then some (a * 256 ^ (4 - 1) + x) else none) = if x < 16777216 then some (a * 16777216 + x) else none := rfl
                    rw [hx1] at hadd
                    have hakk : a < 256 := hak
                    by_cases hxR : x < 16777216
                    · rw [if_pos hxR] at hadd
                      have hq : ((x : Int) / 16777216 != 0) = false := by rw [bne_eq_false_iff_eq]; omega
                      obtain ⟨y, hy⟩ : ∃ y, y = a * 16777216 + x := ⟨_, rfl⟩
                      rw [← hy] at hadd
                      have hnew : Hid (y < 4294967296 ∧ addrV 4 0 (partsFour s.data.toList) = addrV (4 - (1 + 1)) y ((partsFour s.data.toList).drop (1 + 1))) := hid ⟨by omega, by rw [hnil, hadd]; rfl⟩
                      have hor2 : bits .or .i64 ((a : Int) * 16777216) (x : Int) = (y : Int) := or_is (r := 24) (R := 16777216) rfl (by omega) hy hxR (by omega) (by omega)
                      have Hy := hid hy
                      clear hx1 hakk hadd hx hyes hnil hak hy
                      go_wp2_with fail
                      refine (HN.out _ HGr.out).mono ?_
                      rintro e wd ⟨rfl, hb5⟩
                      have Hb5 := hid (below_chain Hbel.out hb5)
                      clear hb5
                      go_wp2_with fail
                      refine ⟨⟨1 + 1, y, by omega, by go_num, rfl, hnew.out.1, hid ⟨fun h => by have := HM.out; have := HMv.out; omega, hnew.out.2, Hb5.out⟩⟩, ?_⟩
                      simp only [RowKit.intOf]; omega
                    · rw [if_neg hxR] at hadd
                      have hq : ((x : Int) / 16777216 != 0) = true := by rw [bne_iff_ne]; omega
                      have hres := HF2.out
                      rw [hadd] at hres
                      have HF3 := hid hres
                      clear hres hx1 hakk hx hadd hak hyes hnil
                      go_wp2_with fail
                      refine (HN.out _ HGr.out).mono ?_
                      rintro e wd ⟨rfl, hb5⟩
                      have hgd := (hb5.block w.heap.size (by have := Hlc.out; have := Hbel.out.size; omega)).trans Hgr2.out
                      have Hb5 := hid (below_chain Hb4.out hb5)
                      clear hb5
                      go_wp2_with (first
                        | (refine wpList_load_row rfl 24 _ rfl w.heap.size rfl _ _ _ _ hgd Tryd.underlying24 rfl (infoAdr _ rfl false) ?_)
                        | (refine wpList_store_row rfl 24 _ _ rfl w.heap.size _ rfl rfl _ _ hgd (infoAdr _ rfl false) rfl (adr_one _ _) ?_))
                      refine bodyPost_ret (v := fourV (noughts 16, true, 5)) (results_row3 (p := 2) (u := 3) (v := 4) rfl _ _ w.heap.size _ (adrC false (noughts 16)) _ _ rfl (setRow_heap wd w.heap.size _ (adrC false (noughts 16)) _ _ hgd) Tryd.underlying24 rfl (infoAdr (noughts 16) rfl false)) rfl ⟨by rw [HF3.out]; rfl, below_setRow Hb5.out (Nat.le_refl _) _⟩
                  · have hkk : ((2 : Int) == (M : Int)) = true := by rw [beq_iff_eq]; omega
                    have hwb : IntKind.i64.wrap (8 * (M : Int)) = 16 := by rw [IntWalk.i64_in _ (by omega)]; omega
                    have HMv := hid hMv
                    clear hMv
                    have hx1 : (if x < 256 ^ (4 - 2) then some (a * 256 ^ (4 - 2) + x) else none) = if x < 65536 then some (a * 65536 + x) else none := rfl
                    rw [hx1] at hadd
                    have hakk : a < 65536 := hak
                    by_cases hxR : x < 65536
                    · rw [if_pos hxR] at hadd
                      have hq : ((x : Int) / 65536 != 0) = false := by rw [bne_eq_false_iff_eq]; omega
                      obtain ⟨y, hy⟩ : ∃ y, y = a * 65536 + x := ⟨_, rfl⟩
                      rw [← hy] at hadd
                      have hnew : Hid (y < 4294967296 ∧ addrV 4 0 (partsFour s.data.toList) = addrV (4 - (2 + 1)) y ((partsFour s.data.toList).drop (2 + 1))) := hid ⟨by omega, by rw [hnil, hadd]; rfl⟩
                      have hor2 : bits .or .i64 ((a : Int) * 65536) (x : Int) = (y : Int) := or_is (r := 16) (R := 65536) rfl (by omega) hy hxR (by omega) (by omega)
                      have Hy := hid hy
                      clear hx1 hakk hadd hx hyes hnil hak hy
                      go_wp2_with fail
                      refine (HN.out _ HGr.out).mono ?_
                      rintro e wd ⟨rfl, hb5⟩
                      have Hb5 := hid (below_chain Hbel.out hb5)
                      clear hb5
                      go_wp2_with fail
                      refine ⟨⟨2 + 1, y, by omega, by go_num, rfl, hnew.out.1, hid ⟨fun h => by have := HM.out; have := HMv.out; omega, hnew.out.2, Hb5.out⟩⟩, ?_⟩
                      simp only [RowKit.intOf]; omega
                    · rw [if_neg hxR] at hadd
                      have hq : ((x : Int) / 65536 != 0) = true := by rw [bne_iff_ne]; omega
                      have hres := HF2.out
                      rw [hadd] at hres
                      have HF3 := hid hres
                      clear hres hx1 hakk hx hadd hak hyes hnil
                      go_wp2_with fail
                      refine (HN.out _ HGr.out).mono ?_
                      rintro e wd ⟨rfl, hb5⟩
                      have hgd := (hb5.block w.heap.size (by have := Hlc.out; have := Hbel.out.size; omega)).trans Hgr2.out
                      have Hb5 := hid (below_chain Hb4.out hb5)
                      clear hb5
                      go_wp2_with (first
                        | (refine wpList_load_row rfl 24 _ rfl w.heap.size rfl _ _ _ _ hgd Tryd.underlying24 rfl (infoAdr _ rfl false) ?_)
                        | (refine wpList_store_row rfl 24 _ _ rfl w.heap.size _ rfl rfl _ _ hgd (infoAdr _ rfl false) rfl (adr_one _ _) ?_))
                      refine bodyPost_ret (v := fourV (noughts 16, true, 5)) (results_row3 (p := 2) (u := 3) (v := 4) rfl _ _ w.heap.size _ (adrC false (noughts 16)) _ _ rfl (setRow_heap wd w.heap.size _ (adrC false (noughts 16)) _ _ hgd) Tryd.underlying24 rfl (infoAdr (noughts 16) rfl false)) rfl ⟨by rw [HF3.out]; rfl, below_setRow Hb5.out (Nat.le_refl _) _⟩
                  · have hkk : ((3 : Int) == (M : Int)) = true := by rw [beq_iff_eq]; omega
                    have hwb : IntKind.i64.wrap (8 * (M : Int)) = 24 := by rw [IntWalk.i64_in _ (by omega)]; omega
                    have HMv := hid hMv
                    clear hMv
                    have hx1 : (if x < 256 ^ (4 - 3) then some (a * 256 ^ (4 - 3) + x) else none) = if x < 256 then some (a * 256 + x) else none := rfl
                    rw [hx1] at hadd
                    have hakk : a < 16777216 := hak
                    by_cases hxR : x < 256
                    · rw [if_pos hxR] at hadd
                      have hq : ((x : Int) / 256 != 0) = false := by rw [bne_eq_false_iff_eq]; omega
                      obtain ⟨y, hy⟩ : ∃ y, y = a * 256 + x := ⟨_, rfl⟩
                      rw [← hy] at hadd
                      have hnew : Hid (y < 4294967296 ∧ addrV 4 0 (partsFour s.data.toList) = addrV (4 - (3 + 1)) y ((partsFour s.data.toList).drop (3 + 1))) := hid ⟨by omega, by rw [hnil, hadd]; rfl⟩
                      have hor2 : bits .or .i64 ((a : Int) * 256) (x : Int) = (y : Int) := or_is (r := 8) (R := 256) rfl (by omega) hy hxR (by omega) (by omega)
                      have Hy := hid hy
                      clear hx1 hakk hadd hx hyes hnil hak hy
                      go_wp2_with fail
                      refine (HN.out _ HGr.out).mono ?_
                      rintro e wd ⟨rfl, hb5⟩
                      have Hb5 := hid (below_chain Hbel.out hb5)
                      clear hb5
                      go_wp2_with fail
                      refine ⟨⟨3 + 1, y, by omega, by go_num, rfl, hnew.out.1, hid ⟨fun h => by have := HM.out; have := HMv.out; omega, hnew.out.2, Hb5.out⟩⟩, ?_⟩
                      simp only [RowKit.intOf]; omega
                    · rw [if_neg hxR] at hadd
                      have hq : ((x : Int) / 256 != 0) = true := by rw [bne_iff_ne]; omega
                      have hres := HF2.out
                      rw [hadd] at hres
                      have HF3 := hid hres
                      clear hres hx1 hakk hx hadd hak hyes hnil
                      go_wp2_with fail
                      refine (HN.out _ HGr.out).mono ?_
                      rintro e wd ⟨rfl, hb5⟩
                      have hgd := (hb5.block w.heap.size (by have := Hlc.out; have := Hbel.out.size; omega)).trans Hgr2.out
                      have Hb5 := hid (below_chain Hb4.out hb5)
                      clear hb5
                      go_wp2_with (first
                        | (refine wpList_load_row rfl 24 _ rfl w.heap.size rfl _ _ _ _ hgd Tryd.underlying24 rfl (infoAdr _ rfl false) ?_)
                        | (refine wpList_store_row rfl 24 _ _ rfl w.heap.size _ rfl rfl _ _ hgd (infoAdr _ rfl false) rfl (adr_one _ _) ?_))
                      refine bodyPost_ret (v := fourV (noughts 16, true, 5)) (results_row3 (p := 2) (u := 3) (v := 4) rfl _ _ w.heap.size _ (adrC false (noughts 16)) _ _ rfl (setRow_heap wd w.heap.size _ (adrC false (noughts 16)) _ _ hgd) Tryd.underlying24 rfl (infoAdr (noughts 16) rfl false)) rfl ⟨by rw [HF3.out]; rfl, below_setRow Hb5.out (Nat.le_refl _) _⟩
                · have hkne : ((k : Int) == (M : Int)) = false := by rw [beq_eq_false_iff_ne]; omega
                  have hk3 : k + 1 < m := by have := HM.out; omega
                  obtain ⟨T4, hT4⟩ : ∃ T4, L[k + 1]? = some T4 := ⟨_, List.getElem?_eq_getElem (by rw [← Hn.out]; omega)⟩
                  have hdrop4 := drop_parts (L := L) (m := m) hT4 hk3
                  rw [← Hparts.out] at hdrop4
                  rw [hdrop4, addrV_more hyes, ← hdrop4] at hadd
                  by_cases hx256 : x < 256
                  · rw [if_pos hx256] at hadd
                    have hq : ((x : Int) / 256 != 0) = false := by rw [bne_eq_false_iff_eq]; omega
                    have hpow : a * 256 + x < 256 ^ (k + 1) := by rw [Nat.pow_succ]; omega
                    have hpow2 : (256 : Nat) ^ (k + 1) ≤ 256 ^ 4 := Nat.pow_le_pow_right (by omega) (by omega)
                    have h44 : (256 : Nat) ^ 4 = 4294967296 := rfl
                    have hnew : Hid (a * 256 + x < 4294967296 ∧ ((k + 1 < m → a * 256 + x < 256 ^ (k + 1)) ∧ addrV 4 0 (partsFour s.data.toList) = addrV (4 - (k + 1)) (a * 256 + x) ((partsFour s.data.toList).drop (k + 1)))) := hid ⟨by omega, fun _ => hpow, by rw [hadd]; congr 1⟩
                    obtain ⟨y, hy⟩ : ∃ y, y = a * 256 + x := ⟨_, rfl⟩
                    rw [← hy] at hnew
                    have hor2 : bits .or .i64 ((a : Int) * 256) (x : Int) = (y : Int) := or_is (r := 8) (R := 256) rfl (by omega) hy hx256 (by omega) (by omega)
                    have Hy := hid hy
                    clear hpow hpow2 h44 hadd hx hyes hT4 hdrop4 hak hy
                    go_wp2_with fail
                    refine (HN.out _ HGr.out).mono ?_
                    rintro e wd ⟨rfl, hb5⟩
                    have Hb5 := hid (below_chain Hbel.out hb5)
                    clear hb5
                    go_wp2_with fail
                    refine ⟨⟨k + 1, y, by omega, by go_num, rfl, hnew.out.1, hid ⟨hnew.out.2.1, hnew.out.2.2, Hb5.out⟩⟩, ?_⟩
                    simp only [RowKit.intOf]; omega
                  · rw [if_neg hx256] at hadd
                    have hq : ((x : Int) / 256 != 0) = true := by rw [bne_iff_ne]; omega
                    have hres := HF2.out
                    rw [hadd] at hres
                    have HF3 := hid hres
                    clear hres hx hadd hak hyes hT4 hdrop4
                    go_wp2_with fail
                    refine (HN.out _ HGr.out).mono ?_
                    rintro e wd ⟨rfl, hb5⟩
                    have hgd := (hb5.block w.heap.size (by have := Hlc.out; have := Hbel.out.size; omega)).trans Hgr2.out
                    have Hb5 := hid (below_chain Hb4.out hb5)
                    clear hb5
                    go_wp2_with (first
                      | (refine wpList_load_row rfl 24 _ rfl w.heap.size rfl _ _ _ _ hgd Tryd.underlying24 rfl (infoAdr _ rfl false) ?_)
                      | (refine wpList_store_row rfl 24 _ _ rfl w.heap.size _ rfl rfl _ _ hgd (infoAdr _ rfl false) rfl (adr_one _ _) ?_))
                    refine bodyPost_ret (v := fourV (noughts 16, true, 5)) (results_row3 (p := 2) (u := 3) (v := 4) rfl _ _ w.heap.size _ (adrC false (noughts 16)) _ _ rfl (setRow_heap wd w.heap.size _ (adrC false (noughts 16)) _ _ hgd) Tryd.underlying24 rfl (infoAdr (noughts 16) rfl false)) rfl ⟨by rw [HF3.out]; rfl, below_setRow Hb5.out (Nat.le_refl _) _⟩
            · obtain rfl : k = m := by omega
              have hnil : (partsFour s.data.toList).drop k = [] := by
                apply List.drop_eq_nil_of_le
                rw [Hparts.out, List.length_map, List.length_take]
                have := HM.out
                omega
              rw [hnil] at hadd
              have hres := HF2.out
              rw [hadd] at hres
              have HF3 : Hid (fourS s.data.toList = (fourBytes a ++ noughts 12, true, 0)) := hid hres
              have hgr := (hbel.block w.heap.size (by have := Hlc.out; omega)).trans Hgc.out
              have Hgr2 := hid hgr
              have Hb4 := hid (below_chain Hb2.out hbel)
              clear hnil hadd hres hak hbel hgr
              go_wp2_with fail
              obtain ⟨wo, rfl⟩ : ∃ wo : World, wo = wr := ⟨_, rfl⟩
              go_loopw [79] (fun iv wr => ∃ j : Nat, j ≤ 4 ∧ iv = .int .i64 j ∧ Hid (wr.heap[w.heap.size]? = some (.cells (adrC false ((fourBytes a).take j ++ noughts (16 - j))) 24 (0, 0)) ∧ Below w.heap.size w wr)) (fun iv _ => 4 - (RowKit.intOf iv).toNat)
              case atStart => exact ⟨0, by omega, rfl, hid ⟨Hgr2.out, Hb4.out⟩⟩
              case round =>
                obtain ⟨j, hj, rfl, hh⟩ := hrel
                obtain ⟨hgw, hbw⟩ := hh.out
                clear hh
                by_cases hj4 : j < 4
                · have hj3 : j = 0 ∨ j = 1 ∨ j = 2 ∨ j = 3 := by omega
                  clear hj hj4
                  rcases hj3 with rfl | rfl | rfl | rfl
                  · have hc : wr.cell? ⟨w.heap.size, 1, none⟩ = some (.int .u8 0) := by rw [cell_of_row _ _ _ _ _ _ hgw]; rfl
                    have hf : wr.frozen? ⟨w.heap.size, 1, none⟩ = false := frozen_of_heap hgw 1
                    have hcv : IntKind.u8.wrap ((a : Int) / 16777216) = ((UInt8.ofNat (a / 16777216)).toNat : Int) := by rw [IntKind.wrap_u8, UInt8.toNat_ofNat']; omega
                    have hnew := heap_setCell_same wr w.heap.size 1 _ _ (.int .u8 ((UInt8.ofNat (a / 16777216)).toNat : Int)) hgw
                    have e : (adrC false ((fourBytes a).take 0 ++ noughts (16 - 0))).setIfInBounds 1 (.int .u8 ((UInt8.ofNat (a / 16777216)).toNat : Int)) = adrC false ((fourBytes a).take (0 + 1) ++ noughts (16 - (0 + 1))) := rfl
                    rw [e] at hnew
                    have Hnew := hid hnew
                    have Hbn := hid (hbw.setCell (p := ⟨w.heap.size, 1, none⟩) (Nat.le_refl _) (.int .u8 ((UInt8.ofNat (a / 16777216)).toNat : Int)))
                    generalize ((UInt8.ofNat (a / 16777216)).toNat : Int) = z at hcv Hnew Hbn
                    clear hgw hbw hnew e
                    go_wp2
                    refine ⟨⟨0 + 1, by omega, by go_num, hid ⟨Hnew.out, Hbn.out⟩⟩, ?_⟩
                    simp only [RowKit.intOf]; omega
                  · have hc : wr.cell? ⟨w.heap.size, 2, none⟩ = some (.int .u8 0) := by rw [cell_of_row _ _ _ _ _ _ hgw]; rfl
                    have hf : wr.frozen? ⟨w.heap.size, 2, none⟩ = false := frozen_of_heap hgw 2
                    have hcv : IntKind.u8.wrap ((a : Int) / 65536) = ((UInt8.ofNat (a / 65536)).toNat : Int) := by rw [IntKind.wrap_u8, UInt8.toNat_ofNat']; omega
                    have hnew := heap_setCell_same wr w.heap.size 2 _ _ (.int .u8 ((UInt8.ofNat (a / 65536)).toNat : Int)) hgw
                    have e : (adrC false ((fourBytes a).take 1 ++ noughts (16 - 1))).setIfInBounds 2 (.int .u8 ((UInt8.ofNat (a / 65536)).toNat : Int)) = adrC false ((fourBytes a).take (1 + 1) ++ noughts (16 - (1 + 1))) := rfl
                    rw [e] at hnew
                    have Hnew := hid hnew
                    have Hbn := hid (hbw.setCell (p := ⟨w.heap.size, 2, none⟩) (Nat.le_refl _) (.int .u8 ((UInt8.ofNat (a / 65536)).toNat : Int)))
                    generalize ((UInt8.ofNat (a / 65536)).toNat : Int) = z at hcv Hnew Hbn
                    clear hgw hbw hnew e
                    go_wp2
                    refine ⟨⟨1 + 1, by omega, by go_num, hid ⟨Hnew.out, Hbn.out⟩⟩, ?_⟩
                    simp only [RowKit.intOf]; omega
                  · have hc : wr.cell? ⟨w.heap.size, 3, none⟩ = some (.int .u8 0) := by rw [cell_of_row _ _ _ _ _ _ hgw]; rfl
                    have hf : wr.frozen? ⟨w.heap.size, 3, none⟩ = false := frozen_of_heap hgw 3
                    have hcv : IntKind.u8.wrap ((a : Int) / 256) = ((UInt8.ofNat (a / 256)).toNat : Int) := by rw [IntKind.wrap_u8, UInt8.toNat_ofNat']; omega
                    have hnew := heap_setCell_same wr w.heap.size 3 _ _ (.int .u8 ((UInt8.ofNat (a / 256)).toNat : Int)) hgw
                    have e : (adrC false ((fourBytes a).take 2 ++ noughts (16 - 2))).setIfInBounds 3 (.int .u8 ((UInt8.ofNat (a / 256)).toNat : Int)) = adrC false ((fourBytes a).take (2 + 1) ++ noughts (16 - (2 + 1))) := rfl
                    rw [e] at hnew
                    have Hnew := hid hnew
                    have Hbn := hid (hbw.setCell (p := ⟨w.heap.size, 3, none⟩) (Nat.le_refl _) (.int .u8 ((UInt8.ofNat (a / 256)).toNat : Int)))
                    generalize ((UInt8.ofNat (a / 256)).toNat : Int) = z at hcv Hnew Hbn
                    clear hgw hbw hnew e
                    go_wp2
                    refine ⟨⟨2 + 1, by omega, by go_num, hid ⟨Hnew.out, Hbn.out⟩⟩, ?_⟩
                    simp only [RowKit.intOf]; omega
                  · have hc : wr.cell? ⟨w.heap.size, 4, none⟩ = some (.int .u8 0) := by rw [cell_of_row _ _ _ _ _ _ hgw]; rfl
                    have hf : wr.frozen? ⟨w.heap.size, 4, none⟩ = false := frozen_of_heap hgw 4
                    have hcv : IntKind.u8.wrap ((a : Int)) = ((UInt8.ofNat (a)).toNat : Int) := by rw [IntKind.wrap_u8, UInt8.toNat_ofNat']; omega
                    have hnew := heap_setCell_same wr w.heap.size 4 _ _ (.int .u8 ((UInt8.ofNat (a)).toNat : Int)) hgw
                    have e : (adrC false ((fourBytes a).take 3 ++ noughts (16 - 3))).setIfInBounds 4 (.int .u8 ((UInt8.ofNat (a)).toNat : Int)) = adrC false ((fourBytes a).take (3 + 1) ++ noughts (16 - (3 + 1))) := rfl
                    rw [e] at hnew
                    have Hnew := hid hnew
                    have Hbn := hid (hbw.setCell (p := ⟨w.heap.size, 4, none⟩) (Nat.le_refl _) (.int .u8 ((UInt8.ofNat (a)).toNat : Int)))
                    generalize ((UInt8.ofNat (a)).toNat : Int) = z at hcv Hnew Hbn
                    clear hgw hbw hnew e
                    go_wp2
                    refine ⟨⟨3 + 1, by omega, by go_num, hid ⟨Hnew.out, Hbn.out⟩⟩, ?_⟩
                    simp only [RowKit.intOf]; omega
                · obtain rfl : j = 4 := by omega
                  have e4 : (fourBytes a).take 4 ++ noughts (16 - 4) = fourBytes a ++ noughts 12 := rfl
                  rw [e4] at hgw
                  have hsz16 : (fourBytes a ++ noughts 12).length = 16 := rfl
                  have Hbw := hid hbw
                  clear hbw e4
                  go_wp2_with (first
                    | (refine wpList_load_row rfl 24 _ rfl w.heap.size rfl _ _ _ _ hgw Tryd.underlying24 rfl (infoAdr _ rfl false) ?_)
                    | (refine wpList_store_row rfl 24 _ _ rfl w.heap.size _ rfl rfl _ _ hgw (infoAdr _ rfl false) rfl (adr_one _ _) ?_))
                  refine bodyPost_ret (v := fourV (fourBytes a ++ noughts 12, true, 0)) (results_row3 (p := 2) (u := 3) (v := 4) rfl _ _ w.heap.size _ (adrC false (fourBytes a ++ noughts 12)) _ _ rfl (setRow_heap wr w.heap.size _ (adrC false (fourBytes a ++ noughts 12)) _ _ hgw) Tryd.underlying24 rfl (infoAdr (fourBytes a ++ noughts 12) rfl false)) rfl ⟨by rw [HF3.out], below_setRow Hbw.out (Nat.le_refl _) _⟩
end Go.Proofs.YtiookngmgednjaaDoor
