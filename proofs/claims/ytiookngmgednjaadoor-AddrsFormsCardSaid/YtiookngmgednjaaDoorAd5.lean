/- Walk: addrs.Text of sixteen bytes. -/
import Derived.Test.YtiookngmgednjaaDoorAd3
import Derived.Test.YtiookngmgednjaaDoorSpec04
import Derived.Test.YtiookngmgednjaaDoorOrLow
import Derived.Test.YtiookngmgednjaaDoorRunEq
import Derived.Test.YtiookngmgednjaaDoorJn
import Derived.Lib.QuietBelow
import Derived.Deep.Cut
import Derived.Deep.RegionHeld3
import Derived.IntWalk
namespace Go.Proofs.YtiookngmgednjaaDoor
open Go.RowKit Go.Lib

theorem below_drewN' {B : Nat} {w : World} (n : Nat) : Below B w (w.drewN n) := ⟨rfl, rfl, rfl, Nat.le_refl _, fun _ _ => rfl⟩
/-- The pieces. -/
def pc (B : List UInt8) (k : Nat) : Nat := 256 * (B.getD (2 * k) 0).toNat + (B.getD (2 * k + 1) 0).toNat
/-- Which pieces are noughts. -/
def zs (B : List UInt8) : List Bool := (List.range 8).map fun k => pc B k == 0
/-- The first k pieces' texts. -/
def hexs (B : List UInt8) (k : Nat) : List ByteArray := (List.range k).map fun i => hexT (pc B i)
theorem heap_old {w : World} {k : Nat} {o x : Obj} (h : w.heap[k]? = some x) : (w.alloc o).heap[k]? = some x := by
  have hlt : k < w.heap.size := (Array.getElem?_eq_some_iff.1 h).1
  show (w.heap.push o)[k]? = some x
  rw [Array.getElem?_push_lt hlt, ← h, Array.getElem?_eq_getElem hlt]
theorem add_is' {s t r : ByteArray} (hr : r = s ++ t) (hs : s.size ≤ 8388608) (ht : t.size ≤ 8388608) : ∀ V, (Op.stringOp .add s t).run Tryd.prog V = .ok (.string r) V := fun V => by rw [hr]; exact run_string_add V _ _ (by omega) (by omega)
theorem hexT_size {n : Nat} (h : n < 65536) : (hexT n).size ≤ 65536 := by
  have : hexT n = baseT 16 n := by rw [hexT, baseT, baseD_16]
  rw [this]
  have := baseT_size 16 n
  omega
theorem pc_lt (B : List UInt8) (k : Nat) : pc B k < 65536 := by
  have h1 := (B.getD (2 * k) 0).toNat_lt
  have h2 := (B.getD (2 * k + 1) 0).toNat_lt
  unfold pc; omega
theorem hexs_size {B : List UInt8} {k : Nat} {t : ByteArray} (h : t ∈ hexs B k) : t.size ≤ 65536 := by
  obtain ⟨i, _, rfl⟩ := List.mem_map.1 h
  exact hexT_size (pc_lt B i)
/-- The pieces' texts, as lists. -/
def hexL (B : List UInt8) : List (List UInt8) := (hexs B 8).map (·.data.toList)
/-- How an address of sixteen bytes is told. -/
def sixL (B : List UInt8) : List UInt8 := refGo (hexL B) (refRun (zs B) 8).1 (refRun (zs B) 8).2 9 0 []
theorem sixL_all (B : List UInt8) (h : (runs (zs B) 8).2.2 < 2) : sixL B = Lib.join (hexL B) [58] := by
  rcases runs_ref (zs B) (by simp [zs]) with ⟨_, h2⟩ | ⟨h2, _⟩
  · rw [sixL, h2]; exact refGo_one _ (by simp [hexL, hexs]) _
  · omega
theorem sixL_run (B : List UInt8) {f n : Nat} (h : (runs (zs B) 8).2 = (f, n)) (hn : 2 ≤ n) : f + n ≤ 8 ∧ sixL B = Lib.join ((hexL B).take f) [58] ++ [58, 58] ++ Lib.join ((hexL B).drop (f + n)) [58] := by
  rcases runs_ref (zs B) (by simp [zs]) with ⟨h1, _⟩ | ⟨_, h2, h3⟩
  · rw [h] at h1; simp only [] at h1; omega
  · rw [h] at h2 h3
    refine ⟨h3, ?_⟩
    rw [sixL, h2]; exact refGo_run _ (by simp [hexL, hexs]) _ _ hn h3
/-- The two cells, and what was there. -/
def TwoAt (w : World) (g : Nat) (a b : Value) (u : World) : Prop := (u.cell? ⟨g, 0, none⟩ = some a ∧ u.cell? ⟨g, 1, none⟩ = some b) ∧ Below w.heap.size w u ∧ g < u.heap.size
theorem TwoAt.go {w u v : World} {g : Nat} {a b : Value} (h : TwoAt w g a b u) (hb : Below u.heap.size u v) : TwoAt w g a b v := by
  obtain ⟨⟨h1, h2⟩, h3, h4⟩ := h
  exact ⟨⟨(hb.cell (by exact h4)).trans h1, (hb.cell (by exact h4)).trans h2⟩, below_chain h3 hb, Nat.lt_of_lt_of_le h4 hb.size⟩
/-- Join of u is T, in every later world. -/
structure JoinsTo (w : World) (u : Value) (T : ByteArray) : Prop where
  go : ∀ w', Below w.heap.size w w' → Calls Tryd.prog 22 #[u, .string ⟨#[58]⟩] w' fun e w'' => e = .returned (.string T) ∧ Below w'.heap.size w' w''
theorem join_is {w : World} {u a b : Value} {T : ByteArray} {g : Nat} {w' : World} (h : JoinsTo w u T) (hb : TwoAt w g a b w') : Calls Tryd.prog 22 #[u, .string ⟨#[58]⟩] w' fun e w'' => e = .returned (.string T) ∧ Below w'.heap.size w' w'' := h.go w' hb.2.1
set_option maxHeartbeats 4000000 in
set_option maxRecDepth 100000 in
theorem textA_six (B : List UInt8) (hB : B.length = 16) (w : World) (G : GoodA w) :
    Calls Tryd.prog 11 #[.agg (adrC true B)] w fun e w' => e = .returned (.string ⟨(sixL B).toArray⟩) ∧ Below w.heap.size w w' := by
  obtain ⟨J, hJ⟩ : ∃ J : ByteArray, J = ⟨(sixL B).toArray⟩ := ⟨_, rfl⟩
  rw [← hJ]
  have HJ := hid hJ
  clear hJ
  have A0 := hid (AdrAt.of_alloc w true B)
  have B0 : Hid (Below w.heap.size w (w.alloc (.cells (adrC true B) 24))) := hid ((Below.refl _ _).alloc (Nat.le_refl _) _)
  have HG := hid (G.below B0.out)
  have Hn : w.heap.size < (w.alloc (.cells (adrC true B) 24)).heap.size := by simp
  have hsix := A0.out.six
  generalize adrC true B = C at *
  clear G
  go_enter Tryd.func11, Tryd.ntmps11
  go_wp2_with fail
  generalize hw0 : w.alloc _ = w0 at *
  have hg0 : w0.heap.size = w.heap.size + 1 := by rw [← hw0]; simp
  clear hw0 hsix
  obtain ⟨w2, hw2⟩ : ∃ w2, w2 = (w0.alloc (.cells #[.int .i64 0, .int .i64 0] 49)).alloc (.cells #[.int .i64 0, .int .i64 0] 49) := ⟨_, rfl⟩
  have hg2 : w2.heap.size = w.heap.size + 3 := by rw [hw2]; simp [hg0]
  have hr1 : RunAt w2 (w.heap.size + 1) (0, 0) := ⟨_, by
    have h := heap_alloc_new w0 (.cells #[.int .i64 0, .int .i64 0] 49)
    rw [hg0] at h
    rw [hw2]; exact heap_old h, rfl⟩
  have hr2 : RunAt w2 (w.heap.size + 1 + 1) (0, 0) := ⟨_, by
    have h := heap_alloc_new (w0.alloc (.cells #[.int .i64 0, .int .i64 0] 49)) (.cells #[.int .i64 0, .int .i64 0] 49)
    have e : (w0.alloc (.cells #[.int .i64 0, .int .i64 0] 49)).heap.size = w.heap.size + 1 + 1 := by simp [hg0]
    rw [e] at h
    rw [hw2]; exact h, rfl⟩
  have hb2 : Below w0.heap.size w0 w2 := by rw [hw2]; exact ((Below.refl _ _).alloc (Nat.le_refl _) _).alloc (by simp) _
  rw [← hw2]
  have R := hid (And.intro hr1 (And.intro hr2 hb2))
  clear hr1 hr2 hb2 hw2
  go_loopw [3, 8] (fun v i wr => ∃ k m : Nat, k ≤ 8 ∧ m = 2 * k ∧ i = .int .i64 (m : Int) ∧ Hid (wr.ownsRow (w.heap.size + 3) 9 1 v (hexs B k).length ((hexs B k).map Value.string) ∧ RunAt wr (w.heap.size + 1) (runs (zs B) k).1 ∧ RunAt wr (w.heap.size + 1 + 1) (runs (zs B) k).2 ∧ Below w0.heap.size w0 wr ∧ w.heap.size + 3 ≤ wr.heap.size)) (fun _ i _ => 16 - (RowKit.intOf i).toNat)
  case atStart => exact ⟨0, 0, by omega, rfl, rfl, hid ⟨World.ownsRow_nil _ _ _ _, R.out.1, R.out.2.1, R.out.2.2, by omega⟩⟩
  case round =>
    obtain ⟨k, m, hk, hm, rfl, hh⟩ := hrel
    obtain ⟨hown, hrn, hrb, hbel, hsz0⟩ := hh.out
    have Own := hid hown
    have Hb := hid hbel
    have Hrn := hid hrn
    have Hrb := hid hrb
    obtain ⟨ao, cap, hvs⟩ := slice_of_rowS hown
    have hlen : (hexs B k).length = k := by simp [hexs]
    rw [hlen] at hvs
    have Hlen := hid hlen
    clear hlen
    by_cases hk8 : k < 8
    · have hm16 : (m : Int) < 16 := by omega
      obtain ⟨x, hx⟩ : ∃ x, B[m]? = some x := ⟨B[m]'(by omega), List.getElem?_eq_getElem (by omega)⟩
      obtain ⟨y, hy⟩ : ∃ y, B[m + 1]? = some y := ⟨B[m + 1]'(by omega), List.getElem?_eq_getElem (by omega)⟩
      have hAt := A0.out.below hbel Hn
      have hcx := hAt.byte m x hx
      have hcy := hAt.byte (m + 1) y hy
      have hpc := hid (show pc B k = 256 * x.toNat + y.toNat by rw [pc, ← hm, List.getD_eq_getElem?_getD, List.getD_eq_getElem?_getD, hx, hy]; rfl)
      have hxx := x.toNat_lt
      have hyy := y.toNat_lt
      have HGr := hid (HG.out.below hbel)
      subst hvs
      clear hh hown hrn hrb hbel hAt hx hy
      have Hm := hid hm
      have hm14 : m ≤ 14 := by omega
      clear hm
      have v1 : IntKind.i64.wrap ((m : Int) + 1) = (m : Int) + 1 := IntWalk.i64_in _ (by omega)
      have hor := or_low x y
      rw [← hpc.out] at hor
      obtain ⟨p, hp⟩ : ∃ p, p = pc B k := ⟨_, rfl⟩
      have hp16 : p < 65536 := by rw [hp, hpc.out]; omega
      rw [← hp] at hor
      have Hp := hid hp
      clear hp hpc
      go_wp2_with fail
      go_quiet (fail)
      have hb3 := below_drewN' (B := wr.heap.size) (w := wr) nq
      have hsz3 : w.heap.size + 3 ≤ (wr.drewN nq).heap.size := hsz0
      have Own2 := hid (below_keeps Own.out hb3)
      have Hb2 := hid (below_chain Hb.out hb3)
      have HI := hid (fmt_16 p hp16 (wr.drewN nq) (HGr.out.below hb3).2)
      have H3 := hid hb3
      clear hb3
      generalize wr.drewN nq = w3 at *
      go_wp2_with fail
      refine HI.out.mono ?_
      rintro e w4 ⟨rfl, hb4⟩
      have Own4 := hid (below_keeps Own2.out hb4)
      have Hb4 := hid (below_chain Hb2.out hb4)
      have hsz : w.heap.size + 3 ≤ w4.heap.size := by have := hb4.size; omega
      have H34 := hid (below_chain H3.out hb4)
      clear hb4 H3
      go_upto_region 15 with (at_builtin; refine appS1 rfl _ _ rfl rfl (w.heap.size + 3) (hexs B k) (hexT p) (.slice ao k cap) rfl Own4.out rfl (by rw [Hlen.out]; omega) hsz ?_; intro v' w5 happ)
      have Own5 := hid happ.1
      have Hb5 := hid (happ.below Own4.out Hb4.out (by omega))
      have hkeep : ∀ g < w.heap.size + 3, w5.heap[g]? = w4.heap[g]? := fun g hg => happ.2.1.block g (by omega) (fun h => by have := (Own4.out.lt g h).1; omega)
      have hk4 : ∀ g < w.heap.size + 3, w4.heap[g]? = wr.heap[g]? := fun g hg => H34.out.block g (by omega)
      have hrn5 : RunAt w5 (w.heap.size + 1) (runs (zs B) k).1 := Hrn.out.kept ((hkeep _ (by omega)).trans (hk4 _ (by omega)))
      have hrb5 : RunAt w5 (w.heap.size + 1 + 1) (runs (zs B) k).2 := Hrb.out.kept ((hkeep _ (by omega)).trans (hk4 _ (by omega)))
      have hs5 : w.heap.size + 3 ≤ w5.heap.size := Nat.le_trans hsz happ.2.1.size
      clear happ hkeep hk4
      have c0 := hrn5.cell0
      have c1 := hrn5.cell1
      have f0 := hrn5.free 0
      have f1 := hrn5.free 1
      have d0 := hrb5.cell0
      have d1 := hrb5.cell1
      have e0 := hrb5.free 0
      have e1 := hrb5.free 1
      have Rn := hid hrn5
      have Rb := hid hrb5
      clear hrn5 hrb5
      have hz : (zs B).getD k false = (p == 0) := by
        rw [Hp.out]; simp [zs, List.getD_eq_getElem?_getD, hk8]
      have Hz := hid hz
      clear hz
      by_cases hp0 : p = 0
      · have hpi : (p : Int) = 0 := by omega
        obtain ⟨nf, nn, hN⟩ : ∃ a b, (runs (zs B) k).1 = (a, b) := ⟨_, _, rfl⟩
        obtain ⟨bf, bn, hBb⟩ : ∃ a b, (runs (zs B) k).2 = (a, b) := ⟨_, _, rfl⟩
        have Hyes := hid (runs_yes (by rw [Hz.out, hp0]; rfl) hN hBb)
        have hle := runs_le (zs B) k
        rw [hN, hBb] at hle
        rw [hN] at c0 c1 Rn
        rw [hBb] at d0 d1 Rb
        simp only [] at c0 c1 d0 d1 hle
        obtain ⟨l1, l2, l3, l4⟩ := hle
        clear hN hBb
        have heq := run_eq0 nf nn
        have t2 : (m : Int).tdiv 2 = (k : Int) := by rw [Int.tdiv_eq_ediv_of_nonneg (by omega), Hm.out]; omega
        have t3 : (m : Int) / 2 = (k : Int) := by rw [Hm.out]; omega
        have hlen2 : hexs B (k + 1) = hexs B k ++ [hexT p] := by rw [hexs, List.range_succ, List.map_append, Hp.out]; rfl
        have Hlen2 := hid hlen2
        clear hlen2
        by_cases he : nf = 0 ∧ nn = 0
        · obtain ⟨rfl, rfl⟩ := he
          by_cases hbn : bn < 1
          · go_wp2_with fail
            have T : Touch (fun x => x = w.heap.size + 1 ∨ x = w.heap.size + 1 + 1) w5 _ := (Touch.setCell (p := ⟨w.heap.size + 1 + 1, 1, none⟩) (Touch.setCell (p := ⟨w.heap.size + 1 + 1, 0, none⟩) (Touch.setCell (p := ⟨w.heap.size + 1, 1, none⟩) (Touch.setCell (p := ⟨w.heap.size + 1, 0, none⟩) (Touch.refl _ w5) (.inl (.inl rfl)) (.int .i64 (k : Int))) (.inl (.inl rfl)) (.int .i64 1)) (.inl (.inr rfl)) (.int .i64 (k : Int))) (.inl (.inr rfl)) (.int .i64 1))
            have hy := Hyes.out
            rw [if_pos (show bn < 0 + 1 from hbn), if_pos ⟨rfl, rfl⟩] at hy
            have HY := hid hy
            clear hy
            refine ⟨⟨k + 1, m + 2, by omega, by have := Hm.out; omega, by go_num, hid ⟨?_, ?_, ?_, ?_, ?_⟩⟩, ?_⟩
            · rw [Hlen2.out]; exact T.own Own5.out (fun x hx h => by have := (Own5.out.lt x hx).1; omega)
            · rw [HY.out]; exact ((((Rn.out.at0 rfl).at1 (a := 1) rfl).other _ (by show w.heap.size + 1 ≠ w.heap.size + 1 + 1; omega)).other _ (by show w.heap.size + 1 ≠ w.heap.size + 1 + 1; omega))
            · rw [HY.out]; exact ((((Rb.out.other _ (by show w.heap.size + 1 + 1 ≠ w.heap.size + 1; omega)).other _ (by show w.heap.size + 1 + 1 ≠ w.heap.size + 1; omega)).at0 rfl).at1 (a := 1) rfl)
            · exact Hb5.out.trans (T.below (B := w0.heap.size) (fun x hx => by omega) Hb5.out.size)
            · have := T.size; omega
            · simp only [RowKit.intOf]; omega
          · go_wp2_with fail
            have T : Touch (fun x => x = w.heap.size + 1 ∨ x = w.heap.size + 1 + 1) w5 _ := (Touch.setCell (p := ⟨w.heap.size + 1, 1, none⟩) (Touch.setCell (p := ⟨w.heap.size + 1, 0, none⟩) (Touch.refl _ w5) (.inl (.inl rfl)) (.int .i64 (k : Int))) (.inl (.inl rfl)) (.int .i64 1))
            have hy := Hyes.out
            rw [if_neg (show ¬ bn < 0 + 1 from hbn), if_pos ⟨rfl, rfl⟩] at hy
            have HY := hid hy
            clear hy
            refine ⟨⟨k + 1, m + 2, by omega, by have := Hm.out; omega, by go_num, hid ⟨?_, ?_, ?_, ?_, ?_⟩⟩, ?_⟩
            · rw [Hlen2.out]; exact T.own Own5.out (fun x hx h => by have := (Own5.out.lt x hx).1; omega)
            · rw [HY.out]; exact ((Rn.out.at0 rfl).at1 (a := 1) rfl)
            · rw [HY.out]; exact ((Rb.out.other _ (by show w.heap.size + 1 + 1 ≠ w.heap.size + 1; omega)).other _ (by show w.heap.size + 1 + 1 ≠ w.heap.size + 1; omega))
            · exact Hb5.out.trans (T.below (B := w0.heap.size) (fun x hx => by omega) Hb5.out.size)
            · have := T.size; omega
            · simp only [RowKit.intOf]; omega
        · have heb : (nf == 0 && nn == 0) = false := by simpa using he
          rw [heb] at heq
          have HE := hid he
          clear he heb
          by_cases hbn : bn < nn + 1
          · go_wp2_with fail
            have T : Touch (fun x => x = w.heap.size + 1 ∨ x = w.heap.size + 1 + 1) w5 _ := (Touch.setCell (p := ⟨w.heap.size + 1 + 1, 1, none⟩) (Touch.setCell (p := ⟨w.heap.size + 1 + 1, 0, none⟩) (Touch.setCell (p := ⟨w.heap.size + 1, 1, none⟩) (Touch.refl _ w5) (.inl (.inl rfl)) (.int .i64 ((nn : Int) + 1))) (.inl (.inr rfl)) (.int .i64 (nf : Int))) (.inl (.inr rfl)) (.int .i64 ((nn : Int) + 1)))
            have hy := Hyes.out
            rw [if_pos hbn, if_neg HE.out] at hy
            have HY := hid hy
            clear hy
            refine ⟨⟨k + 1, m + 2, by omega, by have := Hm.out; omega, by go_num, hid ⟨?_, ?_, ?_, ?_, ?_⟩⟩, ?_⟩
            · rw [Hlen2.out]; exact T.own Own5.out (fun x hx h => by have := (Own5.out.lt x hx).1; omega)
            · rw [HY.out]; exact (((Rn.out.at1 (a := nn + 1) (by omega)).other _ (by show w.heap.size + 1 ≠ w.heap.size + 1 + 1; omega)).other _ (by show w.heap.size + 1 ≠ w.heap.size + 1 + 1; omega))
            · rw [HY.out]; exact (((Rb.out.other _ (by show w.heap.size + 1 + 1 ≠ w.heap.size + 1; omega)).at0 rfl).at1 (a := nn + 1) (by omega))
            · exact Hb5.out.trans (T.below (B := w0.heap.size) (fun x hx => by omega) Hb5.out.size)
            · have := T.size; omega
            · simp only [RowKit.intOf]; omega
          · go_wp2_with fail
            have T : Touch (fun x => x = w.heap.size + 1 ∨ x = w.heap.size + 1 + 1) w5 _ := (Touch.setCell (p := ⟨w.heap.size + 1, 1, none⟩) (Touch.refl _ w5) (.inl (.inl rfl)) (.int .i64 ((nn : Int) + 1)))
            have hy := Hyes.out
            rw [if_neg hbn, if_neg HE.out] at hy
            have HY := hid hy
            clear hy
            refine ⟨⟨k + 1, m + 2, by omega, by have := Hm.out; omega, by go_num, hid ⟨?_, ?_, ?_, ?_, ?_⟩⟩, ?_⟩
            · rw [Hlen2.out]; exact T.own Own5.out (fun x hx h => by have := (Own5.out.lt x hx).1; omega)
            · rw [HY.out]; exact (Rn.out.at1 (a := nn + 1) (by omega))
            · rw [HY.out]; exact (Rb.out.other _ (by show w.heap.size + 1 + 1 ≠ w.heap.size + 1; omega))
            · exact Hb5.out.trans (T.below (B := w0.heap.size) (fun x hx => by omega) Hb5.out.size)
            · have := T.size; omega
            · simp only [RowKit.intOf]; omega
      · have hpi : (p : Int) ≠ 0 := by omega
        have hrs : runs (zs B) (k + 1) = ((0, 0), (runs (zs B) k).2) := by
          have h : (zs B).getD k false = false := by rw [Hz.out]; simpa using hp0
          rw [runs, if_neg (by rw [h]; decide)]
        have Hrs := hid hrs
        clear hrs
        go_wp2_with fail
        have T : Touch (fun x => x = w.heap.size + 1) w5 ((w5.setCell ⟨w.heap.size + 1, 0, none⟩ (.int .i64 0)).setCell ⟨w.heap.size + 1, 1, none⟩ (.int .i64 0)) := by
          refine Touch.setCell (Touch.setCell (Touch.refl _ w5) ?_ _) ?_ _ <;> exact .inl rfl
        have hlen2 : hexs B (k + 1) = hexs B k ++ [hexT p] := by rw [hexs, List.range_succ, List.map_append, Hp.out]; rfl
        refine ⟨⟨k + 1, m + 2, by omega, by have := Hm.out; omega, by go_num, hid ⟨?_, ?_, ?_, ?_, ?_⟩⟩, ?_⟩
        · rw [hlen2]; exact T.own Own5.out (fun x hx h => by have := (Own5.out.lt x hx).1; omega)
        · rw [Hrs.out]; exact (Rn.out.put0 0).put1 0
        · rw [Hrs.out]; exact Rb.out.kept (T.block _ (Array.getElem?_eq_some_iff.1 Rb.out.choose_spec.1).1 (by omega))
        · exact (Hb5.out.setCell (by show _ ≤ w.heap.size + 1; omega) _).setCell (by show _ ≤ w.heap.size + 1; omega) _
        · have := T.size; omega
        · simp only [RowKit.intOf]; omega
    · obtain rfl : k = 8 := by omega
      have hm16 : ¬ (m : Int) < 16 := by omega
      obtain ⟨g, cap', hv, hgb, hgl, hcap, HT⟩ := row_texts hown (by rw [Hlen.out]; omega)
      have hlen8 := Hlen.out
      rw [hlen8] at hv hcap
      subst hv
      clear hvs hh
      have HT := hid HT
      obtain ⟨bf, bn, hBb⟩ : ∃ a b, (runs (zs B) 8).2 = (a, b) := ⟨_, _, rfl⟩
      rw [hBb] at hrb
      have d0 := hrb.cell0
      have d1 := hrb.cell1
      simp only [] at d0 d1
      have hrl := hrb.choose_spec.1
      have hrlt : w.heap.size + 1 + 1 < wr.heap.size := (Array.getElem?_eq_some_iff.1 hrl).1
      by_cases hbn : bn < 2
      · have hjoin := joinAt HT.out hgl (c := cap') (by omega) (by omega) (fun t ht => hexs_size ht) ⟨#[58]⟩ (by decide)
        have e1 : (Lib.join ((hexs B 8).map (·.data.toList)) (⟨#[58]⟩ : ByteArray).data.toList) = sixL B := (sixL_all B (by rw [hBb]; exact hbn)).symm
        rw [e1, ← HJ.out, hlen8] at hjoin
        have HK := hid hjoin
        clear hjoin e1 hown hrn hrb hbel hBb hlen8 hrl hm
        go_wp2_with fail
        refine HK.out.mono ?_
        rintro e w3 ⟨rfl, hb3⟩
        have Hb2 := hid (below_chain Hb.out hb3)
        clear hb3
        go_wp2
        go_ret
        exact ⟨rfl, B0.out.trans (Hb2.out.mono (by omega))⟩
      · obtain ⟨hf8, e1⟩ := sixL_run B hBb (by omega)
        obtain ⟨J1, hJ1⟩ : ∃ J1 : ByteArray, J1 = ⟨(Lib.join (((hexs B 8).take bf).map (·.data.toList)) (⟨#[58]⟩ : ByteArray).data.toList).toArray⟩ := ⟨_, rfl⟩
        obtain ⟨J2, hJ2⟩ : ∃ J2 : ByteArray, J2 = J1 ++ ⟨#[58, 58]⟩ := ⟨_, rfl⟩
        obtain ⟨J3, hJ3⟩ : ∃ J3 : ByteArray, J3 = ⟨(Lib.join (((hexs B 8).drop (bf + bn)).map (·.data.toList)) (⟨#[58]⟩ : ByteArray).data.toList).toArray⟩ := ⟨_, rfl⟩
        have z1 : J1.size ≤ 2000000 := by
          rw [hJ1, Lib.size_eq]
          exact (join_short (by rw [List.length_take]; omega) (fun t ht => hexs_size (List.mem_of_mem_take ht)) (by decide))
        have z3 : J3.size ≤ 2000000 := by
          rw [hJ3, Lib.size_eq]
          exact (join_short (by rw [List.length_drop]; omega) (fun t ht => hexs_size (List.mem_of_mem_drop ht)) (by decide))
        have z2 : J2.size ≤ 2000002 := by rw [hJ2, cat_z]; have : (⟨#[58, 58]⟩ : ByteArray).size = 2 := rfl; omega
        have a1 := add_is' hJ2 (by omega) (by decide)
        have hfin : J = J2 ++ J3 := by
          apply bytes_ext
          rw [HJ.out, cat_l, hJ2, cat_l, hJ1, hJ3, e1]
          simp [hexL, List.map_take, List.map_drop]
        have a2 := add_is' hfin (by omega) (by omega)
        have HJ1 : JoinsTo wr (.slice (some ⟨g, 0, none⟩) bf cap') J1 := ⟨fun w' hb => by
          rw [hJ1]
          exact joinTo (HT.out.below hb hgl) (Nat.lt_of_lt_of_le hgl hb.size) (by omega) (by omega) (by omega) (fun t ht => hexs_size ht) _ (by decide)⟩
        have HJ3 : JoinsTo wr (.slice (some (fromAt g cap' (bf + bn))) (8 - (bf + bn)) (cap' - (bf + bn))) J3 := ⟨fun w' hb => by
          rw [hJ3]
          exact joinFrom (HT.out.below hb hgl) (Nat.lt_of_lt_of_le hgl hb.size) hlen8 (by omega) (by omega) (by omega) (fun t ht => hexs_size ht) _ (by decide)⟩
        have s1 := slice_to (g := g) (n := 8) (show bf ≤ cap' by omega)
        have s2 := slice_from (g := g) (cap := cap') (show bf + bn ≤ 8 by omega)
        have q1 : IntKind.i64.wrap ((bf : Int) + (bn : Int)) = ((bf + bn : Nat) : Int) := by
          rw [← Int.natCast_add]; exact IntWalk.i64_in _ (by omega)
        have Hin := hid (show TwoAt wr (w.heap.size + 1 + 1) (.int .i64 bf) (.int .i64 bn) wr.drew from ⟨⟨d0, d1⟩, (Below.refl _ _).drew, hrlt⟩)
        generalize fromAt g cap' (bf + bn) = ad at *
        obtain ⟨sm, hsm⟩ : ∃ sm, sm = bf + bn := ⟨_, rfl⟩
        rw [← hsm] at q1 s2 HJ3
        have hb2n : (2 : Int) ≤ (bn : Int) := by omega
        clear hown hrn hrb hbel hBb hlen8 hrl hm hJ1 hJ2 hJ3 e1 hfin z1 z2 z3 hsm Hrn Hrb HT HG R Own A0 HJ hg0 hg2 hsz0 hgb hgl hcap hrlt hf8 hB hk
        go_wp2_with fail
        go_region_held3 (fun w' => (w'.cell? ⟨w.heap.size + 1 + 1, 0, none⟩ = some (.int .i64 bf) ∧ w'.cell? ⟨w.heap.size + 1 + 1, 1, none⟩ = some (.int .i64 bn)) ∧ Below wr.heap.size wr w' ∧ w.heap.size + 1 + 1 < w'.heap.size)
          (first
            | exact TwoAt.go ‹_› ‹_›
            | exact Hin.out)
          (first
            | (go_at_call 22; refine (join_is (by assumption) (by assumption)).mono ?_; rintro e w1 ⟨rfl, hb1⟩))
        rename_i hH
        obtain ⟨-, hBB, -⟩ := hH
        have Hb2 := hid (below_chain Hb.out hBB)
        clear hBB
        go_wp2
        go_ret
        exact ⟨rfl, B0.out.trans (Hb2.out.mono (by omega))⟩
end Go.Proofs.YtiookngmgednjaaDoor
