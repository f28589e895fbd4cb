/- Walk: footmanref04.Text of sixteen bytes. -/
import Derived.Test.YtiookngmgednjaaDoorAd5
namespace Go.Proofs.YtiookngmgednjaaDoor
open Go.RowKit Go.Lib

/-- The first k pieces lie in block g. -/
def PAt (w : World) (g : Nat) (B : List UInt8) (k : Nat) : Prop := ∃ C : Array Value, w.heap[g]? = some (.cells C 52 (0, 0)) ∧ C.size = 8 ∧ ∀ j < k, C[j]? = some (.int .i64 (pc B j))
theorem PAt.kept {w w' : World} {g k : Nat} {B : List UInt8} (h : PAt w g B k) (he : w'.heap[g]? = w.heap[g]?) : PAt w' g B k := by
  obtain ⟨C, h1, h2⟩ := h
  exact ⟨C, he.trans h1, h2⟩
theorem PAt.below {w w' : World} {g k b : Nat} {B : List UInt8} (h : PAt w g B k) (hb : Below b w w') (hg : g < b) : PAt w' g B k := h.kept (hb.block g hg)
theorem PAt.lt {w : World} {g k : Nat} {B : List UInt8} (h : PAt w g B k) : g < w.heap.size := by
  obtain ⟨C, h1, _⟩ := h
  exact (Array.getElem?_eq_some_iff.1 h1).1
theorem PAt.cell {w : World} {g k j : Nat} {B : List UInt8} (h : PAt w g B k) (hj : j < k) : w.cell? ⟨g, j, none⟩ = some (.int .i64 (pc B j)) := by
  obtain ⟨C, h1, h2, h3⟩ := h
  rw [cell_of_row _ _ _ _ _ _ h1, h3 j hj]
theorem PAt.some {w : World} {g k j : Nat} {B : List UInt8} (h : PAt w g B k) (hj : j < 8) : ∃ v, w.cell? ⟨g, j, none⟩ = some v := by
  obtain ⟨C, h1, h2, h3⟩ := h
  rw [cell_of_row _ _ _ _ _ _ h1]
  exact ⟨_, Array.getElem?_eq_getElem (by omega)⟩
theorem PAt.free {w : World} {g k : Nat} {B : List UInt8} (h : PAt w g B k) (j : Nat) : w.frozen? ⟨g, j, none⟩ = false := by
  obtain ⟨C, h1, _⟩ := h
  exact frozen_of_heap h1 j
theorem PAt.put {w : World} {g k : Nat} {B : List UInt8} (h : PAt w g B k) (hk : k < 8) {x : Int} (hx : x = (pc B k : Nat)) : PAt (w.setCell ⟨g, k, none⟩ (.int .i64 x)) g B (k + 1) := by
  subst hx
  obtain ⟨C, h1, h2, h3⟩ := h
  refine ⟨C.setIfInBounds k (.int .i64 (pc B k)), ?_, by simpa using h2, fun j hj => ?_⟩
  · exact Go.heap_setCell_same w g k C _ _ h1
  · by_cases e : k = j
    · subst e
      rw [Array.getElem?_setIfInBounds_self_of_lt (by omega)]
    · rw [Array.getElem?_setIfInBounds_ne e]
      exact h3 j (by omega)
theorem lead8 : ∀ a b c d e f g h : Bool, ∀ k < 8, (∀ j < lead [a, b, c, d, e, f, g, h] k, [a, b, c, d, e, f, g, h][k + j]? = some true) ∧ (k + lead [a, b, c, d, e, f, g, h] k = 8 ∨ [a, b, c, d, e, f, g, h][k + lead [a, b, c, d, e, f, g, h] k]? = some false) ∧ k + lead [a, b, c, d, e, f, g, h] k ≤ 8 := by decide +kernel
theorem lead_is (z : List Bool) (hz : z.length = 8) (k : Nat) (hk : k < 8) : (∀ j < lead z k, z[k + j]? = some true) ∧ (k + lead z k = 8 ∨ z[k + lead z k]? = some false) ∧ k + lead z k ≤ 8 := by
  match z, hz with
  | [a, b, c, d, e, f, g, h], _ => exact lead8 a b c d e f g h k hk
theorem zs_get {B : List UInt8} {j : Nat} {b : Bool} (h : (zs B)[j]? = some b) : (pc B j == 0) = b := by
  have hj : j < 8 := by
    have := (List.getElem?_eq_some_iff.1 h).1
    simpa [zs] using this
  simpa [zs, List.getElem?_map, List.getElem?_range hj] using h
theorem refRun_pos (z : List Bool) (k : Nat) : 1 ≤ (refRun z k).2 ∧ (refRun z k).1 ≤ k := by
  induction k with
  | zero => exact ⟨Nat.le_refl _, Nat.le_refl _⟩
  | succ k ih =>
    rw [refRun]
    split
    · exact ⟨by show 1 ≤ lead z k; omega, by show k ≤ k + 1; omega⟩
    · omega
theorem refRun_fits {B : List UInt8} {f n : Nat} (h : refRun (zs B) 8 = (f, n)) (hn : 1 < n) : f + n ≤ 8 := by
  rcases runs_ref (zs B) (by simp [zs]) with ⟨_, h2⟩ | ⟨_, h2, h3⟩
  · rw [h] at h2; simp only [] at h2; omega
  · rw [h] at h2; rw [← h2] at h3; exact h3
theorem hexL_get {B : List UInt8} {k : Nat} (hk : k < 8) : (hexL B).getD k [] = (baseT 16 (pc B k)).data.toList := by
  have e : baseT 16 (pc B k) = hexT (pc B k) := by rw [hexT, baseT, baseD_16]
  rw [e]
  simp [hexL, hexs, List.getD_eq_getElem?_getD, hk]
set_option maxHeartbeats 4000000 in
set_option maxRecDepth 100000 in
theorem refText_six (B : List UInt8) (hB : B.length = 16) (w : World) :
    Calls Tryd.prog 12 #[.agg (adrC true B)] w fun e w' => e = .returned (.string ⟨(sixL B).toArray⟩) ∧ Below w.heap.size w w' := by
  obtain ⟨J, hJ⟩ : ∃ J : ByteArray, J = ⟨(sixL B).toArray⟩ := ⟨_, rfl⟩
  rw [← hJ]
  have HJ := hid hJ
  clear hJ
  have A0 := hid (AdrAt.of_alloc w true B)
  have B0 : Hid (Below w.heap.size w (w.alloc (.cells (adrC true B) 24))) := hid ((Below.refl _ _).alloc (Nat.le_refl _) _)
  have Hn : w.heap.size < (w.alloc (.cells (adrC true B) 24)).heap.size := by simp
  have hsix := A0.out.six
  generalize adrC true B = C at *
  go_enter Tryd.func12, Tryd.ntmps12
  go_wp2_with fail
  generalize hw0 : w.alloc _ = w0 at *
  have hg0 : w0.heap.size = w.heap.size + 1 := by rw [← hw0]; simp
  clear hw0 hsix
  obtain ⟨w2, hw2⟩ : ∃ w2, w2 = w0.alloc (.cells #[.int .i64 0, .int .i64 0, .int .i64 0, .int .i64 0, .int .i64 0, .int .i64 0, .int .i64 0, .int .i64 0] 52) := ⟨_, rfl⟩
  have hp2 : PAt w2 (w.heap.size + 1) B 0 := ⟨_, by rw [hw2, ← hg0]; exact heap_alloc_new w0 _, rfl, fun j hj => absurd hj (Nat.not_lt_zero _)⟩
  have hb2 : Below w0.heap.size w0 w2 := by rw [hw2]; exact (Below.refl _ _).alloc (Nat.le_refl _) _
  rw [← hw2]
  have R := hid (And.intro hp2 hb2)
  clear hp2 hb2 hw2
  go_loopw [4] (fun i wr => ∃ k : Nat, k ≤ 8 ∧ i = .int .i64 k ∧ Hid (PAt wr (w.heap.size + 1) B k ∧ Below w0.heap.size w0 wr)) (fun i _ => 8 - (RowKit.intOf i).toNat)
  case atStart => exact ⟨0, by omega, rfl, R⟩
  case round =>
    obtain ⟨k, hk, rfl, hh⟩ := hrel
    obtain ⟨hP, hbel⟩ := hh.out
    have HP := hid hP
    have Hb := hid hbel
    by_cases hk8 : k < 8
    · have hk8' : (k : Int) < 8 := by omega
      have hk0 : (0 : Int) ≤ (k : Int) := by omega
      obtain ⟨m, hm⟩ : ∃ m, m = 2 * k := ⟨_, rfl⟩
      obtain ⟨x, hx⟩ : ∃ x, B[m]? = some x := ⟨B[m]'(by omega), List.getElem?_eq_getElem (by omega)⟩
      obtain ⟨y, hy⟩ : ∃ y, B[m + 1]? = some y := ⟨B[m + 1]'(by omega), List.getElem?_eq_getElem (by omega)⟩
      have hAt := A0.out.below hbel Hn
      have hcx := hAt.byte m x hx
      have hcy := hAt.byte (m + 1) y hy
      obtain ⟨old, hold⟩ := hP.some hk8
      have hfr := hP.free k
      have hpc : pc B k = 256 * x.toNat + y.toNat := by rw [pc, ← hm, List.getD_eq_getElem?_getD, List.getD_eq_getElem?_getD, hx, hy]; rfl
      have hxx := x.toNat_lt
      have hyy := y.toNat_lt
      obtain ⟨p, hp⟩ : ∃ p, p = pc B k := ⟨_, rfl⟩
      rw [← hp] at hpc
      have q1 : IntKind.i64.wrap (2 * (k : Int)) = (m : Int) := by rw [IntWalk.i64_in _ (by omega)]; omega
      have q2 : IntKind.i64.wrap ((m : Int) + 1) = (m : Int) + 1 := IntWalk.i64_in _ (by omega)
      have q3 : IntKind.i64.wrap (256 * (x.toNat : Int)) = 256 * (x.toNat : Int) := IntWalk.i64_in _ (by omega)
      have q4 : IntKind.i64.wrap (256 * (x.toNat : Int) + (y.toNat : Int)) = (p : Int) := by rw [IntWalk.i64_in _ (by omega)]; omega
      have q5 : IntKind.i64.wrap (x.toNat : Int) = (x.toNat : Int) := IntWalk.i64_in _ (by omega)
      have q6 : IntKind.i64.wrap (y.toNat : Int) = (y.toNat : Int) := IntWalk.i64_in _ (by omega)
      have m0 : (0 : Int) ≤ (m : Int) := by omega
      have m1 : (m : Int) < 16 := by omega
      have m2 : (0 : Int) ≤ (m : Int) + 1 := by omega
      have m3 : (m : Int) + 1 < 16 := by omega
      have Hp := hid hp
      have Hm := hid hm
      clear hm hp hpc hh hP hbel hAt hx hy hk8
      go_wp2_with fail
      go_region_held3 (fun w' => w'.cell? ⟨w.heap.size, 1 + m, none⟩ = some (.int .u8 x.toNat) ∧ w'.cell? ⟨w.heap.size, 1 + (m + 1), none⟩ = some (.int .u8 y.toNat)) (go_keep) (fail)
      go_wp2_with fail
      have hb3 : Below w0.heap.size w0 (wr.setCell ⟨w.heap.size + 1, k, none⟩ (.int .i64 (p : Int))).drew := ((Hb.out.setCell (by show _ ≤ w.heap.size + 1; omega) _)).drew
      have hP3 : PAt (wr.setCell ⟨w.heap.size + 1, k, none⟩ (.int .i64 (p : Int))).drew (w.heap.size + 1) B (k + 1) := (HP.out.put (by omega) (by rw [Hp.out])).kept rfl
      refine ⟨⟨k + 1, by omega, by go_num, hid ⟨hP3, hb3⟩⟩, ?_⟩
      simp only [RowKit.intOf]; omega
    · obtain rfl : k = 8 := by omega
      clear hh hP hbel hk8 hk
      go_wp2_with fail
      go_loop [5, 6, 7] (fun fv nv i => ∃ k f n : Nat, k ≤ 8 ∧ i = .int .i64 k ∧ fv = .int .i64 f ∧ nv = .int .i64 n ∧ n ≤ 8 ∧ Hid (refRun (zs B) k = (f, n))) (fun _ _ i => 8 - (RowKit.intOf i).toNat)
      case atStart => exact ⟨0, 0, 1, by omega, rfl, rfl, rfl, by omega, hid rfl⟩
      case round =>
        obtain ⟨k, f, n, hk, rfl, rfl, rfl, hn8, hR⟩ := hrel
        by_cases hk8 : k < 8
        · have hk8' : (k : Int) < 8 := by omega
          obtain ⟨L1, L2, L3⟩ := lead_is (zs B) (by simp [zs]) k hk8
          have hnext := hid (show refRun (zs B) (k + 1) = if (refRun (zs B) k).2 < lead (zs B) k then (k, lead (zs B) k) else refRun (zs B) k from rfl)
          generalize lead (zs B) k = q at *
          have L1 := hid L1
          have L2 := hid L2
          go_wp2_with fail
          go_loop [8] (fun v => ∃ j : Nat, j ≤ q ∧ v = .int .i64 j) (fun v => 8 - (RowKit.intOf v).toNat)
          case atStart => exact ⟨0, Nat.zero_le _, rfl⟩
          case round =>
            obtain ⟨j, hj, rfl⟩ := hrel
            by_cases hjq : j < q
            · have hc := HP.out.cell (j := k + j) (by omega)
              have hz : pc B (k + j) = 0 := by simpa using zs_get (L1.out j hjq)
              rw [hz] at hc
              have hlt : (k : Int) + (j : Int) < 8 := by omega
              clear hz
              go_wp2
              go_round
              case rel => exact ⟨j + 1, by omega, by go_num⟩
              case measure => simp only [RowKit.intOf]; omega
            · obtain rfl : j = q := by omega
              have hfin : (¬ (k : Int) + (j : Int) < 8) ∨ ((k : Int) + (j : Int) < 8 ∧ ∃ p : Nat, (p : Int) ≠ 0 ∧ wr.cell? ⟨w.heap.size + 1, k + j, none⟩ = some (.int .i64 p)) := by
                by_cases h8 : k + j < 8
                · refine .inr ⟨by omega, pc B (k + j), ?_, HP.out.cell (by omega)⟩
                  rcases L2.out with h | h
                  · omega
                  · have := zs_get h
                    simp at this; omega
                · exact .inl (by omega)
              clear hjq L1 L2
              rcases hfin with h8 | ⟨h8, p, hp0, hc⟩
              all_goals
                by_cases hnq : n < j
                · have hs := hnext.out
                  rw [hR.out] at hs
                  simp only [] at hs
                  rw [if_pos hnq] at hs
                  have Hs := hid hs
                  clear hs
                  go_wp2_with fail
                  exact ⟨⟨_, _, _, ⟨k + 1, by omega, by go_num, k, rfl, j, rfl, by omega, Hs⟩, rfl, rfl, rfl⟩, by simp only [RowKit.intOf]; omega⟩
                · have hs := hnext.out
                  rw [hR.out] at hs
                  simp only [] at hs
                  rw [if_neg hnq] at hs
                  have Hs := hid hs
                  clear hs
                  go_wp2_with fail
                  exact ⟨⟨_, _, _, ⟨k + 1, by omega, by go_num, f, rfl, n, rfl, by omega, Hs⟩, rfl, rfl, rfl⟩, by simp only [RowKit.intOf]; omega⟩
        · obtain rfl : k = 8 := by omega
          have hpos := refRun_pos (zs B) 8
          rw [hR.out] at hpos
          obtain ⟨hn1, hf8⟩ := hpos
          simp only [] at hn1 hf8
          have hsx : sixL B = refGo (hexL B) f n 9 0 [] := by rw [sixL, hR.out]
          have Hsx := hid hsx
          clear hsx hk8 hk
          go_wp2_with fail
          obtain ⟨wo, rfl⟩ : ∃ wo : World, wo = wr := ⟨_, rfl⟩
          go_loopw [9, 10] (fun sv i wr => ∃ (k fuel : Nat) (S : ByteArray), k ≤ 8 ∧ i = .int .i64 k ∧ sv = .string S ∧ Hid (sixL B = refGo (hexL B) f n fuel k S.data.toList ∧ 8 - k < fuel ∧ S.size ≤ 70000 * k ∧ PAt wr (w.heap.size + 1) B 8 ∧ Below w0.heap.size w0 wr)) (fun _ i _ => 8 - (RowKit.intOf i).toNat)
          case atStart => exact ⟨0, 9, ⟨#[]⟩, by omega, rfl, rfl, hid ⟨Hsx.out, by omega, by decide, HP.out, Hb.out⟩⟩
          case round =>
            obtain ⟨k, fuel, S, hk, rfl, rfl, hh⟩ := hrel
            obtain ⟨g1, g2, g3, g4, g5⟩ := hh.out
            have G1 := hid g1
            have G4 := hid g4
            have G5 := hid g5
            clear g1 g4 g5 hh
            by_cases hk8 : k < 8
            · have hk8' : (k : Int) < 8 := by omega
              obtain ⟨fu, rfl⟩ : ∃ fu, fuel = fu + 1 := ⟨fuel - 1, by omega⟩
              have hgo := G1.out
              rw [refGo, if_neg (by omega)] at hgo
              by_cases hA : 1 < n ∧ k = f
              · rw [if_pos hA] at hgo
                obtain ⟨hA1, rfl⟩ := hA
                obtain ⟨S2, hS2⟩ : ∃ S2 : ByteArray, S2 = S ++ ⟨#[58, 58]⟩ := ⟨_, rfl⟩
                have a1 := add_is' hS2 (by omega) (by decide)
                have hz : S2.size ≤ 70000 * (k + n) := by rw [hS2, cat_z]; have : (⟨#[58, 58]⟩ : ByteArray).size = 2 := rfl; omega
                have hl : S2.data.toList = S.data.toList ++ [58, 58] := by rw [hS2, cat_l]
                rw [← hl] at hgo
                have Hgo := hid hgo
                have hkn := refRun_fits hR.out hA1
                clear hgo hS2 hl
                go_wp2_with fail
                refine ⟨⟨k + n, fu, S2, hkn, by go_num, rfl, hid ⟨Hgo.out, by omega, hz, G4.out, G5.out⟩⟩, ?_⟩
                simp only [RowKit.intOf]; omega
              · rw [if_neg hA] at hgo
                have hc := G4.out.cell (j := k) (by omega)
                have hp16 := pc_lt B k
                rw [hexL_get hk8] at hgo
                obtain ⟨p, hp⟩ : ∃ p, p = pc B k := ⟨_, rfl⟩
                rw [← hp] at hc hp16 hgo
                have HD := hid (refDigits16 p hp16)
                have hz16 := baseT_size 16 p
                obtain ⟨D, hD⟩ : ∃ D, D = baseT 16 p := ⟨_, rfl⟩
                rw [← hD] at HD hz16 hgo
                clear hp hD
                obtain ⟨S1, hS1⟩ : ∃ S1 : ByteArray, S1 = S ++ ⟨#[58]⟩ := ⟨_, rfl⟩
                have z1 : S1.size = S.size + 1 := by rw [hS1, cat_z]; rfl
                have a1 := add_is' hS1 (by omega) (by decide)
                have ways : (k = 0 ∧ (n = 1 ∨ (1 < n ∧ k ≠ f))) ∨ (0 < k ∧ n = 1) ∨ (0 < k ∧ 1 < n ∧ k ≠ f ∧ k ≠ f + n) ∨ (0 < k ∧ 1 < n ∧ k ≠ f ∧ k = f + n) := by omega
                have hcut : (0 < k ∧ (n = 1 ∨ k ≠ f + n)) ∨ ¬ (0 < k ∧ (n = 1 ∨ k ≠ f + n)) := by omega
                rcases hcut with hcut | hcut
                · rw [if_pos hcut] at hgo
                  have hl : S1.data.toList = S.data.toList ++ [58] := by rw [hS1, cat_l]
                  rw [← hl] at hgo
                  obtain ⟨T, hT⟩ : ∃ T : ByteArray, T = S1 ++ D := ⟨_, rfl⟩
                  have a2 := add_is' hT (by omega) (by omega)
                  have hz : T.size ≤ 70000 * (k + 1) := by rw [hT, cat_z]; omega
                  have hl2 : T.data.toList = S1.data.toList ++ D.data.toList := by rw [hT, cat_l]
                  rw [← hl2] at hgo
                  have Hgo := hid hgo
                  have hk0 : (0 : Int) < (k : Int) := by omega
                  have hw2 : n = 1 ∨ (1 < n ∧ k ≠ f ∧ k ≠ f + n) := by omega
                  clear hgo hS1 hl hl2 hT ways hcut hA
                  rcases hw2 with h1 | ⟨h1, h2, h3⟩
                  · have i1 : ¬ (n : Int) > 1 := by omega
                    have i4 : ((n : Int) == 1) = true := by rw [beq_iff_eq]; omega
                    have H1 := hid h1
                    clear h1
                    go_wp2_with fail
                    refine (HD.out _).mono ?_
                    rintro e w3 ⟨rfl, hb3⟩
                    have Hb3 := hid hb3
                    clear hb3
                    go_wp2
                    refine ⟨⟨k + 1, fu, T, by omega, by go_num, rfl, hid ⟨Hgo.out, by omega, hz, G4.out.below Hb3.out G4.out.lt, below_chain G5.out Hb3.out⟩⟩, ?_⟩
                    simp only [RowKit.intOf]; omega
                  · have i2 : ((k : Int) == (f : Int)) = false := by rw [beq_eq_false_iff_ne]; omega
                    have i3 : ((k : Int) != (f : Int) + (n : Int)) = true := by rw [bne_iff_ne]; omega
                    have i4 : ((n : Int) == 1) = false := by rw [beq_eq_false_iff_ne]; omega
                    go_wp2_with fail
                    refine (HD.out _).mono ?_
                    rintro e w3 ⟨rfl, hb3⟩
                    have Hb3 := hid hb3
                    clear hb3
                    go_wp2
                    refine ⟨⟨k + 1, fu, T, by omega, by go_num, rfl, hid ⟨Hgo.out, by omega, hz, G4.out.below Hb3.out G4.out.lt, below_chain G5.out Hb3.out⟩⟩, ?_⟩
                    simp only [RowKit.intOf]; omega
                · rw [if_neg hcut] at hgo
                  obtain ⟨T, hT⟩ : ∃ T : ByteArray, T = S ++ D := ⟨_, rfl⟩
                  have a2 := add_is' hT (by omega) (by omega)
                  have hz : T.size ≤ 70000 * (k + 1) := by rw [hT, cat_z]; omega
                  have hl2 : T.data.toList = S.data.toList ++ D.data.toList := by rw [hT, cat_l]
                  rw [← hl2] at hgo
                  have Hgo := hid hgo
                  have hw2 : (k = 0 ∧ n = 1) ∨ (k = 0 ∧ 1 < n ∧ k ≠ f) ∨ (0 < k ∧ 1 < n ∧ k ≠ f ∧ k = f + n) := by omega
                  clear hgo hS1 hl2 hT ways hcut hA
                  rcases hw2 with ⟨h0, h1⟩ | ⟨h0, h1, h2⟩ | ⟨h0, h1, h2, h3⟩
                  · have i1 : ¬ (n : Int) > 1 := by omega
                    have i0 : ¬ (k : Int) > 0 := by omega
                    have H1 := hid h1
                    have H0 := hid h0
                    clear h1 h0
                    go_wp2_with fail
                    refine (HD.out _).mono ?_
                    rintro e w3 ⟨rfl, hb3⟩
                    have Hb3 := hid hb3
                    clear hb3
                    go_wp2
                    refine ⟨⟨k + 1, fu, T, by omega, by go_num, rfl, hid ⟨Hgo.out, by omega, hz, G4.out.below Hb3.out G4.out.lt, below_chain G5.out Hb3.out⟩⟩, ?_⟩
                    simp only [RowKit.intOf]; omega
                  · have i2 : ((k : Int) == (f : Int)) = false := by rw [beq_eq_false_iff_ne]; omega
                    have i0 : ¬ (k : Int) > 0 := by omega
                    have H0 := hid h0
                    clear h0
                    go_wp2_with fail
                    refine (HD.out _).mono ?_
                    rintro e w3 ⟨rfl, hb3⟩
                    have Hb3 := hid hb3
                    clear hb3
                    go_wp2
                    refine ⟨⟨k + 1, fu, T, by omega, by go_num, rfl, hid ⟨Hgo.out, by omega, hz, G4.out.below Hb3.out G4.out.lt, below_chain G5.out Hb3.out⟩⟩, ?_⟩
                    simp only [RowKit.intOf]; omega
                  · have i2 : ((k : Int) == (f : Int)) = false := by rw [beq_eq_false_iff_ne]; omega
                    have i3 : ((k : Int) != (f : Int) + (n : Int)) = false := by rw [bne_eq_false_iff_eq]; omega
                    have i4 : ((n : Int) == 1) = false := by rw [beq_eq_false_iff_ne]; omega
                    have H3 := hid h3
                    clear h3
                    go_wp2_with fail
                    refine (HD.out _).mono ?_
                    rintro e w3 ⟨rfl, hb3⟩
                    have Hb3 := hid hb3
                    clear hb3
                    go_wp2
                    refine ⟨⟨k + 1, fu, T, by omega, by go_num, rfl, hid ⟨Hgo.out, by omega, hz, G4.out.below Hb3.out G4.out.lt, below_chain G5.out Hb3.out⟩⟩, ?_⟩
                    simp only [RowKit.intOf]; omega
            · obtain rfl : k = 8 := by omega
              obtain ⟨fu, rfl⟩ : ∃ fu, fuel = fu + 1 := ⟨fuel - 1, by omega⟩
              have hgo := G1.out
              rw [refGo, if_pos (by omega)] at hgo
              have hfin : J = S := bytes_ext (by rw [HJ.out, hgo])
              subst hfin
              clear hgo
              go_wp2_with fail
              go_ret
              exact ⟨rfl, B0.out.trans (G5.out.mono (by omega))⟩
end Go.Proofs.YtiookngmgednjaaDoor
