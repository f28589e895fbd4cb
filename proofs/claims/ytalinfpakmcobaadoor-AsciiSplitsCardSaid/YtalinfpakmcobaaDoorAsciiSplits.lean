/- Walk of the law AsciiSplits: the parts of every text, at any byte, are exactly the documented ones, and in memory of their own. -/
import Derived.Test.YtalinfpakmcobaaDoorBk6
import Derived.Test.YtalinfpakmcobaaDoorSplR
import Derived.Test.YtalinfpakmcobaaDoorLaid
import Derived.Test.YtalinfpakmcobaaDoorRows
namespace Go.Proofs.YtalinfpakmcobaaDoor
open Go.RowKit Go.Lib Go.Proofs.Foot

theorem tb_of {laid : List (String × DataW Unit)} {w : World} (hL : laidMetH Tryd.prog laid w) (hf3 : (laid.filter fun x => x.1 == "internal/strconv.uint64pow10") = [("internal/strconv.uint64pow10", Lib.tabData .u64 Lib.pow10Tab)]) : Tb w :=
  laid_tab Lib.pow10Tab hL (show Tryd.prog.globalNamed "internal/strconv.uint64pow10" = some 5 by kernel_rfl) (show (Tryd.prog.globals[5]?).map (·.type) = some 159 by kernel_rfl) Tryd.underlying159 Tryd.underlying47 (by kernel_rfl) (by kernel_rfl) hf3 (by kernel_rfl)
theorem sameTexts_atS (ga gb : Nat) (l : List ByteArray) (ca cb : Nat) (w : World) (hl : l.length ≤ 140737488355328) (ha : ∀ i t, l[i]? = some t → w.cell? ⟨ga, i, none⟩ = some (.string t)) (hb : ∀ i t, l[i]? = some t → w.cell? ⟨gb, i, none⟩ = some (.string t)) :
    Calls Tryd.prog 15 #[.slice (some ⟨ga, 0, none⟩) l.length ca, .slice (some ⟨gb, 0, none⟩) l.length cb] w fun e w' => e = .returned (.bool true) ∧ Below w.heap.size w w' := by
  refine (sameTexts_yes ga gb l ca cb w hl ha hb).mono ?_
  rintro e w' ⟨he, n, rfl⟩
  exact ⟨he, below_drewN n⟩
theorem infoBk (tv : Value) (n : Nat) : (Tryd.prog.info? 37).map (·.size) = some (bkC n tv).size := by rw [show (bkC n tv).size = 9 from rfl]; kernel_rfl
theorem bk_one : (bkC 0 (.slice none 0 0)).all (·.oneCell') = true := all_oneCell_toArray (cs := [.int .i64 0, .slice none 0 0, .slice none 0 0, .slice none 0 0, .slice none 0 0, .slice none 0 0, .slice none 0 0, .slice none 0 0, .slice none 0 0]) (by
  intro u hu; simp only [List.mem_cons, List.not_mem_nil, or_false] at hu; rcases hu with rfl | rfl | rfl | rfl | rfl | rfl | rfl | rfl | rfl <;> rfl)
theorem texts_0 (w : World) (B0 g l N : Nat) (hb : Bk w g 0 (.slice none 0 0)) (hB : B0 ≤ w.heap.size) :
    Calls Tryd.prog 17 #[.pointer (some ⟨g, 0, none⟩), .slice (some ⟨l, 0, none⟩) N N] w (KeepR B0 g 1 (.slice none 0 0) (heldC l N (.slice none 0 0) 1) w) := by
  have HK := hid (keepText_0 w B0 g l N hb hB)
  clear hb hB
  go_enter Tryd.func17, Tryd.ntmps17
  go_wp2_with fail
  refine HK.out.mono ?_
  rintro e w1 ⟨rfl, h1⟩
  have H1 := hid h1
  clear h1
  go_wp2
  go_end0
  exact ⟨rfl, H1.out⟩
theorem texts_1 (w : World) (B0 g l N : Nat) (gt cap l0 : Nat) (hb : Bk w g 1 (.slice (some ⟨gt, 0, none⟩) 1 cap)) (hB : B0 ≤ w.heap.size) (hown : w.ownsRow B0 72 3 (.slice (some ⟨gt, 0, none⟩) 1 cap) 1 (heldC l0 N (.slice none 0 0) 1)) (hgt : gt ≠ g) :
    Calls Tryd.prog 17 #[.pointer (some ⟨g, 0, none⟩), .slice (some ⟨l, 0, none⟩) N N] w (KeepR B0 g 2 (.slice (some ⟨gt, 0, none⟩) 1 cap) (heldC l0 N (.slice none 0 0) 1 ++ heldC l N (.slice none 0 0) 2) w) := by
  have HK := hid (keepText_1 w B0 g l N gt cap l0 hb hB hown hgt)
  clear hb hB hown hgt
  go_enter Tryd.func17, Tryd.ntmps17
  go_wp2_with fail
  refine HK.out.mono ?_
  rintro e w1 ⟨rfl, h1⟩
  have H1 := hid h1
  clear h1
  go_wp2
  go_end0
  exact ⟨rfl, H1.out⟩
set_option maxHeartbeats 2000000 in
set_option maxRecDepth 100000 in
theorem asciiSplits_walk (s : ByteArray) (_hs : s.size ≤ maxLen) (z : s.size ≤ 140737488351232) (x : Int) (wx : (Lit.int .u8 x).wf = true) (w : World) (hL : laidMetH Tryd.prog Rows.asciiSplitsRow.laid w) (hsh : w.ShapedOpen Tryd.prog) :
    Calls Tryd.prog 4 #[.string s, .int .u8 x] w fun e w' => e = .returned (.bool true) ∧ Below w.heap.size w w' := by
  obtain ⟨c, rfl⟩ := u8_of wx
  have HT := hid (tb_of hL (by kernel_rfl))
  have G := hid hsh
  clear hL hsh _hs wx
  cases hb : beyond [s.size] with
  | true =>
    go_enter Tryd.func4, Tryd.ntmps4
    go_wp2_with (go_at_call 11; refine (beyond1 _ _ z).mono ?_; rintro e w1 ⟨rfl, rfl⟩)
    go_ret
    exact ⟨rfl, (Below.refl _ _).alloc (Nat.le_refl _) _⟩
  | false =>
    have hle := beyond_le (zs := [s.size]) (by rw [hb]; decide)
    have hs : s.size ≤ 1048576 := by simpa using hle
    clear hle
    obtain ⟨A, hA⟩ := texts_of (parts c s.data.toList)
    have lA : A.length = s.data.toList.count c + 1 := by rw [← parts_length, hA, List.length_map]
    have cA := List.count_le_length (a := c) (l := s.data.toList)
    rw [← Lib.size_eq] at cA
    have hAl : A.length ≤ 1048577 := by omega
    have h1A : 1 ≤ A.length := by omega
    have HA := hid hA
    clear hA lA cA
    go_enter Tryd.func4, Tryd.ntmps4
    go_wp2_with fail
    refine (beyond1 _ _ z).mono ?_
    rintro e w1 ⟨rfl, rfl⟩
    have hb1 : Below w.heap.size w (w.alloc (.cells #[.int .i64 s.size] 3)) := (Below.refl _ _).alloc (Nat.le_refl _) _
    have B1 := hid hb1
    clear hb1
    generalize w.alloc _ = w1 at *
    go_wp2_with fail
    refine (split_is _ (good_below G.out B1.out) s c (by omega) A HA.out).mono ?_
    rintro e w2 ⟨rfl, ht2, hb2⟩
    have T2 := hid ht2
    have B2 := hid (below_chain B1.out hb2)
    clear ht2 hb2
    go_wp2_with fail
    refine (split_is _ (good_below G.out B2.out) s c (by omega) A HA.out).mono ?_
    rintro e w3 ⟨rfl, ht3, hb3⟩
    have T3 := hid ht3
    have T2b := hid (T2.out.below hb3 T2.out.lt)
    have B3 := hid (below_chain B2.out hb3)
    clear ht3 hb3
    go_wp2_with fail
    refine (splitR_any s c _ (by omega) A HA.out).mono ?_
    rintro e w4 ⟨gr, cr, rfl, hcr, hb4⟩
    have T3b := hid (T3.out.below hb4 T3.out.lt)
    have T2c := hid (T2b.out.below hb4 T2b.out.lt)
    have B4 := hid (below_chain B3.out hb4)
    have HS := hid (sameTexts_atS (w1.heap.size + 1) gr A A.length cr w4 (by omega) (fun _ _ h => T2c.out.cell h) hcr)
    have Z4 := hid hb4.size
    clear hb4 hcr
    go_wp2_with fail
    refine HS.out.mono ?_
    rintro e w5 ⟨rfl, hb5⟩
    have T3c := hid (T3b.out.below hb5 T3b.out.lt)
    have T2d := hid (T2c.out.below hb5 T2c.out.lt)
    have B5 := hid (below_chain B4.out hb5)
    have Z5 := hid hb5.size
    clear hb5 HS
    go_upto_region 8 with (refine wpList_store_row rfl 37 _ _ rfl w5.heap.size (bkC 0 (.slice none 0 0)) rfl rfl _ _ (heap_alloc_new w5 _) (infoBk _ _) rfl bk_one ?_)
    have hb6 : Below w5.heap.size w5 ((w5.alloc (.cells #[.int .i64 0, .slice none 0 0, .slice none 0 0, .slice none 0 0, .slice none 0 0, .slice none 0 0, .slice none 0 0, .slice none 0 0, .slice none 0 0] 37)).setRow w5.heap.size (bkC 0 (.slice none 0 0))) := laid_belowB _ _ _ _
    have hk6 : Bk ((w5.alloc (.cells #[.int .i64 0, .slice none 0 0, .slice none 0 0, .slice none 0 0, .slice none 0 0, .slice none 0 0, .slice none 0 0, .slice none 0 0, .slice none 0 0] 37)).setRow w5.heap.size (bkC 0 (.slice none 0 0))) w5.heap.size 0 (.slice none 0 0) := laid_rowB _ _ _ _
    have T3d := hid (T3c.out.below hb6 T3c.out.lt)
    have T2e := hid (T2d.out.below hb6 T2d.out.lt)
    have B6 := hid (below_chain B5.out hb6)
    have K6 := hid hk6
    have l2 : w1.heap.size + 1 < w2.heap.size := T2.out.lt
    have l3 : w2.heap.size + 1 < w3.heap.size := T3.out.lt
    have z4 := Z4.out
    have z5 := Z5.out
    have z1 := B1.out.size
    clear hb6 hk6
    generalize World.setRow _ w5.heap.size _ = w6 at *
    obtain ⟨gk, hgk⟩ : ∃ gk, gk = w5.heap.size := ⟨_, rfl⟩
    obtain ⟨ga, hga⟩ : ∃ ga, ga = w1.heap.size + 1 := ⟨_, rfl⟩
    obtain ⟨gb, hgb⟩ : ∃ gb, gb = w2.heap.size + 1 := ⟨_, rfl⟩
    rw [← hgk] at K6 ⊢
    rw [← hga] at T2e ⊢
    rw [← hgb] at T3d ⊢
    have d1 : w.heap.size ≤ ga := by omega
    have d2 : w.heap.size ≤ gb := by omega
    have d3 : w.heap.size ≤ gk := by omega
    have d4 : ga < gb := by omega
    have d5 : gb < gk := by omega
    have HD := hid (And.intro d1 (And.intro d2 (And.intro d3 (And.intro d4 d5))))
    have hz6 := B6.out.size
    have HX := hid (texts_0 w6 w.heap.size gk ga A.length K6.out hz6)
    clear hgk hga hgb d1 d2 d3 d4 d5 l2 l3 z4 z5 z1 hz6 T2 T2b T2c T2d T3 T3b T3c Z4 Z5
    go_wp2_with fail
    refine HX.out.mono ?_
    rintro e w7 ⟨rfl, g1, c1, hk7, ho7, ht7, ha7⟩
    have hne : ∀ k, k < w6.heap.size → k ≠ gk → w7.heap[k]? = w6.heap[k]? := fun k hk hn => ht7.block k hk (fun h => by
      rcases h with h | h
      · exact hn h
      · cases h)
    have hg1 : w6.heap.size ≤ g1 := by
      rcases ha7 with h | h
      · cases h
      · exact h
    have T2f := hid (show Texts w7 ga A from (hne ga T2e.out.lt (by have := HD.out; omega)).trans T2e.out)
    have T3e := hid (show Texts w7 gb A from (hne gb T3d.out.lt (by have := HD.out; omega)).trans T3d.out)
    have hb7 : Below w.heap.size w6 w7 := ht7.below (fun k h => by
      rcases h with h | h
      · rw [h]; exact HD.out.2.2.1
      · cases h) B6.out.size
    have B7 := hid (B6.out.trans hb7)
    have hgk1 : g1 ≠ gk := by have := K6.out.lt; omega
    have HY := hid (texts_1 w7 w.heap.size gk gb A.length g1 c1 ga hk7 B7.out.size ho7 hgk1)
    have HG := hid (And.intro hg1 (And.intro K6.out.lt (And.intro T2e.out.lt T3d.out.lt)))
    have Z7 := hid ht7.size
    have O7 := hid (own_lt ho7)
    clear hne hb7 hg1 hgk1 hk7 ho7 ht7 ha7 HX T2e T3d K6
    go_wp2_with fail
    refine HY.out.mono ?_
    rintro e w8 ⟨rfl, g2, c2, hk8, ho8, ht8, ha8⟩
    have hne : ∀ k, k < w7.heap.size → k ≠ gk → k ≠ g1 → w8.heap[k]? = w7.heap[k]? := fun k hk hn hn2 => ht8.block k hk (fun h => by
      rcases h with h | h
      · exact hn h
      · simp only [Value.ownBlock, Option.some.injEq] at h
        exact hn2 h.symm)
    have T2g : Texts w8 ga A := (hne ga T2f.out.lt (by have := HD.out; omega) (by have := HD.out; have := HG.out; omega)).trans T2f.out
    have T3f : Texts w8 gb A := (hne gb T3e.out.lt (by have := HD.out; omega) (by have := HD.out; have := HG.out; omega)).trans T3e.out
    have hb8 : Below w.heap.size w7 w8 := ht8.below (fun k h => by
      rcases h with h | h
      · rw [h]; exact HD.out.2.2.1
      · simp only [Value.ownBlock, Option.some.injEq] at h
        rw [← h]; have := HG.out; have := B6.out.size; omega) B7.out.size
    have B8 := B7.out.trans hb8
    have hg2 : gk < g2 := by
      rcases ha8 with h | h
      · simp only [Value.ownBlock, Option.some.injEq] at h
        have := HG.out; omega
      · have := HG.out; have := Z7.out; omega
    have dis : Dis w.heap.size gk g2 ga gb := by
      have := HD.out
      exact ⟨by omega, by omega, by omega, by omega, by omega, by omega, by omega, by omega, by omega, by omega⟩
    have HP : Hid (Pz w gk g2 c2 ga gb A.length (.slice none 0 0) (.slice none 0 0) A A w8) := hid ⟨hk8, ho8, T2g, T3f, B8⟩
    have HQ := hid (apart_any w w8 gk g2 c2 ga gb A.length A A HT.out dis rfl rfl (by omega) h1A HP.out)
    clear hne T2g T3f hb8 B8 hg2 dis hk8 ho8 ht8 ha8 HY HP
    go_wp2_with fail
    refine HQ.out.mono ?_
    rintro e w9 ⟨rfl, hb9⟩
    have B9 := hid hb9
    clear hb9
    go_wp2
    go_ret
    exact ⟨rfl, B9.out⟩
end Go.Proofs.YtalinfpakmcobaaDoor
