/- Walk of the law AsciiParts: a text has one part more than it has bytes at which it is split; two texts with such a byte between have the parts of both. -/
import Derived.Test.YtalinfpakmcobaaDoorAlv1
import Derived.Test.YtalinfpakmcobaaDoorRows
import Derived.Deep.RegionHeld3
import Derived.Test.YtalinfpakmcobaaDoorAppG
import Derived.Deep.OwnRows
import Derived.Lib.SmallJoins
namespace Go.Proofs.YtalinfpakmcobaaDoor
open Go.RowKit Go.Lib Go.Proofs.Foot

theorem cat_list (s t : ByteArray) : (s ++ t).data.toList = s.data.toList ++ t.data.toList := by simp [ByteArray.data_append]
theorem cat_size (s t : ByteArray) : (s ++ t).size = s.size + t.size := by rw [Lib.size_eq, cat_list, List.length_append, ← Lib.size_eq, ← Lib.size_eq]

theorem sameTexts_at (ga gb : Nat) (l : List ByteArray) (ca cb : Nat) (w : World) (hl : l.length ≤ 140737488355328) (ha : ∀ i t, l[i]? = some t → w.cell? ⟨ga, i, none⟩ = some (.string t)) (hb : ∀ i t, l[i]? = some t → w.cell? ⟨gb, i, none⟩ = some (.string t)) :
    Calls Tryd.prog 15 #[.slice (some ⟨ga, 0, none⟩) l.length ca, .slice (some ⟨gb, 0, none⟩) l.length cb] w fun e w' => e = .returned (.bool true) ∧ Below w.heap.size w w' := by
  refine (sameTexts_yes ga gb l ca cb w hl ha hb).mono ?_
  rintro e w' ⟨he, n, rfl⟩
  exact ⟨he, below_drewN n⟩
theorem str_info : (Tryd.prog.info? 9).map (fun i => (i.zero, i.size, i.bytes)) = some (some (.string ⟨#[]⟩), 1, 16) := by kernel_rfl
theorem texts_cells {w : World} {g : Nat} {l : List ByteArray} (h : Texts w g l) : ∀ (j : Nat) (u : Value), (l.map Value.string)[j]? = some u → w.cell? ((⟨g, 0, none⟩ : Addr).add j) = some u := by
  intro j u hu
  rw [List.getElem?_map, Option.map_eq_some_iff] at hu
  obtain ⟨t, ht, rfl⟩ := hu
  have hadd : (⟨g, 0, none⟩ : Addr).add j = ⟨g, j, none⟩ := by unfold Addr.add; split <;> simp_all
  rw [hadd]; exact h.cell ht
/-- Both rows of texts lie, and nothing of w0 has turned. -/
def Both (w0 : World) (ga gb : Nat) (A B : List ByteArray) (w : World) : Prop := Texts w ga A ∧ Texts w gb B ∧ Below w0.heap.size w0 w
theorem Both.go {w0 w w' : World} {ga gb k : Nat} {A B : List ByteArray} {p : ByteArray} (h : w.cell? ⟨ga, k, none⟩ = some (.string p) ∧ Both w0 ga gb A B w) (hb : Below w.heap.size w w') : w'.cell? ⟨ga, k, none⟩ = some (.string p) ∧ Both w0 ga gb A B w' := by
  obtain ⟨hc, ha, hb1, hbel⟩ := h
  exact ⟨(hb.cell (p := ⟨ga, k, none⟩) ha.lt).trans hc, ha.below hb ha.lt, hb1.below hb hb1.lt, below_chain hbel hb⟩

theorem Both.drew {w0 w : World} {ga gb : Nat} {A B : List ByteArray} (h : Both w0 ga gb A B w) : Both w0 ga gb A B w.drew := ⟨h.1, h.2.1, h.2.2.drew⟩

set_option maxHeartbeats 1500000 in
set_option maxRecDepth 100000 in
theorem asciiParts_walk (s : ByteArray) (_hs : s.size ≤ maxLen) (z : s.size ≤ 140737488351232) (t : ByteArray) (_ht : t.size ≤ maxLen) (zt : t.size ≤ 140737488351232) (x : Int) (wx : (Lit.int .u8 x).wf = true) (w : World) (_hL : laidMetH Tryd.prog Rows.asciiPartsRow.laid w) (hsh : w.ShapedOpen Tryd.prog) :
    Calls Tryd.prog 8 #[.string s, .string t, .int .u8 x] w fun e w' => e = .returned (.bool true) ∧ Below w.heap.size w w' := by
  obtain ⟨c, rfl⟩ := u8_of wx
  have G := hid hsh
  clear _hL hsh _hs _ht wx
  cases hb : beyond [s.size, t.size] with
  | true =>
    go_enter Tryd.func8, Tryd.ntmps8
    go_wp2_with fail
    refine (alive_any _ G.out).mono ?_
    rintro e w1 ⟨rfl, hb1⟩
    have B1 := hid hb1
    clear hb1
    go_wp2_with (go_at_call 11; refine (beyond2 _ _ _ z zt).mono ?_; rintro e w2 ⟨rfl, rfl⟩)
    have hb2 : Below w1.heap.size w1 (w1.alloc (.cells #[.int .i64 s.size, .int .i64 t.size] 3)) := (Below.refl _ _).alloc (Nat.le_refl _) _
    have B2 := hid (below_chain B1.out hb2)
    clear hb2
    refine (alive_any _ (good_below G.out B2.out)).mono ?_
    rintro e w3 ⟨rfl, hb3⟩
    have B3 := hid (below_chain B2.out hb3)
    clear hb3
    go_wp2_with fail
    go_ret
    exact ⟨rfl, B3.out⟩
  | false =>
    have hle := beyond_le (zs := [s.size, t.size]) (by rw [hb]; decide)
    have hst : s.size + t.size ≤ 1048576 := by simpa using hle
    clear hle
    have c256 : (c.toNat : Int) < 256 := by have := c.toNat_lt; omega
    have hsz : s.size ≤ 1048576 := by omega
    have htz : t.size ≤ 1048576 := by omega
    obtain ⟨A, hA⟩ := texts_of (parts c s.data.toList)
    obtain ⟨B, hB⟩ := texts_of (parts c t.data.toList)
    have lA : A.length = s.data.toList.count c + 1 := by rw [← parts_length, hA, List.length_map]
    have lB : B.length = t.data.toList.count c + 1 := by rw [← parts_length, hB, List.length_map]
    have cA := List.count_le_length (a := c) (l := s.data.toList)
    have cB := List.count_le_length (a := c) (l := t.data.toList)
    rw [← Lib.size_eq] at cA cB
    have hAl : A.length ≤ 1048577 := by omega
    have hBl : B.length ≤ 1048577 := by omega
    have HA := hid hA
    have HB := hid hB
    have LA := hid lA
    have hel : ∀ p ∈ A, p.size ≤ 1048576 ∧ trim p.data.toList = p.data.toList ∧ c ∉ p.data.toList := by
      intro p hp
      have hm : p.data.toList ∈ parts c s.data.toList := by rw [hA]; exact List.mem_map_of_mem hp
      refine ⟨?_, parts_trim c _ _ hm, parts_no c _ _ hm⟩
      have h1 := parts_le c _ _ hm
      have h2 := Lib.size_eq s
      rw [Lib.size_eq]; omega
    have Hel := hid hel
    clear hA hB lA lB cA cB hel
    go_enter Tryd.func8, Tryd.ntmps8
    go_wp2_with fail
    refine (alive_any _ G.out).mono ?_
    rintro e w1 ⟨rfl, hb1⟩
    have B1 := hid hb1
    clear hb1
    go_wp2_with fail
    refine (beyond2 _ _ _ z zt).mono ?_
    rintro e w2 ⟨rfl, rfl⟩
    have hb2 : Below w1.heap.size w1 (w1.alloc (.cells #[.int .i64 s.size, .int .i64 t.size] 3)) := (Below.refl _ _).alloc (Nat.le_refl _) _
    have B2 := hid (below_chain B1.out hb2)
    clear hb2
    generalize w1.alloc _ = w2 at *
    go_wp2_with fail
    refine (split_is _ (good_below G.out B2.out) s c (by omega) A HA.out).mono ?_
    rintro e w3 ⟨rfl, ht3, hb3⟩
    have T3 := hid ht3
    have B3 := hid (below_chain B2.out hb3)
    clear ht3 hb3
    go_wp2_with fail
    refine (split_is _ (good_below G.out B3.out) t c (by omega) B HB.out).mono ?_
    rintro e w4 ⟨rfl, ht4, hb4⟩
    have T4 := hid ht4
    have T3' := hid (T3.out.below hb4 T3.out.lt)
    have B4 := hid (below_chain B3.out hb4)
    clear ht4 hb4
    go_wp2_with fail
    go_loop [9, 10] (fun n i => ∃ k : Nat, k ≤ s.size ∧ i = .int .i64 k ∧ n = .int .i64 ((s.data.toList.take k).count c + 1 : Nat)) (fun _ i => s.size - (RowKit.intOf i).toNat)
    case atStart => exact ⟨0, Nat.zero_le _, rfl, by simp⟩
    case round =>
      obtain ⟨k, hk, rfl, rfl⟩ := hrel
      have hcl := List.count_le_length (a := c) (l := s.data.toList.take k)
      have hct : (s.data.toList.take k).length ≤ k := List.length_take_le _ _
      by_cases hlt : k < s.size
      · obtain ⟨d, hd⟩ : ∃ d, s[k]'hlt = d := ⟨_, rfl⟩
        have hl : k < s.data.toList.length := by rw [← Lib.size_eq]; exact hlt
        have e : s.data.toList[k]'hl = d := hd
        have hsn := count_snoc c hl
        rw [e] at hsn
        have d256 : (d.toNat : Int) < 256 := by have := d.toNat_lt; omega
        obtain ⟨m, hm⟩ : ∃ m, m = (s.data.toList.take k).count c := ⟨_, rfl⟩
        rw [← hm] at hsn hcl ⊢
        have hmk : m ≤ k := by omega
        by_cases hdc : d = c
        · rw [if_pos hdc] at hsn
          have e1 : ((d.toNat : Int) == (c.toNat : Int)) = true := by rw [hdc]; simp
          have Hsn := hid hsn
          clear hsn e hl hm hdc hcl hct
          go_wp2
          go_round
          case rel => exact ⟨k + 1, by omega, by go_num, by rw [Hsn.out]; go_num⟩
          case measure => simp [RowKit.intOf]; omega
        · rw [if_neg hdc] at hsn
          have e1 : ((d.toNat : Int) == (c.toNat : Int)) = false := by
            rw [beq_eq_false_iff_ne]; intro h; exact hdc (UInt8.toNat.inj (by omega))
          have Hsn := hid hsn
          clear hsn e hl hm hdc hcl hct
          go_wp2
          go_round
          case rel => exact ⟨k + 1, by omega, by go_num, by rw [Hsn.out]⟩
          case measure => simp [RowKit.intOf]; omega
      · have e : s.data.toList.take k = s.data.toList := List.take_of_length_le (by rw [← Lib.size_eq]; omega)
        have hAn : (s.data.toList.take k).count c + 1 = A.length := by rw [e]; exact LA.out.symm
        rw [hAn]
        clear hAn e hcl hct
        go_wp2_with fail
        go_loopw [11] (fun i wr => ∃ k : Nat, k ≤ A.length ∧ i = .int .i64 k ∧ Hid (Texts wr (w2.heap.size + 1) A ∧ Texts wr (w3.heap.size + 1) B ∧ Below w.heap.size w wr)) (fun i _ => A.length - (RowKit.intOf i).toNat)
        case atStart => exact ⟨0, Nat.zero_le _, rfl, hid ⟨T3'.out, T4.out, B4.out⟩⟩
        case round =>
          obtain ⟨k, hk, rfl, hh⟩ := hrel
          obtain ⟨hTA, hTB, hbel⟩ := hh.out
          have HTA := hid hTA
          have HTB := hid hTB
          have Hbel := hid hbel
          by_cases hlt : k < A.length
          · obtain ⟨p, hp⟩ : ∃ p, A[k]'hlt = p := ⟨_, rfl⟩
            have hcell : wr.cell? ⟨w2.heap.size + 1, k, none⟩ = some (.string p) := hTA.cell (by rw [List.getElem?_eq_getElem hlt, hp])
            obtain ⟨p1, p2, p3⟩ := Hel.out p (by rw [← hp]; exact List.getElem_mem hlt)
            have Hp2 := hid p2
            have Hp3 := hid p3
            have hboth : Both w (w2.heap.size + 1) (w3.heap.size + 1) A B wr := ⟨hTA, hTB, hbel⟩
            clear hh hTA hTB hbel hp p2 p3
            have hki : (k : Int) < (A.length : Int) := by omega
            go_wp2_with fail
            go_region_held3 (fun w' => w'.cell? ⟨w2.heap.size + 1, k, none⟩ = some (.string p) ∧ Both w (w2.heap.size + 1) (w3.heap.size + 1) A B w') (first
                | exact Both.go ‹_› ‹_›
                | exact ⟨hcell, hboth.drew⟩)
              (first
                | (go_at_call 12; refine (trim_is _ p (by omega) p Hp2.out).mono ?_; rintro e w5 ⟨rfl, hb5⟩))
            rename_i hH
            obtain ⟨hcx, hTA, hTB, hbel⟩ := hH
            have HTA5 := hid hTA
            have HTB5 := hid hTB
            have Hbel5 := hid hbel
            clear hboth hcell hTA hTB hbel hki
            go_wp2
            rename_i wr5 _ _ _
            go_loop [12] (fun q => ∃ j : Nat, j ≤ p.size ∧ q = .int .i64 j) (fun q => p.size - (RowKit.intOf q).toNat)
            case atStart => exact ⟨0, Nat.zero_le _, rfl⟩
            case round =>
              obtain ⟨j, hj, rfl⟩ := hrel
              by_cases hjl : j < p.size
              · obtain ⟨d, hd⟩ : ∃ d, p[j]'hjl = d := ⟨_, rfl⟩
                have hdc : d ≠ c := by
                  rintro rfl
                  have hl : j < p.data.toList.length := by rw [← Lib.size_eq]; exact hjl
                  exact Hp3.out (by rw [← hd]; exact List.getElem_mem hl)
                have d256 : (d.toNat : Int) < 256 := by have := d.toNat_lt; omega
                have e1 : ((d.toNat : Int) == (c.toNat : Int)) = false := by
                  rw [beq_eq_false_iff_ne]; intro h; exact hdc (UInt8.toNat.inj (by omega))
                clear hdc
                go_wp2
                go_round
                case rel => exact ⟨j + 1, by omega, by go_num⟩
                case measure => simp [RowKit.intOf]; omega
              · go_wp2
                go_roundw
                case rel => exact ⟨k + 1, by omega, by go_num, hid ⟨HTA5.out, HTB5.out, Hbel5.out⟩⟩
                case measure => simp [RowKit.intOf]; omega
          · have e2 := fun W => conv1 c (W.alloc (.cells #[.int .u8 c.toNat] 5)) W.heap.size (cell1 c W)
            have hc1 : (⟨#[c]⟩ : ByteArray).size = 1 := rfl
            obtain ⟨C, hC⟩ : ∃ C, C = A ++ B := ⟨_, rfl⟩
            have lC : C.length = A.length + B.length := by rw [hC, List.length_append]
            have hB1 : 1 ≤ B.length := by
              have := congrArg List.length HB.out
              rw [parts_length, List.length_map] at this; omega
            have hz : (s ++ ⟨#[c]⟩ ++ t).size ≤ 16777216 := by rw [cat_size, cat_size, hc1]; omega
            have hP : parts c (s ++ ⟨#[c]⟩ ++ t).data.toList = C.map (·.data.toList) := by
              rw [cat_list, cat_list, hC, List.map_append, ← HA.out, ← HB.out, ← parts_append]
              simp
            have HS := hid (fun w h => split_is w h (s ++ ⟨#[c]⟩ ++ t) c hz C hP)
            have HC := hid hC
            have HlC := hid lC
            have b6 : Below wr.heap.size wr (wr.alloc (.cells #[.int .u8 c.toNat] 5)) := (Below.refl _ _).alloc (Nat.le_refl _) _
            have B6 := hid (below_chain hbel b6)
            have hA6 := hTA.below b6 hTA.lt
            have hB6 := hTB.below b6 hTB.lt
            have HA6 := hid hA6
            have HB6 := hid hB6
            obtain ⟨i0, hi0, hz0, hz1, hz2⟩ := info_parts str_info
            clear hh hTA hTB hbel hP hz hC lC b6 hA6 hB6
            go_wp2_with fail
            refine (HS.out _ (good_below G.out B6.out)).mono ?_
            rintro e w7 ⟨rfl, ht7, hb7⟩
            have HA7 := hid (HA6.out.below hb7 HA6.out.lt)
            have HB7 := hid (HB6.out.below hb7 HB6.out.lt)
            have HC7 := hid ht7
            have B7 := hid (below_chain B6.out hb7)
            have hlt7 := ht7.lt
            clear ht7 hb7
            go_wp2_with (at_builtin; refine wpList_append_guarded _ rfl (.tmp 90) (.tmp 91) _ rfl 9 i0 _ 1 16 Tryd.underlying25 hi0 hz0 hz1 hz2 rfl (by omega) ⟨w2.heap.size + 1, 0, none⟩ A.length A.length (A.map Value.string) rfl (by simp) (texts_cells HA7.out) ⟨w3.heap.size + 1, 0, none⟩ B.length B.length (B.map Value.string) rfl (by simp) (texts_cells HB7.out) (by omega) (by unfold maxLen; omega) (by omega) ?_; intro v' w8 hown hgrow)
            obtain ⟨gb, cap, hv⟩ := Go.Joins.ownsRow_form hown (by omega)
            have hcells := hown.cells (g := gb) (by rw [hv]; simp [Value.ownBlock])
            have hb8 : Below w7.heap.size w7 w8 := (Below.refl _ _).grown hgrow (Nat.le_refl _) (by simp)
            have HC8 : Hid (Texts w8 (wr.heap.size + 1 + 1) C) := hid (by
              have h := HC7.out.below hb8 hlt7
              rw [show (wr.alloc (.cells #[.int .u8 c.toNat] 5)).heap.size = wr.heap.size + 1 from by simp] at h
              exact h)
            have B8 := hid (below_chain B7.out hb8)
            rw [← HlC.out] at hv
            rw [hv]
            have hl9 : C.length ≤ 140737488355328 := by have := HlC.out; omega
            have hcb : ∀ i t, C[i]? = some t → w8.cell? ⟨gb, i, none⟩ = some (.string t) := by
              intro i t hi
              have hadd : (⟨gb, 0, none⟩ : Addr).add i = ⟨gb, i, none⟩ := by unfold Addr.add; split <;> simp_all
              rw [← hadd]
              refine hcells i _ ?_
              rw [← List.map_append, ← HC.out, List.getElem?_map, hi]; rfl
            have HSame := hid (sameTexts_at (wr.heap.size + 1 + 1) gb C C.length cap w8 hl9 (fun _ _ h => HC8.out.cell h) hcb)
            clear hv hcells hcb hown hgrow hb8
            refine HSame.out.mono ?_
            rintro e w9 ⟨rfl, hb9⟩
            have B9 := hid (below_chain B8.out hb9)
            clear hb9
            go_wp2
            go_ret
            exact ⟨rfl, B9.out⟩
end Go.Proofs.YtalinfpakmcobaaDoor
