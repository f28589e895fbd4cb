/- Walk of the law DatesBack: seconds as a header has them are read back, in great letters too. -/
import Derived.Test.YtnkfgedpdokcpaaDoorAlv7
import Derived.Test.YtnkfgedpdokcpaaDoorSpec07e
import Derived.Test.YtnkfgedpdokcpaaDoorGood7
namespace Go.Proofs.YtnkfgedpdokcpaaDoor
open Go.RowKit Go.Lib Go.Proofs.Foot

theorem upperL_length (l : List UInt8) : (upperL l).length = l.length := by simp [upperL]
theorem text_len {w k m y h i x : Nat} (hw : w < 7) (hm : m < 12) : (textOf w k m y h i x).length = 29 := by
  have h1 : ∀ w < 7, (weekName w).length = 3 := by decide +kernel
  have h2 : ∀ m < 12, (monName m).length = 3 := by decide +kernel
  unfold textOf hms dd
  simp [h1 w hw, h2 m hm]

set_option maxHeartbeats 2000000 in
set_option maxRecDepth 100000 in
theorem datesBack_walk (x : Int) (wx : (Lit.int .u64 x).wf = true) (w : World) (hL : laidMetH Tryd.prog Rows.datesBackRow.laid w) (hsh : w.ShapedOpen Tryd.prog) :
    Calls Tryd.prog 5 #[.int .u64 x] w fun e w' => e = .returned (.bool true) ∧ Below w.heap.size w w' := by
  have hmin : IntKind.u64.min = 0 := rfl
  have hmax : IntKind.u64.max = 18446744073709551615 := rfl
  have hx := wf_bounds wx
  obtain ⟨n, rfl⟩ := Int.eq_ofNat_of_zero_le (show 0 ≤ x by omega)
  have G := hid (good_of hL (by kernel_rfl) (by kernel_rfl) (by kernel_rfl) hsh)
  obtain ⟨k, hk⟩ : ∃ k : Nat, (n : Int) % 253402300800 = (k : Int) := ⟨n % 253402300800, by omega⟩
  have hkb : k < 253402300800 := by omega
  have hnU : (n : Int) ≤ 18446744073709551615 := by omega
  obtain ⟨Y, M, K, W, D⟩ := dayIs_of (k : Int) (by omega) (by omega)
  obtain ⟨s, hs⟩ : ∃ s : ByteArray, textBy k Y M K W = s.data.toList := ⟨⟨(textBy k Y M K W).toArray⟩, by simp⟩
  have hIs : IsText s.data.toList k := ⟨by omega, Y, M, K, W, D, hs⟩
  have hlen : s.size = 29 := by
    rw [Lib.size_eq, ← hs]; exact text_len D.w7 (by have := D.m1; have := D.m2; omega)
  have hz : s.size ≤ 16777216 := by omega
  have HT := hid (fun w G => textA_is k s hIs w G)
  have HP := hid (fun w G => parseA_yes s hz k hIs w G)
  have HC := hid (fun w G => cookieA_any s hz w G)
  rw [hIs.date] at HC
  obtain ⟨u, hu⟩ : ∃ u : ByteArray, u = ⟨(upperL s.data.toList).toArray⟩ := ⟨_, rfl⟩
  have hul : u.data.toList = upperL s.data.toList := by rw [hu]
  have huz : u.size ≤ 16777216 := by rw [Lib.size_eq, hul, upperL_length, ← Lib.size_eq]; exact hz
  have HCU := hid (fun w G => cookieA_any u huz w G)
  rw [hul, ← hs, dateP_upper D, dateV_text D] at HCU
  have HPU := hid (fun w G => parseA_no u huz (by rw [hul]; exact notText_upper _) w G)
  have e29 : ((s.size : Int) == 29) = true := by rw [beq_iff_eq]; omega
  have hs9 : s.size ≤ 9223372036854775807 := by omega
  have HU := hid hu
  clear hL hsh wx hx hmin hmax D hs hIs hlen hul huz hu
  go_enter Tryd.func5, Tryd.ntmps5
  go_wp2_with fail
  refine (HT.out _ G.out).mono ?_
  rintro e w1 ⟨rfl, hb1⟩
  have B1 := hid hb1
  clear hb1
  go_wp2_with fail
  refine (HP.out _ (G.out.below B1.out)).mono ?_
  rintro e w2 ⟨rfl, hb2⟩
  have B2 := hid (below_chain B1.out hb2)
  clear hb2
  go_wp2_with fail
  refine (HC.out _ (G.out.below B2.out)).mono ?_
  rintro e w3 ⟨rfl, hb3⟩
  have B3 := hid (below_chain B2.out hb3)
  clear hb3
  go_wp2_with (refine wpList_string_bytes rfl 9 30 5 _ rfl s rfl Tryd.underlying9 Tryd.underlying30 Tryd.underlying5 w3.heap.size rfl ?_; intro w4 cap hrow hb4 hz4 hcap)
  have B4 := hid (below_chain B3.out hb4)
  clear hb4
  have hlt4 : w3.heap.size < w4.heap.size := by omega
  go_loopw [11] (fun i wr => ∃ j : Nat, j ≤ s.size ∧ i = .int .i64 j ∧ Hid (BRow wr w3.heap.size 5 (upd upB s.data.toList j) ∧ Below w.heap.size w wr)) (fun i _ => s.size - (RowKit.intOf i).toNat)
  case atStart => exact ⟨0, Nat.zero_le _, rfl, hid ⟨by rw [upd_zero]; exact hrow, B4.out⟩⟩
  case round =>
    obtain ⟨j, hj, rfl, hh⟩ := hrel
    obtain ⟨hr, hb⟩ := hh.out
    have hB3 : w.heap.size ≤ w3.heap.size := B3.out.size
    by_cases hlt : j < s.size
    · have hl : j < s.data.toList.length := by rw [← Lib.size_eq]; exact hlt
      have hl2 : j < (upd upB s.data.toList j).length := by rw [upd_length]; exact hl
      obtain ⟨x, hx⟩ : ∃ x : UInt8, x = s.data.toList[j] := ⟨_, rfl⟩
      have e1 : (upd upB s.data.toList j)[j] = x := by
        have h1 := upd_at upB s.data.toList hl
        rw [List.getElem?_eq_getElem hl2] at h1
        rw [hx]; exact Option.some.inj h1
      have hc1 := hr.cell hl2
      rw [e1] at hc1
      have hf1 := hr.free hl2
      have hx256 : (x.toNat : Int) < 256 := by have := UInt8.toNat_lt x; omega
      by_cases h : 97 ≤ x.toNat ∧ x.toNat ≤ 122
      · have R := hr.set (k := j) (upB x)
        rw [show (upd upB s.data.toList j).set j (upB x) = upd upB s.data.toList (j + 1) from by rw [upd_succ upB _ hl, hx], upB_up h] at R
        have hsub : ((x - 32).toNat : Int) = (x.toNat : Int) - 32 := by
          have h1 : (x - 32).toNat = (x.toNat + 224) % 256 := by
            have := all_u8 (fun x => decide ((x - 32).toNat = (x.toNat + 224) % 256)) (by decide +kernel) x
            exact of_decide_eq_true this
          omega
        rw [hsub] at R
        have HR := hid R
        have HB := hid (hb.setCell (p := ⟨w3.heap.size, j, none⟩) hB3 (.int .u8 (x.toNat - 32)))
        obtain ⟨a1, a2⟩ := h
        clear R e1 hx hr hb hsub hh
        go_wp2
        go_roundw
        case rel => exact ⟨j + 1, by omega, by go_num, hid ⟨HR.out, HB.out⟩⟩
        case measure => simp [RowKit.intOf]; omega
      · have R : BRow wr w3.heap.size 5 (upd upB s.data.toList (j + 1)) := by
          rw [upd_succ upB _ hl, ← hx, upB_not h]
          have e3 : (upd upB s.data.toList j).set j x = upd upB s.data.toList j := by
            rw [← e1]; exact List.set_getElem_self hl2
          rw [e3]; exact hr
        have HR := hid R
        have HB := hid hb
        clear R e1 hx hr hb hh
        by_cases h1 : 97 ≤ x.toNat
        · have h2 : ¬ x.toNat ≤ 122 := by omega
          clear h
          go_wp2
          go_roundw
          case rel => exact ⟨j + 1, by omega, by go_num, hid ⟨HR.out, HB.out⟩⟩
          case measure => simp [RowKit.intOf]; omega
        · clear h
          go_wp2
          go_roundw
          case rel => exact ⟨j + 1, by omega, by go_num, hid ⟨HR.out, HB.out⟩⟩
          case measure => simp [RowKit.intOf]; omega
    · have e2 : upd upB s.data.toList j = upperL s.data.toList := upd_end _ _ (by rw [← Lib.size_eq]; omega)
      rw [e2] at hr
      have HB := hid hb
      have HR := hid hr
      have hltr := hr.lt
      clear hh e2 hb hr
      go_wp2_with (refine wpList_bytes_string rfl 30 9 5 _ rfl w3.heap.size s.size cap rfl Tryd.underlying30 Tryd.underlying5 Tryd.underlying9 _ HR.out (by rw [upperL_length, ← Lib.size_eq]) ?_)
      rw [← HU.out]
      refine (HCU.out _ (G.out.below HB.out)).mono ?_
      rintro e w5 ⟨rfl, hb5⟩
      have B5 := hid (below_chain HB.out hb5)
      have HR5 := hid (HR.out.below hb5 hltr)
      clear hb5
      go_wp2_with (refine wpList_bytes_string rfl 30 9 5 _ rfl w3.heap.size s.size cap rfl Tryd.underlying30 Tryd.underlying5 Tryd.underlying9 _ HR5.out (by rw [upperL_length, ← Lib.size_eq]) ?_)
      rw [← HU.out]
      refine (HPU.out _ (G.out.below B5.out)).mono ?_
      rintro e w6 ⟨rfl, hb6⟩
      have B6 := hid (below_chain B5.out hb6)
      clear hb6
      go_wp2_with fail
      refine (alive_any _ (G.out.below B6.out)).mono ?_
      rintro e w7 ⟨rfl, hb7⟩
      have B7 := hid (below_chain B6.out hb7)
      clear hb7
      go_wp2
      go_ret
      exact ⟨rfl, B7.out⟩
end Go.Proofs.YtnkfgedpdokcpaaDoor
