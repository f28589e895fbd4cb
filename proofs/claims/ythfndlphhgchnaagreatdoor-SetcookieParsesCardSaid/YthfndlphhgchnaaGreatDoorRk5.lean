/- Walk: the reference's Cookie. -/
import Derived.Test.YthfndlphhgchnaaGreatDoorRk4
import Derived.Test.YthfndlphhgchnaaGreatDoorCk6
namespace Go.Proofs.YthfndlphhgchnaaGreatDoor
open Go.RowKit Go.Lib Go.Proofs.Foot

theorem betR_is (c : UInt8) (v : Bool) (h : betB c = v) (w : World) :
    Calls Tryz.prog 73 #[.int .u8 c.toNat] w fun e w' => e = .returned (.bool v) ∧ w = w' := by
  rw [← h]; exact betR_any c w
theorem dateV_no {d : Dt} (h : fullP d = false) : dateV d = .tuple #[.int .i64 0, .bool false] := if_neg (by rw [h]; decide)
theorem full_0 {d : Dt} (h : d.clock.isSome = false) : fullP d = false := by unfold fullP; rw [h]; simp
theorem full_1 {d : Dt} (h : d.day.isSome = false) : fullP d = false := by unfold fullP; rw [h]; simp
theorem full_2 {d : Dt} (h : d.month = 0) : fullP d = false := by unfold fullP; rw [h]; simp
theorem full_3 {d : Dt} (h : d.year.isSome = false) : fullP d = false := by unfold fullP; rw [h]; simp
theorem full_4 {d : Dt} (h : fixY (d.year.getD 0) < 1601) : fullP d = false := by
  unfold fullP; rw [decide_eq_false (show ¬ 1601 ≤ fixY (d.year.getD 0) by omega), Bool.and_false]
theorem full_5 {d : Dt} (h0 : d.clock.isSome = true) (h1 : d.day.isSome = true) (h2 : d.month ≠ 0) (h3 : d.year.isSome = true) (h4 : ¬ fixY (d.year.getD 0) < 1601) : fullP d = true := by
  unfold fullP; rw [h0, h1, h3, decide_eq_true h2, decide_eq_true (show 1601 ≤ fixY (d.year.getD 0) by omega)]; rfl
theorem take_nil (l : List UInt8) (k : Nat) : (l.drop k).take (k - k) = [] := by simp

set_option maxHeartbeats 8000000 in
set_option maxRecDepth 100000 in
theorem cookieR_any (s : ByteArray) (hs : s.size ≤ 16777216) (w : World) :
    Calls Tryz.prog 50 #[.string s] w fun e w' => e = .returned (dateV (dateP s.data.toList)) ∧ Below w.heap.size w w' := by
  have hsl : s.data.toList.length = s.size := (Lib.size_eq s).symm
  have Hsl := hid hsl
  clear hsl
  go_enter Tryz.func50, Tryz.ntmps50
  go_wp2_with fail
  have hb0 : Blk (w.alloc (.cells #[.int .i64 0, .int .i64 0, .int .i64 0, .int .i64 0, .int .i64 0, .int .i64 0, .bool false, .bool false, .bool false] 96)) w.heap.size 96 (rowR dt0) := (Blk.first w _ _).eq rfl
  have hbel0 : Below w.heap.size w (w.alloc (.cells #[.int .i64 0, .int .i64 0, .int .i64 0, .int .i64 0, .int .i64 0, .int .i64 0, .bool false, .bool false, .bool false] 96)) := (Below.refl _ _).alloc (Nat.le_refl _) _
  have H0 := hid (And.intro hb0 (And.intro hbel0 (And.intro (scanAt_start s.data.toList) small0)))
  clear hb0 hbel0
  generalize World.alloc _ _ = w0 at *

  go_loopw [5, 6] (fun f i wr => ∃ (k fr : Nat) (d : Dt), k ≤ s.size + 1 ∧ i = .int .i64 k ∧ f = .int .i64 fr ∧ Hid (Blk wr w.heap.size 96 (rowR d) ∧ Below w.heap.size w wr ∧ ScanAt s.data.toList k fr d ∧ Small d)) (fun _ i _ => s.size + 1 - (RowKit.intOf i).toNat)
  case atStart => exact ⟨0, 0, dt0, by omega, rfl, rfl, H0⟩
  case round =>
    obtain ⟨k, fr, d, hk, rfl, rfl, hh⟩ := hrel
    obtain ⟨hb, hbel, hsc, hsm⟩ := hh.out
    have Hb := hid hb
    have Hbel := hid hbel
    have Hsm := hid hsm
    by_cases hlt : k < s.size
    · have hl : k < s.data.toList.length := by rw [Hsl.out]; exact hlt
      obtain ⟨c, hc⟩ : ∃ c, s[k]'hlt = c := ⟨_, rfl⟩
      have hcl : s.data.toList[k]'hl = c := hc
      have hks : k ≤ s.size := by omega
      cases hbe : betB c with
      | false =>
        obtain ⟨hf, hn⟩ := scanAt_in hsc hl (by rw [hcl]; exact hbe)
        have Hn := hid hn
        have Hbe := hid hbe
        clear hh hb hbel hsc hsm hcl hl hn hbe
        go_wp2_with (go_at_call 73; refine (betR_is c false Hbe.out _).mono ?_; rintro e w' ⟨rfl, rfl⟩)
        go_roundw
        case rel => exact ⟨k + 1, fr, d, by omega, by go_num, rfl, hid ⟨Hb.out, Hbel.out, Hn.out, Hsm.out⟩⟩
        case measure => simp [RowKit.intOf]; omega
      | true =>
        obtain ⟨hf, hn⟩ := scanAt_bet hsc hl (by rw [hcl]; exact hbe)
        have Hbe := hid hbe
        by_cases hfk : fr = k
        · subst hfk
          rw [take_nil, word0_nil] at hn
          have Hn := hid hn
          have hgt : ¬ (fr : Int) > (fr : Int) := by omega
          clear hh hb hbel hsc hsm hcl hl hn hbe
          go_wp2_with (go_at_call 73; refine (betR_is c true Hbe.out _).mono ?_; rintro e w' ⟨rfl, rfl⟩)
          go_roundw
          case rel => exact ⟨fr + 1, fr + 1, d, by omega, by go_num, by go_num, hid ⟨Hb.out, Hbel.out, Hn.out, Hsm.out⟩⟩
          case measure => simp [RowKit.intOf]; omega
        · rw [← ext_list] at hn
          have Hn := hid hn
          have hgt : (k : Int) > (fr : Int) := by omega
          have HW := hid (wordR_any w.heap.size w.heap.size d (s.extract fr k) (by have := ext_le s fr k; omega) wr (Nat.le_refl _) hb)
          clear hh hb hbel hsc hsm hcl hl hn hbe hfk
          go_wp2_with (first
            | (go_at_call 73; refine (betR_is c true Hbe.out _).mono ?_; rintro e w' ⟨rfl, rfl⟩)
            | (go_at_call 74; refine HW.out.mono ?_; rintro e w4 ⟨rfl, hb4, hbel4⟩; have Hb4 := hid hb4; have Hbel4 := hid (Hbel.out.trans hbel4); clear hb4 hbel4))
          go_roundw
          case rel => exact ⟨k + 1, k + 1, _, by omega, by go_num, by go_num, hid ⟨Hb4.out, Hbel4.out, Hn.out, Hsm.out.word _⟩⟩
          case measure => simp [RowKit.intOf]; omega
    · by_cases hlt2 : k = s.size
      · obtain ⟨hf, hn⟩ := scanAt_last hsc (by rw [Hsl.out]; exact hlt2)
        have hks : k ≤ s.size := by omega
        have hks2 : ¬ k < s.size := by omega
        by_cases hfk : fr = k
        · subst hfk
          rw [take_nil, word0_nil] at hn
          have Hn := hid hn
          have hgt : ¬ (fr : Int) > (fr : Int) := by omega
          clear hh hb hbel hsc hsm hn hlt2
          go_wp2
          go_roundw
          case rel => exact ⟨fr + 1, fr + 1, d, by omega, by go_num, by go_num, hid ⟨Hb.out, Hbel.out, Hn.out, Hsm.out⟩⟩
          case measure => simp [RowKit.intOf]; omega
        · rw [← ext_list] at hn
          have Hn := hid hn
          have hgt : (k : Int) > (fr : Int) := by omega
          have HW := hid (wordR_any w.heap.size w.heap.size d (s.extract fr k) (by have := ext_le s fr k; omega) wr (Nat.le_refl _) hb)
          clear hh hb hbel hsc hsm hn hlt2 hfk
          go_wp2_with (go_at_call 74; refine HW.out.mono ?_; rintro e w4 ⟨rfl, hb4, hbel4⟩; have Hb4 := hid hb4; have Hbel4 := hid (Hbel.out.trans hbel4); clear hb4 hbel4)
          go_roundw
          case rel => exact ⟨k + 1, k + 1, _, by omega, by go_num, by go_num, hid ⟨Hb4.out, Hbel4.out, Hn.out, Hsm.out.word _⟩⟩
          case measure => simp [RowKit.intOf]; omega
      · have hge : ¬ k ≤ s.size := by omega
        have hd := scanAt_end hsc (by rw [Hsl.out]; omega)
        clear hh hb hbel hsc hsm hlt2
        have hsm := Hsm.out
        rw [hd] at hsm
        subst hd
        obtain ⟨d, hdd⟩ : ∃ d, d = dateP s.data.toList := ⟨_, rfl⟩
        rw [← hdd] at Hb hsm
        have Hdd := hid hdd
        have hyb : d.year.getD 0 ≤ 9999 := by
          cases hy : d.year with
          | none => simp
          | some y => exact hsm.y y hy
        obtain ⟨N, hN⟩ : ∃ N, N = d.month := ⟨_, rfl⟩
        obtain ⟨Y, hY⟩ : ∃ Y, Y = d.year.getD 0 := ⟨_, rfl⟩
        obtain ⟨K, hK⟩ : ∃ K, K = d.day.getD 0 := ⟨_, rfl⟩
        obtain ⟨h, hh⟩ : ∃ h, h = (d.clock.getD (0, 0, 0)).1 := ⟨_, rfl⟩
        obtain ⟨i, hi⟩ : ∃ i, i = (d.clock.getD (0, 0, 0)).2.1 := ⟨_, rfl⟩
        obtain ⟨x, hx⟩ : ∃ x, x = (d.clock.getD (0, 0, 0)).2.2 := ⟨_, rfl⟩
        obtain ⟨t0, ht0⟩ : ∃ t, t = d.clock.isSome := ⟨_, rfl⟩
        obtain ⟨t1, ht1⟩ : ∃ t, t = d.day.isSome := ⟨_, rfl⟩
        obtain ⟨t3, ht3⟩ : ∃ t, t = d.year.isSome := ⟨_, rfl⟩
        have hb2 : Blk wr w.heap.size 96 (row9 h i x K N Y t0 t1 t3) := Hb.out.eq (by rw [hh, hi, hx, hK, hN, hY, ht0, ht1, ht3]; rfl)
        rw [← hY] at hyb
        have f5 := hb2.free 5
        have c0 : wr.cell? ⟨w.heap.size, 0, none⟩ = some (.int .i64 h) := hb2.cell rfl
        have c1 : wr.cell? ⟨w.heap.size, 1, none⟩ = some (.int .i64 i) := hb2.cell rfl
        have c2 : wr.cell? ⟨w.heap.size, 2, none⟩ = some (.int .i64 x) := hb2.cell rfl
        have c3 : wr.cell? ⟨w.heap.size, 3, none⟩ = some (.int .i64 K) := hb2.cell rfl
        have c4 : wr.cell? ⟨w.heap.size, 4, none⟩ = some (.int .i64 N) := hb2.cell rfl
        have c5 : wr.cell? ⟨w.heap.size, 5, none⟩ = some (.int .i64 Y) := hb2.cell rfl
        have c6 : wr.cell? ⟨w.heap.size, 6, none⟩ = some (.bool t0) := hb2.cell rfl
        have c7 : wr.cell? ⟨w.heap.size, 7, none⟩ = some (.bool t1) := hb2.cell rfl
        have c8 : wr.cell? ⟨w.heap.size, 8, none⟩ = some (.bool t3) := hb2.cell rfl
        have Hyes : Hid (t0 = true → t1 = true → N ≠ 0 → t3 = true → ¬ fixY Y < 1601 → dateV d = secVal (fixY Y : Nat) N K h i x) := hid (fun a b c e f => by
          unfold dateV
          rw [if_pos (full_5 (ht0 ▸ a) (ht1 ▸ b) (hN ▸ c) (ht3 ▸ e) (hY ▸ f)), hY, hN, hK, hh, hi, hx])
        have Hno : Hid (t0 = false ∨ t1 = false ∨ N = 0 ∨ t3 = false ∨ fixY Y < 1601 → dateV d = .tuple #[.int .i64 0, .bool false]) := hid (by
          rintro (a | a | a | a | a)
          · exact dateV_no (full_0 (ht0 ▸ a))
          · exact dateV_no (full_1 (ht1 ▸ a))
          · exact dateV_no (full_2 (hN ▸ a))
          · exact dateV_no (full_3 (ht3 ▸ a))
          · exact dateV_no (full_4 (hY ▸ a)))
        have Hend : Hid (∀ (wf : World) (e : Ending), Below w.heap.size w wf → e = .returned (dateV d) → e = .returned (dateV (dateP s.data.toList)) ∧ Below w.heap.size w wf) := hid (fun wf e h1 h2 => ⟨by rw [h2, Hdd.out], h1⟩)
        clear hdd hN hY hK hh hi hx ht0 ht1 ht3 hb2 hsm
        by_cases hy0 : Y < 70
        · have Hfix := hid (show fixY Y = Y + 2000 from if_pos hy0)
          have y1 : ¬ (70 ≤ Y) := by omega
          have y2 : Y ≤ 69 := by omega
          cases t0 with
          | false =>
            go_wp2
            go_ret2
            exact Hend.out _ _ (by exact Hbel.out.setCell (Nat.le_refl _) _) (ret_val (Hno.out (.inl (by simp))).symm)
          | true =>
            cases t1 with
            | false =>
              go_wp2
              go_ret2
              exact Hend.out _ _ (by exact Hbel.out.setCell (Nat.le_refl _) _) (ret_val (Hno.out (.inr (.inl (by simp)))).symm)
            | true =>
              by_cases hn : N = 0
              · have hn0 : ((N : Int) == 0) = true := by rw [hn]; rfl
                have HE := hid (Hno.out (.inr (.inr (.inl hn))))
                clear hn
                go_wp2
                go_ret2
                exact Hend.out _ _ (by exact Hbel.out.setCell (Nat.le_refl _) _) (ret_val HE.out.symm)
              have hn0 : ((N : Int) == 0) = false := by rw [beq_eq_false_iff_ne]; omega
              cases t3 with
              | false =>
                go_wp2
                go_ret2
                exact Hend.out _ _ (by exact Hbel.out.setCell (Nat.le_refl _) _) (ret_val (Hno.out (.inr (.inr (.inr (.inl (by simp)))))).symm)
              | true =>
                have hlow : ¬ fixY Y < 1601 := by rw [Hfix.out]; omega
                obtain ⟨v, o, hv⟩ : ∃ v o, secVal (fixY Y : Nat) N K h i x = .tuple #[.int .i64 v, .bool o] := by
                  unfold secVal; split
                  · exact ⟨_, _, rfl⟩
                  · exact ⟨_, _, rfl⟩
                have HS := hid (secondsR_any (fixY Y : Nat) N K h i x)
                rw [hv] at HS
                have HE := hid ((Hyes.out rfl rfl hn rfl hlow).trans hv)
                rw [Hfix.out] at HS
                clear hv hn hlow
                go_wp2_with (go_at_call 75; refine (HS.out _).mono ?_; rintro e w5 ⟨rfl, rfl⟩)
                go_ret2
                exact Hend.out _ _ (by exact Hbel.out.setCell (Nat.le_refl _) _) (ret_val HE.out.symm)
        by_cases hy1 : Y < 100
        · have Hfix := hid (show fixY Y = Y + 1900 from by unfold fixY; rw [if_neg hy0, if_pos hy1])
          have y1 : 70 ≤ Y := by omega
          have y2 : Y ≤ 99 := by omega
          have y3 : ¬ Y + 1900 ≤ 69 := by omega
          cases t0 with
          | false =>
            go_wp2
            go_ret2
            exact Hend.out _ _ (by exact Hbel.out.setCell (Nat.le_refl _) _) (ret_val (Hno.out (.inl (by simp))).symm)
          | true =>
            cases t1 with
            | false =>
              go_wp2
              go_ret2
              exact Hend.out _ _ (by exact Hbel.out.setCell (Nat.le_refl _) _) (ret_val (Hno.out (.inr (.inl (by simp)))).symm)
            | true =>
              by_cases hn : N = 0
              · have hn0 : ((N : Int) == 0) = true := by rw [hn]; rfl
                have HE := hid (Hno.out (.inr (.inr (.inl hn))))
                clear hn
                go_wp2
                go_ret2
                exact Hend.out _ _ (by exact Hbel.out.setCell (Nat.le_refl _) _) (ret_val HE.out.symm)
              have hn0 : ((N : Int) == 0) = false := by rw [beq_eq_false_iff_ne]; omega
              cases t3 with
              | false =>
                go_wp2
                go_ret2
                exact Hend.out _ _ (by exact Hbel.out.setCell (Nat.le_refl _) _) (ret_val (Hno.out (.inr (.inr (.inr (.inl (by simp)))))).symm)
              | true =>
                have hlow : ¬ fixY Y < 1601 := by rw [Hfix.out]; omega
                obtain ⟨v, o, hv⟩ : ∃ v o, secVal (fixY Y : Nat) N K h i x = .tuple #[.int .i64 v, .bool o] := by
                  unfold secVal; split
                  · exact ⟨_, _, rfl⟩
                  · exact ⟨_, _, rfl⟩
                have HS := hid (secondsR_any (fixY Y : Nat) N K h i x)
                rw [hv] at HS
                have HE := hid ((Hyes.out rfl rfl hn rfl hlow).trans hv)
                rw [Hfix.out] at HS
                clear hv hn hlow
                go_wp2_with (go_at_call 75; refine (HS.out _).mono ?_; rintro e w5 ⟨rfl, rfl⟩)
                go_ret2
                exact Hend.out _ _ (by exact Hbel.out.setCell (Nat.le_refl _) _) (ret_val HE.out.symm)
        have Hfix := hid (show fixY Y = Y from by unfold fixY; rw [if_neg hy0, if_neg hy1])
        have y1 : 70 ≤ Y := by omega
        have y2 : ¬ Y ≤ 99 := by omega
        have y3 : ¬ Y ≤ 69 := by omega
        cases t0 with
        | false =>
          go_wp2
          go_ret2
          exact Hend.out _ _ (by exact Hbel.out) (ret_val (Hno.out (.inl (by simp))).symm)
        | true =>
          cases t1 with
          | false =>
            go_wp2
            go_ret2
            exact Hend.out _ _ (by exact Hbel.out) (ret_val (Hno.out (.inr (.inl (by simp)))).symm)
          | true =>
            by_cases hn : N = 0
            · have hn0 : ((N : Int) == 0) = true := by rw [hn]; rfl
              have HE := hid (Hno.out (.inr (.inr (.inl hn))))
              clear hn
              go_wp2
              go_ret2
              exact Hend.out _ _ (by exact Hbel.out) (ret_val HE.out.symm)
            have hn0 : ((N : Int) == 0) = false := by rw [beq_eq_false_iff_ne]; omega
            cases t3 with
            | false =>
              go_wp2
              go_ret2
              exact Hend.out _ _ (by exact Hbel.out) (ret_val (Hno.out (.inr (.inr (.inr (.inl (by simp)))))).symm)
            | true =>
              by_cases hlow : fixY Y < 1601
              · have HE := hid (Hno.out (.inr (.inr (.inr (.inr hlow)))))
                have hl2 : Y < 1601 := by rw [Hfix.out] at hlow; exact hlow
                clear hlow hn
                go_wp2
                go_ret2
                exact Hend.out _ _ (by exact Hbel.out) (ret_val HE.out.symm)
              have hl2 : ¬ Y < 1601 := by rw [Hfix.out] at hlow; exact hlow
              obtain ⟨v, o, hv⟩ : ∃ v o, secVal (fixY Y : Nat) N K h i x = .tuple #[.int .i64 v, .bool o] := by
                unfold secVal; split
                · exact ⟨_, _, rfl⟩
                · exact ⟨_, _, rfl⟩
              have HS := hid (secondsR_any (fixY Y : Nat) N K h i x)
              rw [hv] at HS
              have HE := hid ((Hyes.out rfl rfl hn rfl hlow).trans hv)
              rw [Hfix.out] at HS
              clear hv hn hlow
              go_wp2_with (go_at_call 75; refine (HS.out _).mono ?_; rintro e w5 ⟨rfl, rfl⟩)
              go_ret2
              exact Hend.out _ _ (by exact Hbel.out) (ret_val HE.out.symm)
end Go.Proofs.YthfndlphhgchnaaGreatDoor
