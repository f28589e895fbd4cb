/- Walks: dates' between and Cookie. -/
import Derived.Test.YtnkfgedpdokcpaaDoorCk5
import Derived.Test.YtnkfgedpdokcpaaDoorDt3
namespace Go.Proofs.YtnkfgedpdokcpaaDoor
open Go.RowKit Go.Lib Go.Proofs.Foot

theorem within_is (n a b : Int) (v : Bool) (h : winB n a b = v) (w : World) :
    Calls Tryd.prog 26 #[.int .i64 n, .int .i64 a, .int .i64 b] w fun e w' => e = .returned (.bool v) ∧ w = w' := by
  rw [← h]; exact within_any n a b w
set_option maxRecDepth 100000 in
theorem betA_any (c : UInt8) (w : World) :
    Calls Tryd.prog 21 #[.int .u8 c.toNat] w fun e w' => e = .returned (.bool (betB c)) ∧ w = w' := by
  have hc := c.toNat_lt
  have hc256 : (c.toNat : Int) < 256 := by omega
  by_cases h9 : c.toNat = 9
  · have e9 : ((c.toNat : Int) == 9) = true := by rw [h9]; rfl
    have H := hid ((betB_iff c).2 (.inl h9))
    clear h9
    go_enter Tryd.func21, Tryd.ntmps21
    go_wp2
    go_ret
    exact ⟨ret_bool H.out.symm, rfl⟩
  have e9 : ((c.toNat : Int) == 9) = false := by rw [beq_eq_false_iff_ne]; omega
  by_cases h0 : 32 ≤ c.toNat ∧ c.toNat ≤ 47
  · have H := hid ((betB_iff c).2 (by omega))
    have w0 := hid (winB_yes (n := (c.toNat : Int)) (a := 32) (b := 47) (by omega))
    clear h9 hc h0
    go_enter Tryd.func21, Tryd.ntmps21
    go_wp2_with fail
    refine (within_is _ _ _ true w0.out _).mono ?_
    rintro e w' ⟨rfl, rfl⟩
    go_wp2
    go_ret
    exact ⟨ret_bool H.out.symm, rfl⟩
  have w0 := hid (winB_no (n := (c.toNat : Int)) (a := 32) (b := 47) (by omega))
  by_cases h1 : 59 ≤ c.toNat ∧ c.toNat ≤ 64
  · have H := hid ((betB_iff c).2 (by omega))
    have w1 := hid (winB_yes (n := (c.toNat : Int)) (a := 59) (b := 64) (by omega))
    clear h9 hc h0 h1
    go_enter Tryd.func21, Tryd.ntmps21
    go_wp2_with fail
    refine (within_is _ _ _ false w0.out _).mono ?_
    rintro e w' ⟨rfl, rfl⟩
    go_wp2_with fail
    refine (within_is _ _ _ true w1.out _).mono ?_
    rintro e w' ⟨rfl, rfl⟩
    go_wp2
    go_ret
    exact ⟨ret_bool H.out.symm, rfl⟩
  have w1 := hid (winB_no (n := (c.toNat : Int)) (a := 59) (b := 64) (by omega))
  by_cases h2 : 91 ≤ c.toNat ∧ c.toNat ≤ 96
  · have H := hid ((betB_iff c).2 (by omega))
    have w2 := hid (winB_yes (n := (c.toNat : Int)) (a := 91) (b := 96) (by omega))
    clear h9 hc h0 h1 h2
    go_enter Tryd.func21, Tryd.ntmps21
    go_wp2_with fail
    refine (within_is _ _ _ false w0.out _).mono ?_
    rintro e w' ⟨rfl, rfl⟩
    go_wp2_with fail
    refine (within_is _ _ _ false w1.out _).mono ?_
    rintro e w' ⟨rfl, rfl⟩
    go_wp2_with fail
    refine (within_is _ _ _ true w2.out _).mono ?_
    rintro e w' ⟨rfl, rfl⟩
    go_wp2
    go_ret
    exact ⟨ret_bool H.out.symm, rfl⟩
  have w2 := hid (winB_no (n := (c.toNat : Int)) (a := 91) (b := 96) (by omega))
  by_cases h3 : 123 ≤ c.toNat ∧ c.toNat ≤ 126
  · have H := hid ((betB_iff c).2 (by omega))
    have w3 := hid (winB_yes (n := (c.toNat : Int)) (a := 123) (b := 126) (by omega))
    clear h9 hc h0 h1 h2 h3
    go_enter Tryd.func21, Tryd.ntmps21
    go_wp2_with fail
    refine (within_is _ _ _ false w0.out _).mono ?_
    rintro e w' ⟨rfl, rfl⟩
    go_wp2_with fail
    refine (within_is _ _ _ false w1.out _).mono ?_
    rintro e w' ⟨rfl, rfl⟩
    go_wp2_with fail
    refine (within_is _ _ _ false w2.out _).mono ?_
    rintro e w' ⟨rfl, rfl⟩
    go_wp2_with fail
    refine (within_is _ _ _ true w3.out _).mono ?_
    rintro e w' ⟨rfl, rfl⟩
    go_wp2
    go_ret
    exact ⟨ret_bool H.out.symm, rfl⟩
  have w3 := hid (winB_no (n := (c.toNat : Int)) (a := 123) (b := 126) (by omega))
  have H : Hid (betB c = false) := hid (by
    cases hb : betB c with
    | false => rfl
    | true => have := (betB_iff c).1 hb; omega)
  clear h9 h0 h1 h2 h3 hc
  go_enter Tryd.func21, Tryd.ntmps21
  go_wp2_with fail
  refine (within_is _ _ _ false w0.out _).mono ?_
  rintro e w' ⟨rfl, rfl⟩
  go_wp2_with fail
  refine (within_is _ _ _ false w1.out _).mono ?_
  rintro e w' ⟨rfl, rfl⟩
  go_wp2_with fail
  refine (within_is _ _ _ false w2.out _).mono ?_
  rintro e w' ⟨rfl, rfl⟩
  go_wp2_with fail
  refine (within_is _ _ _ false w3.out _).mono ?_
  rintro e w' ⟨rfl, rfl⟩
  go_wp2
  go_ret
  exact ⟨ret_bool H.out.symm, rfl⟩
theorem betA_is (c : UInt8) (v : Bool) (h : betB c = v) (w : World) :
    Calls Tryd.prog 21 #[.int .u8 c.toNat] w fun e w' => e = .returned (.bool v) ∧ w = w' := by
  rw [← h]; exact betA_any c w

/-- What a cookie's date comes to. -/
def dateV (d : Dt) : Value :=
  if fullP d = true then secVal (fixY (d.year.getD 0) : Nat) d.month (d.day.getD 0 : Nat) (d.clock.getD (0, 0, 0)).1 (d.clock.getD (0, 0, 0)).2.1 (d.clock.getD (0, 0, 0)).2.2 else .tuple #[.int .i64 0, .bool false]
theorem neq_told (a b c d : Bool) : ∀ w, (binOp .neq 42 (.agg #[.bool a, .bool b, .bool c, .bool d]) (.agg #[.bool true, .bool true, .bool true, .bool true])).run Tryd.prog w = .ok (.bool (!(a && b && c && d))) w := fun w => by
  cases a <;> cases b <;> cases c <;> cases d <;> kernel_rfl
theorem ext_list (s : ByteArray) (a b : Nat) : (s.extract a b).data.toList = (s.data.toList.drop a).take (b - a) := by rw [extract_eq]
theorem ext_le (s : ByteArray) (a b : Nat) : (s.extract a b).size ≤ s.size := by
  rw [Lib.size_eq, extract_eq, List.length_take, List.length_drop, Lib.size_eq s]; omega
set_option maxHeartbeats 4000000 in
set_option maxRecDepth 100000 in
theorem cookieA_any (s : ByteArray) (hs : s.size ≤ 16777216) (w : World) (G : Good w) :
    Calls Tryd.prog 11 #[.string s] w fun e w' => e = .returned (dateV (dateP s.data.toList)) ∧ Below w.heap.size w w' := by
  have HG := hid G
  have hsl : s.data.toList.length = s.size := (Lib.size_eq s).symm
  have Hsl := hid hsl
  clear G hsl
  go_enter Tryd.func11, Tryd.ntmps11
  go_wp2_with fail
  have hb0 : Blk (w.alloc (.cells #[.int .i64 0, .int .i64 0, .int .i64 0, .int .i64 0, .int .i64 0, .int .i64 0, .bool false, .bool false, .bool false, .bool false] 44)) w.heap.size 44 (rowD dt0) := (Blk.first w _ _).eq rfl
  have hbel0 : Below w.heap.size w (w.alloc (.cells #[.int .i64 0, .int .i64 0, .int .i64 0, .int .i64 0, .int .i64 0, .int .i64 0, .bool false, .bool false, .bool false, .bool false] 44)) := (Below.refl _ _).alloc (Nat.le_refl _) _
  have H0 := hid (And.intro hb0 (And.intro hbel0 (And.intro (scanAt_start s.data.toList) small0)))
  have U0 : Under w.heap.size w := ⟨w, HG.out, rfl, Below.refl _ _⟩
  have HU := hid U0
  clear hb0 hbel0 U0
  generalize World.alloc _ _ = w0 at *
  go_loopw [5, 6, 10] (fun f _ i wr => ∃ (k fr : Nat) (d : Dt), k ≤ s.size + 1 ∧ i = .int .i64 k ∧ f = .int .i64 fr ∧ Hid (Blk wr w.heap.size 44 (rowD d) ∧ Below w.heap.size w wr ∧ ScanAt s.data.toList k fr d ∧ Small d)) (fun _ _ i _ => s.size + 1 - (RowKit.intOf i).toNat)
  case atStart => exact ⟨0, 0, dt0, by omega, rfl, rfl, H0⟩
  case round =>
    obtain ⟨k, fr, d, hk, rfl, rfl, hh⟩ := hrel
    obtain ⟨hb, hbel, hsc, hsm⟩ := hh.out
    have Hb := hid hb
    have Hbel := hid hbel
    have Hsm := hid hsm
    by_cases hlt : k < s.size
    · have hl : k < s.data.toList.length := by rw [Hsl.out]; exact hlt
      obtain ⟨c, hc⟩ : ∃ c, s[k]'hlt = c := ⟨_, rfl⟩
      have hcl : s.data.toList[k]'hl = c := hc
      have e1 : ((k : Int) == (s.size : Int)) = false := by rw [beq_eq_false_iff_ne]; omega
      cases hbe : betB c with
      | false =>
        obtain ⟨hf, hn⟩ := scanAt_in hsc hl (by rw [hcl]; exact hbe)
        have Hn := hid hn
        have Hbe := hid hbe
        clear hh hb hbel hsc hsm hcl hl hn hbe
        go_wp2_with (go_at_call 21; refine (betA_is c false Hbe.out _).mono ?_; rintro e w' ⟨rfl, rfl⟩)
        go_roundw
        case rel => exact ⟨k + 1, fr, d, by omega, by go_num, rfl, hid ⟨Hb.out, Hbel.out, Hn.out, Hsm.out⟩⟩
        case measure => simp [RowKit.intOf]; omega
      | true =>
        obtain ⟨hf, hn⟩ := scanAt_bet hsc hl (by rw [hcl]; exact hbe)
        rw [← ext_list] at hn
        have Hn := hid hn
        have Hbe := hid hbe
        have hks : k ≤ s.size := by omega
        have HW := hid (wordA_any w.heap.size w.heap.size d (s.extract fr k) (by have := ext_le s fr k; omega) wr (Nat.le_refl _) hb (HU.out.below hbel))
        clear hh hb hbel hsc hsm hcl hl hn hbe
        go_wp2_with (first
          | (go_at_call 21; refine (betA_is c true Hbe.out _).mono ?_; rintro e w' ⟨rfl, rfl⟩)
          | (go_at_call 22; refine HW.out.mono ?_; rintro e w4 ⟨rfl, hb4, hbel4⟩; have Hb4 := hid hb4; have Hbel4 := hid (Hbel.out.trans hbel4); clear hb4 hbel4))
        go_roundw
        case rel => exact ⟨k + 1, k + 1, _, by omega, by go_num, by go_num, hid ⟨Hb4.out, Hbel4.out, Hn.out, Hsm.out.word _⟩⟩
        case measure => simp [RowKit.intOf]; omega
    · by_cases hlt2 : k = s.size
      · have e1 : ((k : Int) == (s.size : Int)) = true := by rw [beq_iff_eq]; omega
        obtain ⟨hf, hn⟩ := scanAt_last hsc (by rw [Hsl.out]; exact hlt2)
        rw [← ext_list] at hn
        have Hn := hid hn
        have HW := hid (wordA_any w.heap.size w.heap.size d (s.extract fr k) (by have := ext_le s fr k; omega) wr (Nat.le_refl _) hb (HU.out.below hbel))
        have hks : k ≤ s.size := by omega
        have hlt3 : (k : Int) < (s.size : Int) + 1 := by omega
        clear hh hb hbel hsc hsm hn hlt2
        go_wp2_with (go_at_call 22; refine HW.out.mono ?_; rintro e w4 ⟨rfl, hb4, hbel4⟩; have Hb4 := hid hb4; have Hbel4 := hid (Hbel.out.trans hbel4); clear hb4 hbel4)
        go_roundw
        case rel => exact ⟨k + 1, k + 1, _, by omega, by go_num, by go_num, hid ⟨Hb4.out, Hbel4.out, Hn.out, Hsm.out.word _⟩⟩
        case measure => simp [RowKit.intOf]; omega
      · have hge : ¬ (k : Int) < (s.size : Int) + 1 := by omega
        have hd := scanAt_end hsc (by rw [Hsl.out]; omega)
        clear hh hb hbel hsc hsm hlt2
        have hsm := Hsm.out
        rw [hd] at hsm
        have Hsm2 := hid hsm
        subst hd
        obtain ⟨d, hdd⟩ : ∃ d, d = dateP s.data.toList := ⟨_, rfl⟩
        rw [← hdd] at Hb
        have c0 : wr.cell? ⟨w.heap.size, 0, none⟩ = some (.int .i64 (d.clock.getD (0, 0, 0)).1) := Hb.out.cell rfl
        have c1 : wr.cell? ⟨w.heap.size, 1, none⟩ = some (.int .i64 (d.clock.getD (0, 0, 0)).2.1) := Hb.out.cell rfl
        have c2 : wr.cell? ⟨w.heap.size, 2, none⟩ = some (.int .i64 (d.clock.getD (0, 0, 0)).2.2) := Hb.out.cell rfl
        have c3 : wr.cell? ⟨w.heap.size, 3, none⟩ = some (.int .i64 (d.day.getD 0)) := Hb.out.cell rfl
        have c4 : wr.cell? ⟨w.heap.size, 4, none⟩ = some (.int .i64 d.month) := Hb.out.cell rfl
        have c5 : wr.cell? ⟨w.heap.size, 5, none⟩ = some (.int .i64 ((d.year.map fixY).getD 0 : Nat)) := Hb.out.cell rfl
        obtain ⟨t0, ht0⟩ : ∃ t, t = d.clock.isSome := ⟨_, rfl⟩
        obtain ⟨t1, ht1⟩ : ∃ t, t = d.day.isSome := ⟨_, rfl⟩
        obtain ⟨t2, ht2⟩ : ∃ t, t = decide (d.month ≠ 0) := ⟨_, rfl⟩
        obtain ⟨t3, ht3⟩ : ∃ t, t = d.year.isSome := ⟨_, rfl⟩
        have c6 : wr.cell? ⟨w.heap.size, 6, none⟩ = some (.bool t0) := Hb.out.cell (by rw [ht0]; rfl)
        have c7 : wr.cell? ⟨w.heap.size, 7, none⟩ = some (.bool t1) := Hb.out.cell (by rw [ht1]; rfl)
        have c8 : wr.cell? ⟨w.heap.size, 8, none⟩ = some (.bool t2) := Hb.out.cell (by rw [ht2]; rfl)
        have c9 : wr.cell? ⟨w.heap.size, 9, none⟩ = some (.bool t3) := Hb.out.cell (by rw [ht3]; rfl)
        have hneq := neq_told t0 t1 t2 t3
        cases hfull : (t0 && t1 && t2 && t3) with
        | false =>
          rw [hfull] at hneq
          have Hf : Hid (dateV d = .tuple #[.int .i64 0, .bool false]) := hid (if_neg (by
            unfold fullP; rw [← ht0, ← ht1, ← ht2, ← ht3, hfull]; simp))
          have Hdd := hid hdd
          clear hdd ht0 ht1 ht2 ht3 hfull
          go_wp2
          go_ret2
          exact ⟨ret_val (by rw [← Hdd.out]; exact Hf.out.symm), Hbel.out⟩
        | true =>
          rw [hfull] at hneq
          simp only [Bool.and_eq_true] at hfull
          obtain ⟨⟨⟨h0, h1⟩, h2⟩, h3⟩ := hfull
          have hyr : (d.year.map fixY).getD 0 = fixY (d.year.getD 0) := by
            rw [ht3] at h3
            cases hy : d.year with
            | none => rw [hy] at h3; cases h3
            | some y => rfl
          rw [hyr] at c5
          by_cases hlow : fixY (d.year.getD 0) < 1601
          · have Hf : Hid (dateV d = .tuple #[.int .i64 0, .bool false]) := hid (if_neg (by
              unfold fullP
              rw [decide_eq_false (show ¬ 1601 ≤ fixY (d.year.getD 0) by omega), Bool.and_false]; decide))
            have Hdd := hid hdd
            clear hdd ht0 ht1 ht2 ht3 h0 h1 h2 h3 hyr
            obtain ⟨y, hy⟩ : ∃ y, y = fixY (d.year.getD 0) := ⟨_, rfl⟩
            rw [← hy] at c5 hlow
            clear hy
            go_wp2
            go_ret2
            exact ⟨ret_val (by rw [← Hdd.out]; exact Hf.out.symm), Hbel.out⟩
          · have Hf : Hid (dateV d = secVal (fixY (d.year.getD 0) : Nat) d.month (d.day.getD 0 : Nat) (d.clock.getD (0, 0, 0)).1 (d.clock.getD (0, 0, 0)).2.1 (d.clock.getD (0, 0, 0)).2.2) := hid (if_pos (by
              unfold fullP
              rw [← ht0, ← ht1, ← ht2, ← ht3, h0, h1, h2, h3, decide_eq_true (show 1601 ≤ fixY (d.year.getD 0) by omega)]; rfl))
            have Hdd := hid hdd
            clear hdd ht0 ht1 ht2 ht3 h0 h1 h2 h3 hyr
            obtain ⟨y, hy⟩ : ∃ y, y = fixY (d.year.getD 0) := ⟨_, rfl⟩
            rw [← hy] at c5 hlow Hf
            clear hy
            obtain ⟨k, hk⟩ : ∃ k, k = d.day.getD 0 := ⟨_, rfl⟩
            obtain ⟨h, hh⟩ : ∃ h, h = (d.clock.getD (0, 0, 0)).1 := ⟨_, rfl⟩
            obtain ⟨i, hi⟩ : ∃ i, i = (d.clock.getD (0, 0, 0)).2.1 := ⟨_, rfl⟩
            obtain ⟨x, hx⟩ : ∃ x, x = (d.clock.getD (0, 0, 0)).2.2 := ⟨_, rfl⟩
            rw [← hk] at c3 Hf
            rw [← hh] at c0 Hf
            rw [← hi] at c1 Hf
            rw [← hx] at c2 Hf
            obtain ⟨v, o, hv⟩ : ∃ v o, secVal (y : Nat) d.month (k : Nat) h i x = .tuple #[.int .i64 v, .bool o] := by
              unfold secVal; split
              · exact ⟨_, _, rfl⟩
              · exact ⟨_, _, rfl⟩
            have HS := hid (secondsA_any (y : Nat) d.month (k : Nat) h i x)
            rw [hv] at Hf HS
            clear hk hh hi hx hv
            go_wp2_with (go_at_call 19; refine (HS.out _).mono ?_; rintro e w5 ⟨rfl, rfl⟩)
            go_ret2
            exact ⟨ret_val (by rw [← Hdd.out]; exact Hf.out.symm), Hbel.out⟩
end Go.Proofs.YtnkfgedpdokcpaaDoor
