/- Walk of the law StsOthers: directives that are not known make no difference. -/
import Derived.Test.YtnmdcbneoipllaaDoorStsOpen
namespace Go.Proofs.YtnmdcbneoipllaaDoor
open Go.RowKit Go.Lib Go.Proofs.Foot

set_option maxHeartbeats 4000000 in
set_option maxRecDepth 100000 in
theorem stsOthers_far (n : Int) (hn : ¬ (0 ≤ n ∧ n ≤ 2147483647)) (b : Bool) (v : ByteArray) (w : World) (G : GoodP w) :
    Calls Tryd.prog 6 #[.agg #[.int .i64 n, .bool b], .string v] w fun e w' => e = .returned (.bool true) ∧ Below w.heap.size w w' := by
  have HT := hid (fun w => textA_no n b hn w)
  have HA := hid (fun w G => alive_any w G)
  have W0 := hid (WishAt.start w n b)
  have HG := hid G
  clear G hn
  go_enter Tryd.func6, Tryd.ntmps6
  go_wp2_with fail
  have c0 := W0.out.age
  have c1 := W0.out.subs
  generalize w.alloc _ = w1 at *
  refine (HT.out _).mono ?_
  rintro e w2 ⟨rfl, hb2⟩
  have W2 := hid (W0.out.go hb2)
  clear hb2 c0 c1
  go_wp2_with fail
  refine (HA.out _ (HG.out.below W2.out.below)).mono ?_
  rintro e w3 ⟨rfl, hb3⟩
  have W3 := hid (W2.out.go hb3)
  clear hb3
  go_wp2_with fail
  refine (HA.out _ (HG.out.below W3.out.below)).mono ?_
  rintro e w4 ⟨rfl, hb4⟩
  have W4 := hid (W3.out.go hb4)
  clear hb4
  go_wp2
  go_ret
  exact ⟨rfl, W4.out.below⟩
theorem WishAt.alloc {w0 w : World} {g : Nat} {n : Int} {b : Bool} (h : WishAt w0 g n b w) (o : Obj) : WishAt w0 g n b (w.alloc o) := h.go ((Below.refl _ _).alloc (Nat.le_refl _) _)
set_option maxHeartbeats 4000000 in
set_option maxRecDepth 100000 in
/-- A value that is too long. -/
theorem stsOthers_long (n : Nat) (hn : n ≤ 2147483647) (b : Bool) (v : ByteArray) (zv : v.size ≤ 140737488351232) (hv : 30000 < v.size) (w : World) (G : GoodP w) :
    Calls Tryd.prog 6 #[.agg #[.int .i64 n, .bool b], .string v] w fun e w' => e = .returned (.bool true) ∧ Below w.heap.size w w' := by
  have HT := hid (fun w G => textA_yes n b hn w G)
  have HA := hid (fun w G => alive_any w G)
  have W0 := hid (WishAt.start w n b)
  have HG := hid G
  have hvi : (v.size : Int) > 30000 := by omega
  clear G hn hv
  cases hb : beyond [v.size] with
  | true =>
    go_enter Tryd.func6, Tryd.ntmps6
    go_wp2_with fail
    have c0 := W0.out.age
    have c1 := W0.out.subs
    generalize w.alloc _ = w1 at *
    refine (HT.out _ (HG.out.below W0.out.below).good).mono ?_
    rintro e w2 ⟨rfl, hb2⟩
    have W2 := hid (W0.out.go hb2)
    clear hb2 c0 c1
    go_wp2_with fail
    refine (HA.out _ (HG.out.below W2.out.below)).mono ?_
    rintro e w3 ⟨rfl, hb3⟩
    have W3 := hid (W2.out.go hb3)
    clear hb3
    go_wp2_with fail
    refine (beyond1 _ _ zv).mono ?_
    rintro e w4 ⟨rfl, rfl⟩
    rw [hb]
    have W4 := hid (W3.out.alloc (.cells #[.int .i64 v.size] 3))
    clear hb
    generalize w3.alloc _ = w4 at *
    go_wp2_with fail
    refine (HA.out _ (HG.out.below W4.out.below)).mono ?_
    rintro e w5 ⟨rfl, hb5⟩
    have W5 := hid (W4.out.go hb5)
    clear hb5
    go_wp2
    go_ret
    exact ⟨rfl, W5.out.below⟩
  | false =>
    go_enter Tryd.func6, Tryd.ntmps6
    go_wp2_with fail
    have c0 := W0.out.age
    have c1 := W0.out.subs
    generalize w.alloc _ = w1 at *
    refine (HT.out _ (HG.out.below W0.out.below).good).mono ?_
    rintro e w2 ⟨rfl, hb2⟩
    have W2 := hid (W0.out.go hb2)
    clear hb2 c0 c1
    go_wp2_with fail
    refine (HA.out _ (HG.out.below W2.out.below)).mono ?_
    rintro e w3 ⟨rfl, hb3⟩
    have W3 := hid (W2.out.go hb3)
    clear hb3
    go_wp2_with fail
    refine (beyond1 _ _ zv).mono ?_
    rintro e w4 ⟨rfl, rfl⟩
    rw [hb]
    have W4 := hid (W3.out.alloc (.cells #[.int .i64 v.size] 3))
    clear hb
    generalize w3.alloc _ = w4 at *
    go_wp2_with fail
    refine (HA.out _ (HG.out.below W4.out.below)).mono ?_
    rintro e w5 ⟨rfl, hb5⟩
    have W5 := hid (W4.out.go hb5)
    clear hb5
    go_wp2
    go_ret
    exact ⟨rfl, W5.out.below⟩
theorem take_ctl {l : List UInt8} {k : Nat} {c : UInt8} (h : ∀ x ∈ l.take k, ctlB x = false) (hk : l[k]? = some c) (hc : ctlB c = false) : ∀ x ∈ l.take (k + 1), ctlB x = false := by
  intro x hx
  rw [List.take_add_one, hk] at hx
  rcases List.mem_append.1 hx with hx | hx
  · exact h x hx
  · simp at hx; rw [hx]; exact hc
theorem esc_take {l : List UInt8} {k : Nat} {c : UInt8} (hk : l[k]? = some c) : escL (l.take (k + 1)) = escL (l.take k) ++ if c = 34 ∨ c = 92 then [92, c] else [c] := by
  rw [List.take_add_one, hk]; exact escL_snoc _ _
/-- The classes of a byte that the walk parts by. -/
theorem byte_parts (d : UInt8) : (d.toNat < 32 ∧ d.toNat ≠ 9) ∨ d.toNat = 127 ∨ (ctlB d = false ∧ ((d.toNat = 9) ∨ (d.toNat = 34) ∨ (d.toNat = 92) ∨ (32 ≤ d.toNat ∧ d.toNat ≠ 127 ∧ d.toNat ≠ 34 ∧ d.toNat ≠ 92))) := by
  by_cases h : d.toNat < 32 ∧ d.toNat ≠ 9
  · exact .inl h
  · by_cases h2 : d.toNat = 127
    · exact .inr (.inl h2)
    · refine .inr (.inr ⟨ctl_no (by omega), by omega⟩)
theorem one_of (v : ByteArray) (k : Nat) (h : k < v.size) : ∃ C : ByteArray, C.data.toList = [v[k]'h] ∧ C.size = 1 ∧ ∀ V, (Instr.slice 9 (.string v) (some (.int .i64 (k : Int))) (some (.int .i64 ((k : Int) + 1))) none).run Tryd.prog V = .ok (.string C) V := by
  have hl : (v.extract (k : Int).toNat ((k : Int) + 1).toNat).data.toList = [v[k]'h] := by
    have e : ((k : Int) + 1).toNat = k + 1 := by omega
    rw [e, Int.toNat_natCast, extract_eq]
    have h2 : k < v.data.toList.length := by rw [← Lib.size_eq]; exact h
    have e3 : v.data.toList[k]'h2 = v[k]'h := rfl
    rw [← e3, show k + 1 - k = 1 by omega, List.drop_eq_getElem_cons h2]
    simp
  exact ⟨_, hl, by rw [Lib.size_eq, hl]; rfl, fun V => run_slice_string V _ _ _ _ _ _ Tryd.underlying9 (by omega) (by omega) (by omega)⟩
set_option maxHeartbeats 8000000 in
set_option maxRecDepth 100000 in
theorem stsOthers_yes (n : Nat) (hn : n ≤ 2147483647) (b : Bool) (v : ByteArray) (hv : v.size ≤ 30000) (w : World) (G : GoodP w) :
    Calls Tryd.prog 6 #[.agg #[.int .i64 n, .bool b], .string v] w fun e w' => e = .returned (.bool true) ∧ Below w.heap.size w w' := by
  have HT := hid (fun w G => textA_yes n b hn w G)
  have HA := hid (fun w G => alive_any w G)
  have W0 := hid (WishAt.start w n b)
  have HG := hid G
  have hvi : ¬ (v.size : Int) > 30000 := by omega
  have hb : beyond [v.size] = false := by unfold beyond; rw [decide_eq_false_iff_not]; simp; omega
  have hwT := wishT_size n b hn
  obtain ⟨T, hT⟩ : ∃ T, T = wishT n b := ⟨_, rfl⟩
  rw [← hT] at hwT HT
  have hTl := hid (show T.data.toList = wishL n b by rw [hT, wishT_l])
  have Hn := hid hn
  clear G hn hT
  go_enter Tryd.func6, Tryd.ntmps6
  go_wp2_with fail
  have c0 := W0.out.age
  have c1 := W0.out.subs
  generalize w.alloc _ = w1 at *
  refine (HT.out _ (HG.out.below W0.out.below).good).mono ?_
  rintro e w2 ⟨rfl, hb2⟩
  have W2 := hid (W0.out.go hb2)
  clear hb2 c0 c1
  go_wp2_with fail
  refine (HA.out _ (HG.out.below W2.out.below)).mono ?_
  rintro e w3 ⟨rfl, hb3⟩
  have W3 := hid (W2.out.go hb3)
  clear hb3
  go_wp2_with fail
  refine (beyond1 _ _ (by omega)).mono ?_
  rintro e w4 ⟨rfl, rfl⟩
  rw [hb]
  have W4 := hid (W3.out.alloc (.cells #[.int .i64 v.size] 3))
  clear hb
  generalize w3.alloc _ = w4 at *
  go_wp2
  clear hvi
  go_loop [7, 8] (fun q i => ∃ (k : Nat) (Q : ByteArray), k ≤ v.size ∧ i = .int .i64 k ∧ q = .string Q ∧ Q.size ≤ 2 * k ∧ Hid (Q.data.toList = escL (v.data.toList.take k)) ∧ Hid (∀ x ∈ v.data.toList.take k, ctlB x = false)) (fun _ i => v.size - (RowKit.intOf i).toNat)
  case atStart => exact ⟨0, ⟨#[]⟩, Nat.zero_le _, rfl, rfl, by decide, hid rfl, hid (by simp)⟩
  case round =>
    obtain ⟨k, Q, hk, rfl, rfl, hQz, HQ, HN⟩ := hrel
    by_cases hlt : k < v.size
    · obtain ⟨C, hC, hC1, hsl⟩ := one_of v k hlt
      obtain ⟨d, hd⟩ : ∃ d, v[k]'hlt = d := ⟨_, rfl⟩
      have hdl := hid (show v.data.toList[k]? = some d by rw [← hd]; exact Lib.data_getElem? v k hlt)
      have d256 : (d.toNat : Int) < 256 := by have := d.toNat_lt; omega
      rw [hd] at hC
      have wk : IntKind.i64.wrap ((k : Int) + 1) = (k : Int) + 1 := IntWalk.i64_in _ (by omega)
      rcases byte_parts d with hd3 | hd3 | ⟨hctl, hd3 | hd3 | hd3 | hd3⟩
      · have f1 : (d.toNat : Int) < 32 := by omega
        have f2 : ((d.toNat : Int) != 9) = true := by simp; omega
        clear hd3
        go_wp2
        go_ret
        exact ⟨rfl, W4.out.below⟩
      · have f1 : ¬ (d.toNat : Int) < 32 := by omega
        have g127 : ((d.toNat : Int) == 127) = true := by rw [beq_iff_eq]; omega
        clear hd3
        go_wp2
        go_ret
        exact ⟨rfl, W4.out.below⟩
      · have f1 : (d.toNat : Int) < 32 := by omega
        have f2 : ((d.toNat : Int) != 9) = false := by simp; omega
        have g127 : ((d.toNat : Int) == 127) = false := by rw [beq_eq_false_iff_ne]; omega
        have g34 : ((d.toNat : Int) == 34) = false := by rw [beq_eq_false_iff_ne]; omega
        have g92 : ((d.toNat : Int) == 92) = false := by rw [beq_eq_false_iff_ne]; omega
        obtain ⟨Q2, hQ2⟩ : ∃ r : ByteArray, r = Q ++ C := ⟨_, rfl⟩
        have z2 : Q2.size = Q.size + 1 := by rw [hQ2, cat_z, hC1]
        have a2 := add_is hQ2 (by omega) (by omega)
        have hl := hid (show Q2.data.toList = escL (v.data.toList.take (k + 1)) by rw [hQ2, cat_l, esc_take hdl.out, if_neg (by rintro (h | h) <;> rw [h] at hd3 <;> revert hd3 <;> decide), HQ.out, hC])
        have z3 : Q2.size ≤ 2 * (k + 1) := by omega
        have hn := hid (take_ctl HN.out hdl.out hctl)
        clear hd3 hQ2 z2 hC hctl
        go_wp2
        go_round
        case rel => exact ⟨k + 1, Q2, by omega, by go_num, rfl, z3, hl, hn⟩
        case measure => simp [RowKit.intOf]; omega
      · have f1 : ¬ (d.toNat : Int) < 32 := by omega
        have g127 : ((d.toNat : Int) == 127) = false := by rw [beq_eq_false_iff_ne]; omega
        have g34 : ((d.toNat : Int) == 34) = true := by rw [beq_iff_eq]; omega
        obtain ⟨Q1, hQ1⟩ : ∃ r : ByteArray, r = Q ++ ⟨#[92]⟩ := ⟨_, rfl⟩
        obtain ⟨Q2, hQ2⟩ : ∃ r : ByteArray, r = Q1 ++ C := ⟨_, rfl⟩
        have z1 : Q1.size = Q.size + 1 := by rw [hQ1, cat_z]; rfl
        have z2 : Q2.size = Q.size + 1 + 1 := by rw [hQ2, cat_z, z1, hC1]
        have a1 := add_is hQ1 (by omega) (by decide)
        have a2 := add_is hQ2 (by omega) (by omega)
        have hl := hid (show Q2.data.toList = escL (v.data.toList.take (k + 1)) by rw [hQ2, cat_l, hQ1, cat_l, esc_take hdl.out, if_pos (by left; exact UInt8.toNat.inj hd3), HQ.out, hC]; simp)
        have z3 : Q2.size ≤ 2 * (k + 1) := by omega
        have hn := hid (take_ctl HN.out hdl.out hctl)
        clear hd3 hQ2 z2 hC hctl hQ1 z1
        go_wp2
        go_round
        case rel => exact ⟨k + 1, Q2, by omega, by go_num, rfl, z3, hl, hn⟩
        case measure => simp [RowKit.intOf]; omega
      · have f1 : ¬ (d.toNat : Int) < 32 := by omega
        have g127 : ((d.toNat : Int) == 127) = false := by rw [beq_eq_false_iff_ne]; omega
        have g34 : ((d.toNat : Int) == 34) = false := by rw [beq_eq_false_iff_ne]; omega
        have g92 : ((d.toNat : Int) == 92) = true := by rw [beq_iff_eq]; omega
        obtain ⟨Q1, hQ1⟩ : ∃ r : ByteArray, r = Q ++ ⟨#[92]⟩ := ⟨_, rfl⟩
        obtain ⟨Q2, hQ2⟩ : ∃ r : ByteArray, r = Q1 ++ C := ⟨_, rfl⟩
        have z1 : Q1.size = Q.size + 1 := by rw [hQ1, cat_z]; rfl
        have z2 : Q2.size = Q.size + 1 + 1 := by rw [hQ2, cat_z, z1, hC1]
        have a1 := add_is hQ1 (by omega) (by decide)
        have a2 := add_is hQ2 (by omega) (by omega)
        have hl := hid (show Q2.data.toList = escL (v.data.toList.take (k + 1)) by rw [hQ2, cat_l, hQ1, cat_l, esc_take hdl.out, if_pos (by right; exact UInt8.toNat.inj hd3), HQ.out, hC]; simp)
        have z3 : Q2.size ≤ 2 * (k + 1) := by omega
        have hn := hid (take_ctl HN.out hdl.out hctl)
        clear hd3 hQ2 z2 hC hctl hQ1 z1
        go_wp2
        go_round
        case rel => exact ⟨k + 1, Q2, by omega, by go_num, rfl, z3, hl, hn⟩
        case measure => simp [RowKit.intOf]; omega
      · have f1 : ¬ (d.toNat : Int) < 32 := by omega
        have g127 : ((d.toNat : Int) == 127) = false := by rw [beq_eq_false_iff_ne]; omega
        have g34 : ((d.toNat : Int) == 34) = false := by rw [beq_eq_false_iff_ne]; omega
        have g92 : ((d.toNat : Int) == 92) = false := by rw [beq_eq_false_iff_ne]; omega
        obtain ⟨Q2, hQ2⟩ : ∃ r : ByteArray, r = Q ++ C := ⟨_, rfl⟩
        have z2 : Q2.size = Q.size + 1 := by rw [hQ2, cat_z, hC1]
        have a2 := add_is hQ2 (by omega) (by omega)
        have hl := hid (show Q2.data.toList = escL (v.data.toList.take (k + 1)) by rw [hQ2, cat_l, esc_take hdl.out, if_neg (by rintro (h | h) <;> rw [h] at hd3 <;> revert hd3 <;> decide), HQ.out, hC])
        have z3 : Q2.size ≤ 2 * (k + 1) := by omega
        have hn := hid (take_ctl HN.out hdl.out hctl)
        clear hd3 hQ2 z2 hC hctl
        go_wp2
        go_round
        case rel => exact ⟨k + 1, Q2, by omega, by go_num, rfl, z3, hl, hn⟩
        case measure => simp [RowKit.intOf]; omega
    · have hlt' : ¬ (k : Int) < (v.size : Int) := by omega
      have ek : v.data.toList.take k = v.data.toList := List.take_of_length_le (by rw [← Lib.size_eq]; omega)
      rw [ek] at HQ HN
      obtain ⟨A1, hA1⟩ : ∃ r : ByteArray, r = (⟨#[120, 61, 34]⟩ : ByteArray) ++ Q := ⟨_, rfl⟩
      obtain ⟨A2, hA2⟩ : ∃ r : ByteArray, r = A1 ++ ⟨#[34, 59]⟩ := ⟨_, rfl⟩
      obtain ⟨A3, hA3⟩ : ∃ r : ByteArray, r = A2 ++ T := ⟨_, rfl⟩
      obtain ⟨A4, hA4⟩ : ∃ r : ByteArray, r = A3 ++ ⟨#[59, 32, 121, 59, 32, 122, 61, 116]⟩ := ⟨_, rfl⟩
      have s1 : A1.size = 3 + Q.size := by rw [hA1, cat_z]; rfl
      have s2 : A2.size = 3 + Q.size + 2 := by rw [hA2, cat_z, s1]; rfl
      have s3 : A3.size = 3 + Q.size + 2 + T.size := by rw [hA3, cat_z, s2]
      have s4 : A4.size = 3 + Q.size + 2 + T.size + 8 := by rw [hA4, cat_z, s3]; rfl
      have a1 := add_is hA1 (by decide) (by omega)
      have a2 := add_is hA2 (by omega) (by decide)
      have a3 := add_is hA3 (by omega) (by omega)
      have a4 := add_is hA4 (by omega) (by decide)
      have q := hid (show parseS A4.data.toList = some (n, b) by
        have e : A4.data.toList = 120 :: 61 :: 34 :: (escL v.data.toList ++ 34 :: 59 :: (wishL n b ++ [59, 32, 121, 59, 32, 122, 61, 116])) := by
          rw [hA4, cat_l, hA3, cat_l, hA2, cat_l, hA1, cat_l, HQ.out, hTl.out]; simp
        rw [e]
        exact others_is b Hn.out HN.out)
      have HI := hid (fun w G => is_yes A4 (by omega) trivial n b q.out w G)
      have c0 := W4.out.age
      have c1 := W4.out.subs
      clear hA1 hA2 hA3 hA4 s1 s2 s3 s4 ek
      go_wp2_with fail
      refine (HI.out _ (HG.out.below W4.out.below)).mono ?_
      rintro e w5 ⟨rfl, hb5⟩
      have W5 := hid (W4.out.go hb5)
      clear hb5 c0 c1
      go_wp2
      go_ret
      exact ⟨rfl, W5.out.below⟩
theorem stsOthers_walk (n : Int) (_wn : (Lit.int .i64 n).wf = true) (b : Bool) (v : ByteArray) (_hv : v.size ≤ maxLen) (zv : v.size ≤ 140737488351232) (w : World) (hL : laidMetH Tryd.prog Rows.stsOthersRow.laid w) (hsh : w.ShapedOpen Tryd.prog) :
    Calls Tryd.prog 6 #[.agg #[.int .i64 n, .bool b], .string v] w fun e w' => e = .returned (.bool true) ∧ Below w.heap.size w w' := by
  have G := goodP_of hL (by kernel_rfl) (by kernel_rfl) (by kernel_rfl) hsh
  by_cases h : 0 ≤ n ∧ n ≤ 2147483647
  · obtain ⟨m, rfl⟩ := Int.eq_ofNat_of_zero_le h.1
    by_cases hz : v.size ≤ 30000
    · exact stsOthers_yes m (by omega) b v hz w G
    · exact stsOthers_long m (by omega) b v zv (by omega) w G
  · exact stsOthers_far n h b v w G
end Go.Proofs.YtnmdcbneoipllaaDoor
