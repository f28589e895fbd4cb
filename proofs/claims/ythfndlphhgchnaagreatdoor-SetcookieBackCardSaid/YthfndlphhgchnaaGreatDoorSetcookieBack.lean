/- Walk of the law SetcookieBack: a cookie's text tells it again, wide too. -/
import Derived.Test.YthfndlphhgchnaaGreatDoorSj
import Derived.Test.YthfndlphhgchnaaGreatDoorSi
import Derived.Test.YthfndlphhgchnaaGreatDoorRows
import Derived.Test.YthfndlphhgchnaaGreatDoorGood7
namespace Go.Proofs.YthfndlphhgchnaaGreatDoor
open Go.RowKit Go.Lib Go.Proofs.Foot

theorem slice_one (s : ByteArray) (k : Nat) (h : k < s.size) (_hz : s.size ≤ 1000000) (V : World) : (Instr.slice 9 (.string s) (some (.int .i64 k)) (some (.int .i64 ((k : Int) + 1))) none).run Tryz.prog V = .ok (.string (tx [s.data.toList[k]'(by simpa using h)])) V := by
  have e : s.extract k (k + 1) = tx [s.data.toList[k]'(by simpa using h)] := by
    rw [← tx_of (s.extract k (k + 1))]
    congr 1
    have hl : k < s.data.toList.length := by simpa using h
    rw [ByteArray.data_extract, Array.toList_extract, List.extract_eq_take_drop, show k + 1 - k = 1 from by omega, List.drop_eq_getElem_cons hl, List.take_succ_cons, List.take_zero]
  have : (Instr.slice 9 (.string s) (some (.int .i64 k)) (some (.int .i64 ((k : Int) + 1))) none).run Tryz.prog V = .ok (.string (s.extract k (k + 1))) V := run_slice_string V _ _ _ _ _ _ Tryz.underlying9 (by omega) (by omega) (by omega)
  rw [e] at this
  exact this
theorem widen_append (a b : List UInt8) : widen (a ++ b) = widen a ++ widen b := by unfold widen; rw [List.flatMap_append]
theorem widen_len (l : List UInt8) : (widen l).length ≤ 3 * l.length := by
  induction l with
  | nil => exact Nat.le_refl _
  | cons c l ih =>
    have e : widen (c :: l) = (if c = 59 then [59, 32, 9] else [c]) ++ widen l := rfl
    rw [e, List.length_append, List.length_cons]
    have : (if c = 59 then [59, 32, 9] else [c] : List UInt8).length ≤ 3 := by split <;> simp
    omega
theorem parse_len {l : List UInt8} {t : CkT} (h : parseC l = (t, 0)) : l.length ≤ 65536 := by
  rcases Nat.lt_or_ge 65536 l.length with h1 | h1
  · rw [parseC_long h1] at h
    injection h with _ h
    exact absurd h (by decide)
  · exact h1
set_option maxHeartbeats 4000000 in
set_option maxRecDepth 100000 in
theorem back_told (t : CkT) (ht : WfC t) (hr : ReachC t) (w : World) (G : Good w) :
    Calls Tryz.prog 7 #[.agg (rowC t)] w fun e w' => e = .returned (.bool true) ∧ Below w.heap.size w w' := by
  have HG := hid G
  have z : sizeC t ≤ 1125899906842624 := by have := hr.name; have := hr.value; have := hr.domain; have := hr.path; unfold sizeC; omega
  have HS := hid (fun w => size_any t hr w)
  have W0 := hid ((Cks.start w).box (t := t) rfl)
  have hi := infoTd t
  cases hb : beyond [sizeC t] with
  | true =>
    clear ht G hr
    generalize hC : rowC t = C at *
    have HC := hid hC
    clear hC
    go_enter Tryz.func7, Tryz.ntmps7
    go_upto_region 1 with fail
    generalize w.alloc _ = w1 at *
    go_wp2_with fail
    refine (alive_any _ (HG.out.below W0.out.below)).mono ?_
    rintro e w2 ⟨rfl, hb2⟩
    have W2 := hid (W0.out.go hb2)
    clear hb2
    have r2 := W2.out.at (g := w.heap.size) (t := t) (by simp)
    rw [HC.out] at r2
    go_wp2_with (refine load_agG (by rfl) _ rfl w.heap.size rfl _ _ _ r2 hi ?_)
    refine (HS.out _).mono ?_
    rintro e w3 ⟨rfl, hb3⟩
    have W3 := hid (W2.out.go hb3)
    clear hb3 r2
    go_wp2_with fail
    refine (beyondW _ _ z).mono ?_
    rintro e w4 ⟨rfl, rfl⟩
    have W4 := hid (W3.out.alloc (.cells #[.int .i64 (sizeC t : Nat)] 3))
    rw [hb]
    generalize w3.alloc _ = w4 at *
    go_wp2_with fail
    refine (alive_any _ (HG.out.below W4.out.below)).mono ?_
    rintro e w5 ⟨rfl, hb5⟩
    have W5 := hid (W4.out.go hb5)
    clear hb5
    go_wp2
    go_ret
    exact ⟨rfl, W5.out.below⟩
  | false =>
    have hle := beyond_le (zs := [sizeC t]) (by rw [hb]; decide)
    have hs : sizeC t ≤ 1048576 := by simpa using hle
    obtain ⟨D, hD⟩ := dateTx_ex t.exp
    obtain ⟨A, hA⟩ : ∃ A : ByteArray, A.data.toList = Lib.itoa t.age := ⟨tx (Lib.itoa t.age), tx_list _⟩
    have HA := hid (fun w (G : Good w) => textA_any t ht (by unfold sizeC at hs; omega) D A hD hA w G)
    unfold TextR at HA
    by_cases hp : parseC (textC t D.data.toList A.data.toList) = (t, 0)
    · rw [if_pos hp] at HA
      generalize textC t D.data.toList A.data.toList = l at *
      have hl := parse_len hp
      obtain ⟨S, hS⟩ : ∃ S, S = tx l := ⟨_, rfl⟩
      have hSl : S.data.toList = l := by rw [hS, tx_list]
      have hSz : S.size = l.length := by rw [hS, tx_size]
      rw [← hS] at HA
      have HI := hid (fun w (G : Good w) => is_any S t ht true (by rw [hSl]; exact decide_eq_true hp) w G)
      have hwl := widen_len l
      have HJ : Hid (∀ (X : ByteArray), X = tx (widen l) ++ ⟨#[32, 59, 59]⟩ → (tx (widen l)).size ≤ 60000 → ∀ w, Good w → Calls Tryz.prog 20 #[.string X, .agg (rowC t)] w fun e w' => e = .returned (.bool true) ∧ Below w.heap.size w w') := hid (fun X hX hz w G =>
        is_any X t ht true (decide_eq_true (by
          rw [hX, catL, tx_list]
          rw [tx_size] at hz
          exact parse_wide hp (by rw [List.length_append]; show _ + 3 ≤ _; omega))) w G)
      subst hSl
      have hsz : S.size ≤ 65536 := by omega
      clear ht G hr hle hs hD hA hp hS hl hSz hwl
      generalize hC : rowC t = C at *
      have HC := hid hC
      clear hC
      go_enter Tryz.func7, Tryz.ntmps7
      go_upto_region 1 with fail
      generalize w.alloc _ = w1 at *
      go_wp2_with fail
      refine (alive_any _ (HG.out.below W0.out.below)).mono ?_
      rintro e w2 ⟨rfl, hb2⟩
      have W2 := hid (W0.out.go hb2)
      clear hb2
      have r2 := W2.out.at (g := w.heap.size) (t := t) (by simp)
      rw [HC.out] at r2
      go_wp2_with (refine load_agG (by rfl) _ rfl w.heap.size rfl _ _ _ r2 hi ?_)
      refine (HS.out _).mono ?_
      rintro e w3 ⟨rfl, hb3⟩
      have W3 := hid (W2.out.go hb3)
      clear hb3 r2
      go_wp2_with fail
      refine (beyondW _ _ (by assumption)).mono ?_
      rintro e w4 ⟨rfl, rfl⟩
      have W4 := hid (W3.out.alloc (.cells #[.int .i64 (sizeC t : Nat)] 3))
      rw [hb]
      generalize w3.alloc _ = w4 at *
      have r4 := W4.out.at (g := w.heap.size) (t := t) (by simp)
      rw [HC.out] at r4
      go_wp2_with (refine load_agG (by rfl) _ rfl w.heap.size rfl _ _ _ r4 hi ?_)
      refine (HA.out _ (HG.out.below W4.out.below)).mono ?_
      rintro e w5 ⟨rfl, hb5⟩
      have W5 := hid (W4.out.go hb5)
      clear hb5 r4
      go_wp2
      go_loop [5, 6] (fun x i => ∃ k : Nat, k ≤ S.size ∧ i = .int .i64 k ∧ x = .string (tx (widen (S.data.toList.take k)))) (fun _ i => S.size - (RowKit.intOf i).toNat)
      case atStart => exact ⟨0, Nat.zero_le _, rfl, rfl⟩
      case round =>
        obtain ⟨k, hk, rfl, rfl⟩ := hrel
        have hwk : (widen (S.data.toList.take k)).length ≤ 3 * k := Nat.le_trans (widen_len _) (by rw [List.length_take]; omega)
        by_cases hlt : k < S.size
        · have hl : k < S.data.toList.length := by simpa using hlt
          have hnext : widen (S.data.toList.take (k + 1)) = widen (S.data.toList.take k) ++ (if S[k] = 59 then [59, 32, 9] else [S[k]]) := by
            rw [List.take_succ_eq_append_getElem hl, widen_append]
            congr 1
            show (if S[k] = 59 then [59, 32, 9] else [S[k]]) ++ [] = _
            rw [List.append_nil]
          have hs : ∀ V, (Instr.slice 9 (.string S) (some (.int .i64 k)) (some (.int .i64 ((k : Int) + 1))) none).run Tryz.prog V = .ok (.string (tx [S[k]])) V := fun V => slice_one S k hlt (by omega) V
          have v1 : IntKind.i64.wrap ((k : Int) + 1) = (k : Int) + 1 := IntWalk.i64_in _ (by omega)
          obtain ⟨P, hP⟩ : ∃ P, P = tx (widen (S.data.toList.take k)) := ⟨_, rfl⟩
          have zP : P.size ≤ 200000 := by rw [hP, tx_size]; omega
          obtain ⟨P1, hP1⟩ : ∃ P1, P1 = P ++ tx [S[k]] := ⟨_, rfl⟩
          have zP1 : P1.size = P.size + 1 := by rw [hP1, catZ]; rfl
          have q1 := addS hP1 (by omega) (by show (1 : Int) ≤ _; decide)
          rw [← hP]
          by_cases hc : S[k] = 59
          · rw [if_pos hc] at hnext
            obtain ⟨P2, hP2⟩ : ∃ P2, P2 = P1 ++ ⟨#[32, 9]⟩ := ⟨_, rfl⟩
            have q2 := addS hP2 (by omega) (by show (2 : Int) ≤ _; decide)
            have hfin : P2 = tx (widen (S.data.toList.take (k + 1))) := by
              rw [← tx_of P2, hP2, hP1, hP, hnext, catL, catL, tx_list, tx_list, hc, List.append_assoc]; rfl
            have Hfin := hid hfin
            have i1 : ((S[k].toNat : Int) == 59) = true := by rw [hc]; rfl
            clear hfin hnext hP hP1 hP2 hc hwk zP zP1
            go_wp2
            go_round
            case rel => exact ⟨k + 1, by omega, by go_num, by rw [Hfin.out]⟩
            case measure => simp [RowKit.intOf]; omega
          · rw [if_neg hc] at hnext
            have hfin : P1 = tx (widen (S.data.toList.take (k + 1))) := by
              rw [← tx_of P1, hP1, hP, hnext, catL, tx_list, tx_list]
            have Hfin := hid hfin
            have i1 : ((S[k].toNat : Int) == 59) = false := by
              rw [beq_eq_false_iff_ne]
              intro e
              exact hc (UInt8.toNat_inj.1 (by show _ = 59; omega))
            clear hfin hnext hP hP1 hc hwk zP zP1
            go_wp2
            go_round
            case rel => exact ⟨k + 1, by omega, by go_num, by rw [Hfin.out]⟩
            case measure => simp [RowKit.intOf]; omega
        · have e : S.data.toList.take k = S.data.toList := List.take_of_length_le (by simp; omega)
          rw [e]
          clear e hwk
          obtain ⟨X, hX⟩ : ∃ X, X = tx (widen S.data.toList) ++ ⟨#[32, 59, 59]⟩ := ⟨_, rfl⟩
          have zW := widen_len S.data.toList
          have zS : S.data.toList.length = S.size := by simp
          have zW2 : (tx (widen S.data.toList)).size ≤ 200000 := by rw [tx_size]; omega
          clear zS
          have q1 := addS hX (by omega) (by show (3 : Int) ≤ _; decide)
          have HX := hid hX
          clear hX zW
          have r5 := W5.out.at (g := w.heap.size) (t := t) (by simp)
          rw [HC.out] at r5
          go_wp2_with (refine load_agG (by rfl) _ rfl w.heap.size rfl _ _ _ r5 hi ?_)
          refine (HI.out _ (HG.out.below W5.out.below)).mono ?_
          rintro e w6 ⟨rfl, hb6⟩
          have W6 := hid (W5.out.go hb6)
          clear hb6 r5
          have r6 := W6.out.at (g := w.heap.size) (t := t) (by simp)
          rw [HC.out] at r6
          by_cases hbig : (tx (widen S.data.toList)).size > 60000
          · have hb1 : ((tx (widen S.data.toList)).size : Int) > 60000 := by omega
            go_wp2
            go_ret
            exact ⟨rfl, W6.out.below⟩
          · have hb1 : ¬ ((tx (widen S.data.toList)).size : Int) > 60000 := by omega
            go_wp2_with (refine load_agG (by first | rfl | (simp [Region.wanted, yielded, hb1]; done)) _ rfl w.heap.size rfl _ _ _ r6 hi ?_)
            refine (HJ.out X HX.out (by omega) _ (HG.out.below W6.out.below)).mono ?_
            rintro e w7 ⟨rfl, hb7⟩
            have W7 := hid (W6.out.go hb7)
            clear hb7
            go_wp2
            go_ret
            exact ⟨rfl, W7.out.below⟩
    · rw [if_neg hp] at HA
      clear ht G hr hle hs hD hA hp
      generalize hC : rowC t = C at *
      have HC := hid hC
      clear hC
      go_enter Tryz.func7, Tryz.ntmps7
      go_upto_region 1 with fail
      generalize w.alloc _ = w1 at *
      go_wp2_with fail
      refine (alive_any _ (HG.out.below W0.out.below)).mono ?_
      rintro e w2 ⟨rfl, hb2⟩
      have W2 := hid (W0.out.go hb2)
      clear hb2
      have r2 := W2.out.at (g := w.heap.size) (t := t) (by simp)
      rw [HC.out] at r2
      go_wp2_with (refine load_agG (by rfl) _ rfl w.heap.size rfl _ _ _ r2 hi ?_)
      refine (HS.out _).mono ?_
      rintro e w3 ⟨rfl, hb3⟩
      have W3 := hid (W2.out.go hb3)
      clear hb3 r2
      go_wp2_with fail
      refine (beyondW _ _ z).mono ?_
      rintro e w4 ⟨rfl, rfl⟩
      have W4 := hid (W3.out.alloc (.cells #[.int .i64 (sizeC t : Nat)] 3))
      rw [hb]
      generalize w3.alloc _ = w4 at *
      have r4 := W4.out.at (g := w.heap.size) (t := t) (by simp)
      rw [HC.out] at r4
      go_wp2_with (refine load_agG (by rfl) _ rfl w.heap.size rfl _ _ _ r4 hi ?_)
      refine (HA.out _ (HG.out.below W4.out.below)).mono ?_
      rintro e w5 ⟨rfl, hb5⟩
      have W5 := hid (W4.out.go hb5)
      clear hb5 r4
      go_wp2
      go_ret
      exact ⟨rfl, W5.out.below⟩
theorem setcookieBack_walk (x0 : ByteArray) (_w0 : x0.size ≤ maxLen) (z0 : x0.size ≤ 140737488351232) (x1 : ByteArray) (_w1 : x1.size ≤ maxLen) (z1 : x1.size ≤ 140737488351232) (x2 : ByteArray) (_w2 : x2.size ≤ maxLen) (z2 : x2.size ≤ 140737488351232) (x3 : ByteArray) (_w3 : x3.size ≤ maxLen) (z3 : x3.size ≤ 140737488351232)
    (x4 : Int) (w4 : (Lit.int .i64 x4).wf = true) (x5 : Bool) (x6 : Int) (w6 : (Lit.int .i64 x6).wf = true) (x7 x8 x9 : Bool) (x10 : Int) (w10 : (Lit.int .u8 x10).wf = true) (w : World) (hL : laidMetH Tryz.prog Rows.setcookieBackRow.laid w) (hsh : w.ShapedOpen Tryz.prog) :
    Calls Tryz.prog 7 #[.agg #[.string x0, .string x1, .string x2, .string x3, .int .i64 x4, .bool x5, .int .i64 x6, .bool x7, .bool x8, .bool x9, .int .u8 x10]] w fun e w' => e = .returned (.bool true) ∧ Below w.heap.size w w' := by
  have G := good_of hL (by kernel_rfl) (by kernel_rfl) (by kernel_rfl) hsh
  obtain ⟨h1, h2⟩ := toC_wf (s := x8) (h := x9) (hx := x5) (ha := x7) z0 z1 z2 z3 w4 w6 w10
  rw [toC_row w10]
  exact back_told _ h1 h2 w G
end Go.Proofs.YthfndlphhgchnaaGreatDoor
