/- Walk: the reference's two and Parse. -/
import Derived.Test.YtnkfgedpdokcpaaDoorTx2
import Derived.Test.YtnkfgedpdokcpaaDoorTx3
import Derived.Test.YtnkfgedpdokcpaaDoorNumR
namespace Go.Proofs.YtnkfgedpdokcpaaDoor
open Go.RowKit Go.Lib Go.Proofs.Foot

def twoN (l : List UInt8) : Nat := if numB l 99 = true then digV 0 l else 0
theorem twoR_any (t : ByteArray) (ht : t.size ≤ 16777216) (w : World) :
    Calls Tryd.prog 30 #[.string t] w fun e w' => e = .returned (.int .i64 (twoN t.data.toList)) ∧ Below w.heap.size w w' := by
  have HN := hid (fun w => numberR_any t 99 w ht)
  obtain ⟨o, ho⟩ : ∃ o, numV t.data.toList 99 = .tuple #[.int .i64 (twoN t.data.toList), .bool o] := by
    unfold numV twoN
    split
    · exact ⟨_, rfl⟩
    · exact ⟨_, rfl⟩
  rw [ho] at HN
  clear ho
  go_enter Tryd.func30, Tryd.ntmps30
  go_wp2_with fail
  refine (HN.out _).mono ?_
  rintro e w' ⟨rfl, rfl⟩
  go_wp2
  go_ret
  exact ⟨rfl, Below.refl _ _⟩
theorem twoN_dd {n : Nat} (h : n < 100) : twoN (dd n) = n := by
  have hb : numB (dd n) 99 = true := by
    unfold numB
    rw [digV_dd h, decide_eq_true (show (n : Int) ≤ 99 by omega), List.all_eq_true.2 (dd_all n)]
    rfl
  unfold twoN; rw [if_pos hb, digV_dd h]
/-- What two bytes of a text tell. -/
def twoAt (s : ByteArray) (a b : Nat) : Nat := twoN (s.extract a b).data.toList
theorem twoN_le (l : List UInt8) : twoN l ≤ 99 := by
  unfold twoN; split
  · rename_i h
    unfold numB at h
    simp only [Bool.and_eq_true, decide_eq_true_eq] at h
    omega
  · omega
theorem twoAt_le (s : ByteArray) (a b : Nat) : twoAt s a b ≤ 99 := twoN_le _
theorem textR_is (n : Nat) (s : ByteArray) (h : IsText s.data.toList n) (w : World) :
    Calls Tryd.prog 14 #[.int .i64 n] w fun e w' => e = .returned (.tuple #[.string s, .bool true]) ∧ Below w.heap.size w w' := by
  obtain ⟨hn, Y, M, K, W, D, hT⟩ := h
  exact textR_yes n hn Y M K W D s hT w
/-- The last month whose name is this one. -/
def monL (t : List UInt8) : Nat → Nat
  | 0 => 0
  | j + 1 => if monName j = t then j + 1 else monL t j
theorem monL_name (M : Nat) (h : M < 12) : monL (monName M) 12 = M + 1 := by
  have : ∀ M < 12, monL (monName M) 12 = M + 1 := by decide +kernel
  exact this M h

theorem slice_of (s : ByteArray) (a b : Nat) (h1 : a ≤ b) (h2 : b ≤ s.size) : ∀ V, (Instr.slice 9 (.string s) (some (.int .i64 (a : Int))) (some (.int .i64 (b : Int))) none).run Tryd.prog V = .ok (.string (s.extract a b)) V := fun V =>
  run_slice_string V _ _ _ _ _ _ Tryd.underlying9 (by omega) (by omega) (by omega)
theorem extTwo (s : ByteArray) (a b : Nat) (h : s.size ≤ 29) : (s.extract a b).size ≤ 16777216 := by have := ext_le s a b; omega

theorem twoAt_any (s : ByteArray) (a b : Nat) (h : s.size ≤ 29) (w : World) :
    Calls Tryd.prog 30 #[.string (s.extract a b)] w fun e w' => e = .returned (.int .i64 (twoAt s a b)) ∧ Below w.heap.size w w' := twoR_any _ (extTwo s a b h) w
theorem secB (w : World) {y m k h i x : Int} {V : Value} (H : ∀ w, Calls Tryd.prog 25 #[.int .i64 y, .int .i64 m, .int .i64 k, .int .i64 h, .int .i64 i, .int .i64 x] w fun e w' => e = .returned V ∧ w = w') :
    Calls Tryd.prog 25 #[.int .i64 y, .int .i64 m, .int .i64 k, .int .i64 h, .int .i64 i, .int .i64 x] w fun e w' => e = .returned V ∧ Below w.heap.size w w' := by
  refine (H w).mono ?_
  rintro e w' ⟨he, rfl⟩
  exact ⟨he, Below.refl _ _⟩

set_option maxHeartbeats 4000000 in
set_option maxRecDepth 100000 in
theorem parseR_any (s : ByteArray) (h29 : s.size = 29) (V : Value) (w : World) (v : Int) (o : Bool)
    (hv : secVal (100 * (twoAt s 12 14 : Int) + (twoAt s 14 16 : Int)) (monL (s.extract 8 11).data.toList 12) (twoAt s 5 7) (twoAt s 17 19) (twoAt s 20 22) (twoAt s 23 25) = .tuple #[.int .i64 v, .bool o])
    (hT : (¬ (0 ≤ v ∧ v ≤ 253402300799) ∧ V = .tuple #[.int .i64 0, .bool false]) ∨ ∃ (n : Nat) (T : ByteArray), v = n ∧ IsText T.data.toList n ∧ ((o = true ∧ T = s ∧ V = .tuple #[.int .i64 n, .bool true]) ∨ ((o = false ∨ T ≠ s) ∧ V = .tuple #[.int .i64 0, .bool false]))) :
    Calls Tryd.prog 16 #[.string s] w fun e w' => e = .returned V ∧ Below w.heap.size w w' := by
  have e29 : ((s.size : Int) != 29) = false := by rw [bne_eq_false_iff_eq]; omega
  have HS := hid (fun w => secondsR_any (100 * (twoAt s 12 14 : Int) + (twoAt s 14 16 : Int)) (monL (s.extract 8 11).data.toList 12) (twoAt s 5 7) (twoAt s 17 19) (twoAt s 20 22) (twoAt s 23 25) w)
  rw [hv] at HS
  have HT := hid hT
  have hz : s.size ≤ 29 := by omega
  have hz2 : 29 ≤ s.size := by omega
  clear hv hT h29
  have sl8 : ∀ V, (Instr.slice 9 (.string s) (some (.int .i64 8)) (some (.int .i64 11)) none).run Tryd.prog V = .ok (.string (s.extract 8 11)) V := slice_of s 8 11 (by omega) (by omega)
  have sl12 : ∀ V, (Instr.slice 9 (.string s) (some (.int .i64 12)) (some (.int .i64 14)) none).run Tryd.prog V = .ok (.string (s.extract 12 14)) V := slice_of s 12 14 (by omega) (by omega)
  have sl14 : ∀ V, (Instr.slice 9 (.string s) (some (.int .i64 14)) (some (.int .i64 16)) none).run Tryd.prog V = .ok (.string (s.extract 14 16)) V := slice_of s 14 16 (by omega) (by omega)
  have sl5 : ∀ V, (Instr.slice 9 (.string s) (some (.int .i64 5)) (some (.int .i64 7)) none).run Tryd.prog V = .ok (.string (s.extract 5 7)) V := slice_of s 5 7 (by omega) (by omega)
  have sl17 : ∀ V, (Instr.slice 9 (.string s) (some (.int .i64 17)) (some (.int .i64 19)) none).run Tryd.prog V = .ok (.string (s.extract 17 19)) V := slice_of s 17 19 (by omega) (by omega)
  have sl20 : ∀ V, (Instr.slice 9 (.string s) (some (.int .i64 20)) (some (.int .i64 22)) none).run Tryd.prog V = .ok (.string (s.extract 20 22)) V := slice_of s 20 22 (by omega) (by omega)
  have sl23 : ∀ V, (Instr.slice 9 (.string s) (some (.int .i64 23)) (some (.int .i64 25)) none).run Tryd.prog V = .ok (.string (s.extract 23 25)) V := slice_of s 23 25 (by omega) (by omega)
  obtain ⟨t, ht⟩ : ∃ t, t = (s.extract 8 11).data.toList := ⟨_, rfl⟩
  rw [← ht] at HS
  have Ht := hid ht
  clear ht
  go_enter Tryd.func16, Tryd.ntmps16
  go_wp2_with fail
  go_loopw [4, 5] (fun mm m wr => ∃ k : Nat, 1 ≤ k ∧ k ≤ 13 ∧ m = .int .i64 k ∧ mm = .int .i64 (monL t (k - 1)) ∧ Hid (Below w.heap.size w wr)) (fun _ m _ => 13 - (RowKit.intOf m).toNat)
  case atStart => exact ⟨1, by omega, by omega, rfl, rfl, hid (Below.refl _ _)⟩
  case round =>
    obtain ⟨k, hk1, hk, rfl, rfl, hbel⟩ := hrel
    by_cases hk12 : k ≤ 12
    · have q1 : IntKind.i64.wrap (3 * (k : Int)) = 3 * (k : Int) := IntWalk.i64_in _ (by omega)
      have q2 : IntKind.i64.wrap (3 * (k : Int) - 3) = 3 * (k : Int) - 3 := IntWalk.i64_in _ (by omega)
      obtain ⟨NM, hNM⟩ : ∃ NM : ByteArray, NM = monthsT.extract (3 * (k : Int) - 3).toNat (3 * (k : Int)).toNat := ⟨_, rfl⟩
      have hsl : ∀ W, (Instr.slice 9 (.string ⟨#[74, 97, 110, 70, 101, 98, 77, 97, 114, 65, 112, 114, 77, 97, 121, 74, 117, 110, 74, 117, 108, 65, 117, 103, 83, 101, 112, 79, 99, 116, 78, 111, 118, 68, 101, 99]⟩) (some (.int .i64 (3 * (k : Int) - 3))) (some (.int .i64 (3 * (k : Int)))) none).run Tryd.prog W = .ok (.string NM) W := fun W => by
        rw [hNM]
        exact run_slice_string W _ _ _ _ _ _ Tryd.underlying9 (by omega) (by omega) (by show 3 * (k : Int) ≤ 36; omega)
      have hlow : NM.data.toList = monName (k - 1) := by
        rw [hNM]; exact mons_at k hk1 hk12 _ _ (by omega) (by omega)
      have hsuc : monL t (k + 1 - 1) = if monName (k - 1) = t then k else monL t (k - 1) := by
        obtain ⟨j, rfl⟩ : ∃ j, k = j + 1 := ⟨k - 1, by omega⟩
        simp [monL]
      by_cases hq : monName (k - 1) = t
      · have e1 : (NM.toList == (s.extract 8 11).toList) = true := by
          rw [beq_iff_eq, Lib.toList_data, Lib.toList_data, hlow, hq, Ht.out]
        rw [if_pos hq] at hsuc
        have Hsuc := hid hsuc
        clear hNM hlow hsuc hq
        go_wp2
        go_quiet (fail)
        clear q1 q2 hsl e1
        go_wp2
        go_roundw
        case rel => exact ⟨k + 1, by omega, by omega, by go_num, by rw [Hsuc.out], hid (below_drewN hbel.out _)⟩
        case measure => simp [RowKit.intOf]; omega
      · have e1 : (NM.toList == (s.extract 8 11).toList) = false := by
          rw [beq_eq_false_iff_ne, Lib.toList_data, Lib.toList_data, hlow, ← Ht.out]; exact hq
        rw [if_neg hq] at hsuc
        have Hsuc := hid hsuc
        clear hNM hlow hsuc hq
        go_wp2
        go_quiet (fail)
        clear q1 q2 hsl e1
        go_wp2
        go_roundw
        case rel => exact ⟨k + 1, by omega, by omega, by go_num, by rw [Hsuc.out], hid (below_drewN hbel.out _)⟩
        case measure => simp [RowKit.intOf]; omega
    · obtain rfl : k = 13 := by omega
      go_wp2_with fail
      have b1 := twoAt_le s 12 14
      have b2 := twoAt_le s 14 16
      have p1 : IntKind.i64.wrap (100 * (twoAt s 12 14 : Int)) = 100 * (twoAt s 12 14 : Int) := IntWalk.i64_in _ (by omega)
      have p2 : IntKind.i64.wrap (100 * (twoAt s 12 14 : Int) + (twoAt s 14 16 : Int)) = 100 * (twoAt s 12 14 : Int) + (twoAt s 14 16 : Int) := IntWalk.i64_in _ (by omega)
      go_region_held3 (fun w' => Below wr.heap.size wr w') (first
          | exact below_chain ‹_› ‹_›
          | exact (Below.refl _ _).drew)
        (first
          | (go_at_call 30; refine (twoAt_any _ _ _ hz _).mono ?_; rintro e w1 ⟨rfl, hb1⟩)
          | (go_at_call 25; refine (secB _ HS.out).mono ?_; rintro e w2 ⟨rfl, hb2⟩))
      rename_i hH
      have B2 := hid (below_chain hbel.out hH)
      clear hH hbel p1 p2 sl8 sl12 sl14 sl5 sl17 sl20 sl23 HS
      rcases HT.out with ⟨hno, hV⟩ | ⟨n, T, rfl, hIs, ⟨rfl, rfl, hV⟩ | ⟨hor, hV⟩⟩
      · have HX := hid (fun w => textR_no v hno w)
        have HV := hid hV
        clear hno hV HT
        go_wp2_with fail
        refine (HX.out _).mono ?_
        rintro e w' ⟨rfl, rfl⟩
        cases o
        all_goals go_wp2
        all_goals go_ret2
        all_goals exact ⟨ret_val HV.out.symm, B2.out⟩
      · have HX := hid (fun w => textR_is n T hIs w)
        have HV := hid hV
        clear hIs hV HT
        go_wp2_with fail
        refine (HX.out _).mono ?_
        rintro e w3 ⟨rfl, hb3⟩
        have B3 := hid (below_chain B2.out hb3)
        clear hb3
        go_wp2
        go_ret2
        exact ⟨ret_val HV.out.symm, B3.out⟩
      · have HX := hid (fun w => textR_is n T hIs w)
        have HV := hid hV
        clear hIs hV HT
        rcases hor with rfl | hne
        · skip
          go_wp2_with fail
          refine (HX.out _).mono ?_
          rintro e w3 ⟨rfl, hb3⟩
          have B3 := hid (below_chain B2.out hb3)
          clear hb3
          go_wp2
          all_goals go_ret2
          all_goals exact ⟨ret_val HV.out.symm, B3.out⟩
        · have e1 : (T.toList == s.toList) = false := text_ne hne
          clear hne
          go_wp2_with fail
          refine (HX.out _).mono ?_
          rintro e w3 ⟨rfl, hb3⟩
          have B3 := hid (below_chain B2.out hb3)
          clear hb3
          cases o
          all_goals go_wp2
          all_goals go_ret2
          all_goals exact ⟨ret_val HV.out.symm, B3.out⟩
end Go.Proofs.YtnkfgedpdokcpaaDoor
