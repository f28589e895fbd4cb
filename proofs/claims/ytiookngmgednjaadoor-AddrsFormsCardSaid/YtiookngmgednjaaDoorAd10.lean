/- Walks: the reference's Hex, Digit, and of chapter 04 count, digits, number. -/
import Derived.Test.YtiookngmgednjaaDoorBase
import Derived.Test.YtiookngmgednjaaDoorProg
import Derived.Test.YtiookngmgednjaaDoorSpec04b
import Derived.IntWalk
import Derived.Lib.Strings
namespace Go.Proofs.YtiookngmgednjaaDoor
open Go.RowKit Go.Lib Go.Proofs.Foot

theorem hexR_any (c : UInt8) (w : World) : Calls Tryd.prog 68 #[.int .u8 c.toNat] w fun e w' => e = .returned (.int .i64 (hexI c)) ∧ w = w' := by
  have h256 := c.toNat_lt
  by_cases h1 : 48 ≤ c.toNat ∧ c.toNat ≤ 57
  · have H := hid (show hexI c = (c.toNat : Int) - 48 from if_pos h1)
    obtain ⟨a, b⟩ := h1
    go_enter Tryd.func68, Tryd.ntmps68
    go_wp2
    go_ret
    exact ⟨ret_int H.out.symm, rfl⟩
  · by_cases h2 : 97 ≤ c.toNat ∧ c.toNat ≤ 102
    · have H := hid (show hexI c = (c.toNat : Int) - 87 from by unfold hexI; rw [if_neg h1, if_pos h2])
      obtain ⟨a, b⟩ := h2
      clear h1
      go_enter Tryd.func68, Tryd.ntmps68
      go_wp2
      go_ret
      exact ⟨ret_int (by rw [H.out]; omega), rfl⟩
    · by_cases h3 : 65 ≤ c.toNat ∧ c.toNat ≤ 70
      · have H := hid (show hexI c = (c.toNat : Int) - 55 from by unfold hexI; rw [if_neg h1, if_neg h2, if_pos h3])
        obtain ⟨a, b⟩ := h3
        clear h1 h2
        go_enter Tryd.func68, Tryd.ntmps68
        go_wp2
        go_ret
        exact ⟨ret_int (by rw [H.out]; omega), rfl⟩
      · have H := hid (show hexI c = -1 from by unfold hexI; rw [if_neg h1, if_neg h2, if_neg h3])
        go_enter Tryd.func68, Tryd.ntmps68
        go_wp2
        all_goals go_ret
        all_goals first
          | exact ⟨ret_int H.out.symm, rfl⟩
          | (exfalso; omega)

theorem digitN_any (c : UInt8) (w : World) :
    Calls Tryd.prog 44 #[.int .u8 c.toNat] w fun e w' => e = .returned (.bool (digB c)) ∧ w = w' := by
  go_enter Tryd.func44, Tryd.ntmps44
  go_wp2
  all_goals go_ret
  · refine ⟨ret_bool ?_, rfl⟩
    by_cases h : c.toNat ≤ 57
    · rw [digB_true (by omega)]; simp; omega
    · rw [digB_false (by omega)]; simp; omega
  · exact ⟨ret_bool (digB_false (by omega)).symm, rfl⟩
theorem digit_is (c : UInt8) (b : Bool) (h : digB c = b) (w : World) : Calls Tryd.prog 44 #[.int .u8 c.toNat] w fun e w' => e = .returned (.bool b) ∧ w = w' := by
  rw [← h]; exact digitN_any c w

/-- A number or none, as a value. -/
def optV (o : Option Nat) : Value := match o with
  | some n => .tuple #[.int .i64 n, .bool true]
  | none => .tuple #[.int .i64 0, .bool false]
theorem ret_val4 {a b : Value} (h : a = b) : Ending.returned a = .returned b := by rw [h]
theorem cntB_yes {b : Nat} {l : List UInt8} (h : ∀ c ∈ l, okB b c = true) : cntB b l = some (min 4294967296 (valB b 0 l)) := by
  unfold cntB; rw [if_pos (List.all_eq_true.2 h)]
theorem cntB_no {b : Nat} {l : List UInt8} {c : UInt8} (hc : c ∈ l) (h : okB b c = false) : cntB b l = none := by
  unfold cntB
  rw [if_neg (fun e => by have := List.all_eq_true.1 e c hc; rw [h] at this; cases this)]
set_option maxHeartbeats 1000000 in
set_option maxRecDepth 100000 in
theorem countR_any (s : ByteArray) (b : Nat) (h1 : 1 ≤ b) (h2 : b ≤ 16) (w : World) (hs : s.size ≤ 16777216) :
    Calls Tryd.prog 43 #[.string s, .int .i64 b] w fun e w' => e = .returned (optV (cntB b s.data.toList)) ∧ w = w' := by
  have hsl : s.data.toList.length = s.size := (Lib.size_eq s).symm
  have Hsl := hid hsl
  clear hsl
  go_enter Tryd.func43, Tryd.ntmps43
  go_wp2
  go_loop [6, 7] (fun n i => ∃ (k a : Nat), k ≤ s.size ∧ i = .int .i64 k ∧ n = .int .i64 a ∧ a ≤ 4294967296 ∧ Hid (a = min 4294967296 (valB b 0 (s.data.toList.take k)) ∧ ∀ c ∈ s.data.toList.take k, okB b c = true)) (fun _ i => s.size - (RowKit.intOf i).toNat)
  case atStart => exact ⟨0, 0, Nat.zero_le _, rfl, rfl, by omega, hid ⟨by rw [List.take_zero, valB_nil]; rfl, by simp⟩⟩
  case round =>
    obtain ⟨k, a, hk, rfl, rfl, ha, hh⟩ := hrel
    obtain ⟨hv, hall⟩ := hh.out
    by_cases hlt : k < s.size
    · obtain ⟨c, hc⟩ : ∃ c, s[k]'hlt = c := ⟨_, rfl⟩
      have hl : k < s.data.toList.length := by rw [Hsl.out]; exact hlt
      have hcl : s.data.toList[k]'hl = c := hc
      have hbd := hexI_bd c
      have hmem : c ∈ s.data.toList := by rw [← hcl]; exact List.getElem_mem hl
      have HX := hid (fun w => hexR_any c w)
      cases hok : okB b c with
      | true =>
        have h01 : 0 ≤ hexI c ∧ hexI c < (b : Int) := by
          unfold okB at hok; simpa using hok
        obtain ⟨d, hd⟩ : ∃ d : Nat, hexI c = (d : Int) := ⟨(hexI c).toNat, by omega⟩
        have hsn := valB_snoc (b := b) hl
        rw [hcl, hd, Int.toNat_natCast] at hsn
        rw [hd] at HX h01
        obtain ⟨n2, hn2⟩ : ∃ n2 : Nat, n2 = min 4294967296 (a * b + d) := ⟨_, rfl⟩
        have hn3 : n2 = min 4294967296 (valB b 0 (s.data.toList.take (k + 1))) := by rw [hn2, hsn, hv]; exact min_step h1
        have Hall : Hid (n2 = min 4294967296 (valB b 0 (s.data.toList.take (k + 1))) ∧ ∀ d ∈ s.data.toList.take (k + 1), okB b d = true) := by
          refine hid ⟨hn3, fun d hd => ?_⟩
          rw [List.take_add_one, List.getElem?_eq_getElem hl, Option.toList_some, hcl] at hd
          rcases List.mem_append.1 hd with h | h
          · exact hall d h
          · rw [List.mem_singleton.1 h]; exact hok
        have hab : (a : Int) * (b : Int) = ((a * b : Nat) : Int) := by rw [Int.natCast_mul]
        have habd : a * b ≤ 4294967296 * 16 := Nat.mul_le_mul ha h2
        obtain ⟨p, hp⟩ : ∃ p : Nat, p = a * b := ⟨_, rfl⟩
        rw [← hp] at hn2 hab habd
        have q1 : IntKind.i64.wrap ((a : Int) * (b : Int)) = (p : Int) := by rw [hab]; exact IntWalk.i64_in _ (by omega)
        have q2 : IntKind.i64.wrap ((p : Int) + (d : Int)) = (p : Int) + (d : Int) := IntWalk.i64_in _ (by omega)
        have hd0 : ¬ ((d : Int) < 0) := by omega
        have hdb : ¬ ((d : Int) ≥ (b : Int)) := by omega
        have hn2b : n2 ≤ 4294967296 := by omega
        have Hab := hid hab
        have hw1 : (p : Int) + (d : Int) < 4294967296 → (p : Int) + (d : Int) = (n2 : Int) := fun h => by omega
        have hw2 : ¬ (p : Int) + (d : Int) < 4294967296 → (4294967296 : Int) = (n2 : Int) := fun h => by omega
        have Hw1 := hid hw1
        have Hw2 := hid hw2
        clear hw1 hw2
        clear hcl hok hall hv hh hn2 hn3 hsn hd hmem hbd h01 hp hl hab
        go_wp2_with (go_at_call 68; refine (HX.out _).mono ?_; rintro e w1 ⟨rfl, rfl⟩)
        refine ⟨⟨k + 1, n2, by omega, by go_num, congrArg (Value.int .i64) ?_, hn2b, Hall⟩, by simp only [RowKit.intOf]; omega⟩
        by_cases h : (p : Int) + (d : Int) < 4294967296
        · rw [if_pos h]; exact Hw1.out h
        · rw [if_neg h]; exact Hw2.out (Int.not_lt.1 h)
      | false =>
        have h01 : hexI c < 0 ∨ (b : Int) ≤ hexI c := by
          unfold okB at hok
          simp only [Bool.and_eq_false_iff, decide_eq_false_iff_not] at hok
          omega
        have H := hid (cntB_no hmem hok)
        obtain ⟨x, hx⟩ : ∃ x, x = hexI c := ⟨_, rfl⟩
        rw [← hx] at HX h01 hbd
        clear hcl hok hall hv hh hmem hx hl
        rcases h01 with h0 | h0
        all_goals
          go_wp2_with (go_at_call 68; refine (HX.out _).mono ?_; rintro e w1 ⟨rfl, rfl⟩)
          go_ret2
          exact ⟨ret_val4 (by rw [H.out]; rfl), rfl⟩
    · have e : s.data.toList.take k = s.data.toList := List.take_of_length_le (by rw [Hsl.out]; omega)
      rw [e] at hv hall
      have H := hid (cntB_yes hall)
      have Hv := hid hv
      clear hv hall e hh
      go_wp2
      go_ret2
      exact ⟨ret_val4 (by rw [H.out, ← Hv.out]; rfl), rfl⟩
/-- Digits alone, and at least one? -/
def digsB (l : List UInt8) : Bool := decide (l ≠ []) && l.all digB
theorem digsB_no {l : List UInt8} {c : UInt8} (hc : c ∈ l) (h : digB c = false) : digsB l = false := by
  unfold digsB
  have : l.all digB = false := by
    cases e : l.all digB with
    | false => rfl
    | true => have := List.all_eq_true.1 e c hc; rw [h] at this; cases this
  rw [this, Bool.and_false]
theorem digsB_all {l : List UInt8} (h : ∀ c ∈ l, digB c = true) : digsB l = decide (0 < l.length) := by
  unfold digsB
  rw [List.all_eq_true.2 h, Bool.and_true, decide_eq_decide]
  cases l <;> simp
set_option maxRecDepth 100000 in
theorem digitsR_any (s : ByteArray) (w : World) (hs : s.size ≤ 16777216) :
    Calls Tryd.prog 30 #[.string s] w fun e w' => e = .returned (.bool (digsB s.data.toList)) ∧ w = w' := by
  have hsl : s.data.toList.length = s.size := (Lib.size_eq s).symm
  have Hsl := hid hsl
  clear hsl
  go_enter Tryd.func30, Tryd.ntmps30
  go_wp2
  go_loop [3] (fun i => ∃ k : Nat, k ≤ s.size ∧ i = .int .i64 k ∧ Hid (∀ c ∈ s.data.toList.take k, digB c = true)) (fun i => s.size - (RowKit.intOf i).toNat)
  case atStart => exact ⟨0, Nat.zero_le _, rfl, hid (by simp)⟩
  case round =>
    obtain ⟨k, hk, rfl, hall⟩ := hrel
    by_cases hlt : k < s.size
    · obtain ⟨c, hc⟩ : ∃ c, s[k]'hlt = c := ⟨_, rfl⟩
      have hl : k < s.data.toList.length := by rw [Hsl.out]; exact hlt
      have hcl : s.data.toList[k]'hl = c := hc
      cases hdg : digB c with
      | true =>
        have Hall : Hid (∀ d ∈ s.data.toList.take (k + 1), digB d = true) := by
          refine hid fun d hd => ?_
          rw [List.take_add_one, List.getElem?_eq_getElem hl, Option.toList_some, hcl] at hd
          rcases List.mem_append.1 hd with h | h
          · exact hall.out d h
          · rw [List.mem_singleton.1 h]; exact hdg
        have Hdg := hid hdg
        clear hcl hdg hall hl
        go_wp2_with (go_at_call 44; refine (digit_is c true Hdg.out _).mono ?_; rintro e w1 ⟨rfl, rfl⟩)
        go_round
        case rel => exact ⟨k + 1, by omega, by go_num, Hall⟩
        case measure => simp only [RowKit.intOf]; omega
      | false =>
        have H := hid (digsB_no (by rw [← hcl]; exact List.getElem_mem hl) hdg)
        have Hdg := hid hdg
        clear hcl hdg hall hl
        go_wp2_with (go_at_call 44; refine (digit_is c false Hdg.out _).mono ?_; rintro e w1 ⟨rfl, rfl⟩)
        go_ret
        exact ⟨ret_bool H.out.symm, rfl⟩
    · have e : s.data.toList.take k = s.data.toList := List.take_of_length_le (by rw [Hsl.out]; omega)
      rw [e] at hall
      have h := digsB_all hall.out
      rw [Hsl.out] at h
      have H := hid h
      clear h hall e
      go_wp2
      go_ret
      exact ⟨ret_bool (by rw [H.out]), rfl⟩
/-- The first two bytes of a text. -/
theorem two_of {s : ByteArray} (h : 2 ≤ s.size) : ∃ a b r, s.data.toList = a :: b :: r ∧ ∃ (h0 : 0 < s.size) (h1 : 1 < s.size), s[0]'h0 = a ∧ s[1]'h1 = b := by
  have hsl : s.data.toList.length = s.size := (Lib.size_eq s).symm
  match hl : s.data.toList, hsl with
  | a :: b :: r, _ =>
    refine ⟨a, b, r, rfl, by omega, by omega, ?_, ?_⟩
    · have : s.data.toList[0]'(by rw [hl]; simp) = a := by simp [hl]
      exact this
    · have : s.data.toList[1]'(by rw [hl]; simp) = b := by simp [hl]
      exact this
  | [a], e => simp at e; omega
  | [], e => simp at e; omega
theorem one_of {s : ByteArray} (h : 0 < s.size) : ∃ a r, s.data.toList = a :: r ∧ s[0]'h = a := by
  have hsl : s.data.toList.length = s.size := (Lib.size_eq s).symm
  match hl : s.data.toList, hsl with
  | a :: r, _ =>
    refine ⟨a, r, rfl, ?_⟩
    have : s.data.toList[0]'(by rw [hl]; simp) = a := by simp [hl]
    exact this
  | [], e => simp at e; omega
theorem ext_from (s : ByteArray) (k : Nat) : (s.extract k s.size).data.toList = s.data.toList.drop k := by
  rw [extract_eq]
  exact List.take_of_length_le (by rw [List.length_drop, ← Lib.size_eq]; exact Nat.le_refl _)
theorem count_is {s : ByteArray} {b : Nat} {o : Option Nat} (h1 : 1 ≤ b) (h2 : b ≤ 16) (hs : s.size ≤ 16777216) (h : cntB b s.data.toList = o) (w : World) :
    Calls Tryd.prog 43 #[.string s, .int .i64 b] w fun e w' => e = .returned (optV o) ∧ w = w' := by
  rw [← h]; exact countR_any s b h1 h2 w hs
theorem optV_pair (o : Option Nat) : ∃ (n : Nat) (b : Bool), optV o = .tuple #[.int .i64 n, .bool b] := by
  cases o with
  | none => exact ⟨0, false, rfl⟩
  | some n => exact ⟨n, true, rfl⟩
theorem count_pair {s : ByteArray} {b n : Nat} {k : Bool} (h1 : 1 ≤ b) (h2 : b ≤ 16) (hs : s.size ≤ 16777216) (h : optV (cntB b s.data.toList) = .tuple #[.int .i64 n, .bool k]) (w : World) :
    Calls Tryd.prog 43 #[.string s, .int .i64 b] w fun e w' => e = .returned (.tuple #[.int .i64 n, .bool k]) ∧ w = w' := by
  rw [← h]; exact countR_any s b h1 h2 w hs
set_option maxHeartbeats 2000000 in
set_option maxRecDepth 100000 in
theorem numberR_any (s : ByteArray) (w : World) (hs : s.size ≤ 16777216) :
    Calls Tryd.prog 29 #[.string s] w fun e w' => e = .returned (optV (numP4 s.data.toList)) ∧ w = w' := by
  rw [numP4_ref]
  by_cases h2 : 2 ≤ s.size
  · obtain ⟨a, b, r, hl, h0, h1, e0, e1⟩ := two_of h2
    by_cases ha : a = 48
    · have a48 : ((a.toNat : Int) == 48) = true := by rw [ha]; rfl
      by_cases hb : b = 120 ∨ b = 88
      · have hx : hexedB s.data.toList = true := by
          rw [hl, hexedB, ha]
          rcases hb with rfl | rfl <;> rfl
        rw [if_pos hx, ← ext_from]
        obtain ⟨u, hu⟩ : ∃ u, u = s.extract 2 s.size := ⟨_, rfl⟩
        have huz : u.size ≤ 16777216 := by rw [Lib.size_eq, hu, ext_from, List.length_drop, ← Lib.size_eq]; omega
        rw [← hu]
        obtain ⟨n, ok, ho⟩ := optV_pair (cntB 16 u.data.toList)
        have HC := hid (count_pair (b := 16) (by omega) (by omega) huz ho)
        rw [ho]
        have hU := hid hu
        clear hl hx ho hu huz
        by_cases hb1 : b = 120
        · have b120 : ((b.toNat : Int) == 120) = true := by rw [hb1]; rfl
          clear hb hb1 ha
          go_enter Tryd.func29, Tryd.ntmps29
          go_wp2_with fail
          rw [← hU.out]
          refine (HC.out _).mono ?_
          rintro e w1 ⟨rfl, rfl⟩
          go_wp2
          go_ret2
          exact ⟨rfl, rfl⟩
        · have b120 : ((b.toNat : Int) == 120) = false := by
            rw [beq_eq_false_iff_ne]; intro h; exact hb1 (UInt8.toNat.inj (by show b.toNat = 120; omega))
          have b88 : ((b.toNat : Int) == 88) = true := by
            rcases hb with h | h
            · exact absurd h hb1
            · rw [h]; rfl
          clear hb hb1 ha
          go_enter Tryd.func29, Tryd.ntmps29
          go_wp2_with fail
          rw [← hU.out]
          refine (HC.out _).mono ?_
          rintro e w1 ⟨rfl, rfl⟩
          go_wp2
          go_ret2
          exact ⟨rfl, rfl⟩
      · have hx : hexedB s.data.toList = false := by
          rw [hl, hexedB, ha]
          have n1 : (b == 120) = false := by rw [beq_eq_false_iff_ne]; exact fun h => hb (.inl h)
          have n2 : (b == 88) = false := by rw [beq_eq_false_iff_ne]; exact fun h => hb (.inr h)
          rw [n1, n2]; rfl
        have b120 : ((b.toNat : Int) == 120) = false := by
          rw [beq_eq_false_iff_ne]; intro h; exact hb (.inl (UInt8.toNat.inj (by show b.toNat = 120; omega)))
        have b88 : ((b.toNat : Int) == 88) = false := by
          rw [beq_eq_false_iff_ne]; intro h; exact hb (.inr (UInt8.toNat.inj (by show b.toNat = 88; omega)))
        rw [hx, if_neg (by decide), if_pos (by rw [hl, ha]; simp), ← ext_from]
        obtain ⟨u, hu⟩ : ∃ u, u = s.extract 1 s.size := ⟨_, rfl⟩
        have huz : u.size ≤ 16777216 := by rw [Lib.size_eq, hu, ext_from, List.length_drop, ← Lib.size_eq]; omega
        rw [← hu]
        obtain ⟨n, ok, ho⟩ := optV_pair (cntB 8 u.data.toList)
        have HC := hid (count_pair (b := 8) (by omega) (by omega) huz ho)
        rw [ho]
        have hU := hid hu
        clear hl hx ho hu huz hb ha
        go_enter Tryd.func29, Tryd.ntmps29
        go_wp2_with fail
        rw [← hU.out]
        refine (HC.out _).mono ?_
        rintro e w1 ⟨rfl, rfl⟩
        go_wp2
        go_ret2
        exact ⟨rfl, rfl⟩
    · have a48 : ((a.toNat : Int) == 48) = false := by
        rw [beq_eq_false_iff_ne]; intro h; exact ha (UInt8.toNat.inj (by show a.toNat = 48; omega))
      have hx : hexedB s.data.toList = false := by
        have n1 : (a == 48) = false := by rw [beq_eq_false_iff_ne]; exact ha
        rw [hl, hexedB, n1]; rfl
      rw [hx, if_neg (by decide), if_neg (by rw [hl]; simp [ha]), if_neg (by rw [hl]; simp)]
      obtain ⟨n, ok, ho⟩ := optV_pair (cntB 10 s.data.toList)
      have HC := hid (count_pair (b := 10) (by omega) (by omega) hs ho)
      rw [ho]
      have hz0 : ((s.size : Int) == 0) = false := by rw [beq_eq_false_iff_ne]; omega
      clear hl hx ho ha
      go_enter Tryd.func29, Tryd.ntmps29
      go_wp2_with fail
      refine (HC.out _).mono ?_
      rintro e w1 ⟨rfl, rfl⟩
      go_wp2
      go_ret2
      exact ⟨rfl, rfl⟩
  · by_cases h0 : s.size = 0
    · have hl : s.data.toList = [] := List.eq_nil_of_length_eq_zero (by rw [← Lib.size_eq]; exact h0)
      rw [hl]
      have hz0 : ((s.size : Int) == 0) = true := by rw [h0]; rfl
      have hz2 : ¬ (s.size : Int) ≥ 2 := by omega
      clear h0 hl
      go_enter Tryd.func29, Tryd.ntmps29
      go_wp2
      go_ret2
      exact ⟨rfl, rfl⟩
    · obtain ⟨a, r, hl, e0⟩ := one_of (show 0 < s.size by omega)
      have hr : r = [] := List.eq_nil_of_length_eq_zero (by
        have := congrArg List.length hl
        rw [← Lib.size_eq, List.length_cons] at this; omega)
      have hx : hexedB s.data.toList = false := by rw [hl, hr]; rfl
      rw [hx, if_neg (by decide), if_neg (by rw [hl, hr]; simp), if_neg (by rw [hl]; simp)]
      obtain ⟨n, ok, ho⟩ := optV_pair (cntB 10 s.data.toList)
      have HC := hid (count_pair (b := 10) (by omega) (by omega) hs ho)
      rw [ho]
      have hz0 : ((s.size : Int) == 0) = false := by rw [beq_eq_false_iff_ne]; omega
      have hz2 : ¬ (s.size : Int) ≥ 2 := by omega
      clear hl hx ho e0 hr
      go_enter Tryd.func29, Tryd.ntmps29
      go_wp2_with fail
      refine (HC.out _).mono ?_
      rintro e w1 ⟨rfl, rfl⟩
      go_wp2
      go_ret2
      exact ⟨rfl, rfl⟩
end Go.Proofs.YtiookngmgednjaaDoor
