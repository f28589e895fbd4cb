/- Walk: dates' Parse. -/
import Derived.Test.YtnkfgedpdokcpaaDoorTx1
namespace Go.Proofs.YtnkfgedpdokcpaaDoor
open Go.RowKit Go.Lib Go.Proofs.Foot

/-- A text is the one of these seconds. -/
def IsText (l : List UInt8) (n : Nat) : Prop := n ≤ 253402300799 ∧ ∃ Y M K W, DayIs (n : Int) Y M K W ∧ textBy n Y M K W = l
theorem IsText.date {l : List UInt8} {n : Nat} (h : IsText l n) : dateV (dateP l) = .tuple #[.int .i64 n, .bool true] := by
  obtain ⟨_, Y, M, K, W, D, rfl⟩ := h
  exact dateV_text D
theorem dateV_form' (d : Dt) : ∃ v o, dateV d = .tuple #[.int .i64 v, .bool o] := by
  unfold dateV secVal
  split
  · split
    · exact ⟨_, _, rfl⟩
    · exact ⟨_, _, rfl⟩
  · exact ⟨_, _, rfl⟩
theorem textA_is (n : Nat) (s : ByteArray) (h : IsText s.data.toList n) (w : World) (G : Good w) :
    Calls Tryd.prog 13 #[.int .i64 n] w fun e w' => e = .returned (.tuple #[.string s, .bool true]) ∧ Below w.heap.size w w' := by
  obtain ⟨hn, Y, M, K, W, D, hT⟩ := h
  exact textA_yes n hn Y M K W D s hT w G
/-- What Text answers: none, or the seconds' text. -/
theorem text_cases (v : Int) : (¬ (0 ≤ v ∧ v ≤ 253402300799)) ∨ ∃ n : Nat, v = n ∧ ∃ T : ByteArray, IsText T.data.toList n := by
  by_cases h : 0 ≤ v ∧ v ≤ 253402300799
  · right
    obtain ⟨n, rfl⟩ := Int.eq_ofNat_of_zero_le h.1
    obtain ⟨Y, M, K, W, D⟩ := dayIs_of (n : Int) (by omega) h.2
    exact ⟨n, rfl, ⟨(textBy n Y M K W).toArray⟩, by omega, Y, M, K, W, D, by simp⟩
  · exact .inl h
theorem text_ne {T s : ByteArray} (h : T ≠ s) : (T.toList == s.toList) = false := by
  rw [beq_eq_false_iff_ne, Lib.toList_data, Lib.toList_data]
  exact fun e => h (bytes_ext e)
theorem neq_of {T s : ByteArray} {n : Nat} (hT : IsText T.data.toList n) (hs : ∀ n, ¬ IsText s.data.toList n) : T ≠ s := by
  rintro rfl; exact hs n hT

set_option maxHeartbeats 1000000 in
set_option maxRecDepth 100000 in
theorem parseA_yes (s : ByteArray) (hs : s.size ≤ 16777216) (n : Nat) (h : IsText s.data.toList n) (w : World) (G : Good w) :
    Calls Tryd.prog 15 #[.string s] w fun e w' => e = .returned (.tuple #[.int .i64 n, .bool true]) ∧ Below w.heap.size w w' := by
  have HC := hid (cookieA_any s hs w G)
  rw [h.date] at HC
  have HT := hid (fun w G => textA_is n s h w G)
  have HG := hid G
  clear h G
  go_enter Tryd.func15, Tryd.ntmps15
  go_wp2_with fail
  refine HC.out.mono ?_
  rintro e w1 ⟨rfl, hb1⟩
  have B1 := hid hb1
  clear hb1
  go_wp2_with fail
  refine (HT.out _ (HG.out.below B1.out)).mono ?_
  rintro e w2 ⟨rfl, hb2⟩
  have B2 := hid (below_chain B1.out hb2)
  clear hb2
  go_wp2
  go_ret2
  exact ⟨rfl, B2.out⟩

set_option maxHeartbeats 1000000 in
set_option maxRecDepth 100000 in
theorem parseA_no (s : ByteArray) (hs : s.size ≤ 16777216) (h : ∀ n, ¬ IsText s.data.toList n) (w : World) (G : Good w) :
    Calls Tryd.prog 15 #[.string s] w fun e w' => e = .returned (.tuple #[.int .i64 0, .bool false]) ∧ Below w.heap.size w w' := by
  have HC := hid (cookieA_any s hs w G)
  obtain ⟨v, o, hv⟩ := dateV_form' (dateP s.data.toList)
  rw [hv] at HC
  have HG := hid G
  clear G hv
  cases o with
  | false =>
    clear h
    go_enter Tryd.func15, Tryd.ntmps15
    go_wp2_with fail
    refine HC.out.mono ?_
    rintro e w1 ⟨rfl, hb1⟩
    have B1 := hid hb1
    clear hb1
    go_wp2
    go_ret2
    exact ⟨rfl, B1.out⟩
  | true =>
    rcases text_cases v with hn | ⟨n, rfl, T, hT⟩
    · have HT := hid (fun w => textA_no v hn w)
      clear h hn
      go_enter Tryd.func15, Tryd.ntmps15
      go_wp2_with fail
      refine HC.out.mono ?_
      rintro e w1 ⟨rfl, hb1⟩
      have B1 := hid hb1
      clear hb1
      go_wp2_with fail
      refine (HT.out _).mono ?_
      rintro e w' ⟨rfl, rfl⟩
      go_wp2
      go_ret2
      exact ⟨rfl, B1.out⟩
    · have HT := hid (fun w G => textA_is n T hT w G)
      have hne := neq_of hT h
      have e1 : (T.toList == s.toList) = false := text_ne hne
      clear h hT hne
      go_enter Tryd.func15, Tryd.ntmps15
      go_wp2_with fail
      refine HC.out.mono ?_
      rintro e w1 ⟨rfl, hb1⟩
      have B1 := hid hb1
      clear hb1
      go_wp2_with fail
      refine (HT.out _ (HG.out.below B1.out)).mono ?_
      rintro e w2 ⟨rfl, hb2⟩
      have B2 := hid (below_chain B1.out hb2)
      clear hb2
      go_wp2
      go_ret2
      exact ⟨rfl, B2.out⟩
end Go.Proofs.YtnkfgedpdokcpaaDoor
