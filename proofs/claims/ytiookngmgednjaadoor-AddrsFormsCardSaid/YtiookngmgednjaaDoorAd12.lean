/- Walks: addrs.hexed, number, like. -/
import Derived.Test.YtiookngmgednjaaDoorAd11
namespace Go.Proofs.YtiookngmgednjaaDoor
open Go.RowKit Go.Lib Go.Proofs.Foot

theorem or_120 (b : UInt8) : (bits .or .u8 (b.toNat : Int) 32 == 120) = (b == 120 || b == 88) := by
  have := all_u8 (fun b => (bits .or .u8 (b.toNat : Int) 32 == 120) == (b == 120 || b == 88)) (by decide +kernel) b
  simpa using this
theorem hexedB_two {s : ByteArray} {a b : UInt8} {r : List UInt8} (h : s.data.toList = a :: b :: r) : hexedB s.data.toList = (a == 48 && (b == 120 || b == 88)) := by rw [h]; rfl
theorem hexedB_short {s : ByteArray} (h : ¬ 2 ≤ s.size) : hexedB s.data.toList = false := by
  have hsl : s.data.toList.length = s.size := (Lib.size_eq s).symm
  match hl : s.data.toList, hsl with
  | [], _ => rfl
  | [_], _ => rfl
  | _ :: _ :: _, e => simp at e; omega
set_option maxRecDepth 100000 in
theorem hexedA_yes (s : ByteArray) (h : hexedB s.data.toList = true) (hs : s.size ≤ 16777216) (u : ByteArray) (hu : u = s.extract 2 s.size) (w : World) :
    Calls Tryd.prog 40 #[.string s] w fun e w' => e = .returned (.tuple #[.string u, .bool true]) ∧ w = w' := by
  have h2 : 2 ≤ s.size := by
    by_cases h2 : 2 ≤ s.size
    · exact h2
    · rw [hexedB_short h2] at h; cases h
  obtain ⟨a, b, r, hl, h0, h1, e0, e1⟩ := two_of h2
  rw [hexedB_two hl, Bool.and_eq_true] at h
  have a48 : ((a.toNat : Int) == 48) = true := by
    have := eq_of_beq h.1
    rw [this]; rfl
  have b120 := or_120 b
  rw [h.2] at b120
  have hU := hid hu
  clear hl h hu
  go_enter Tryd.func40, Tryd.ntmps40
  go_wp2
  go_ret2
  exact ⟨ret_val4 (by rw [hU.out]; rfl), rfl⟩
set_option maxRecDepth 100000 in
theorem hexedA_no (s : ByteArray) (h : hexedB s.data.toList = false) (w : World) :
    Calls Tryd.prog 40 #[.string s] w fun e w' => e = .returned (.tuple #[.string ⟨#[]⟩, .bool false]) ∧ w = w' := by
  by_cases h2 : 2 ≤ s.size
  · obtain ⟨a, b, r, hl, h0, h1, e0, e1⟩ := two_of h2
    rw [hexedB_two hl] at h
    by_cases ha : a = 48
    · have a48 : ((a.toNat : Int) == 48) = true := by rw [ha]; rfl
      rw [ha] at h
      have b120 := or_120 b
      have hb : (b == 120 || b == 88) = false := by simpa using h
      rw [hb] at b120
      clear hl h ha hb
      go_enter Tryd.func40, Tryd.ntmps40
      go_wp2
      go_ret2
      exact ⟨rfl, rfl⟩
    · have a48 : ((a.toNat : Int) == 48) = false := by
        rw [beq_eq_false_iff_ne]; intro h; exact ha (UInt8.toNat.inj (by show a.toNat = 48; omega))
      clear hl h ha
      go_enter Tryd.func40, Tryd.ntmps40
      go_wp2
      go_ret2
      exact ⟨rfl, rfl⟩
  · have hz : ¬ (s.size : Int) ≥ 2 := by omega
    clear h
    go_enter Tryd.func40, Tryd.ntmps40
    go_wp2
    go_ret2
    exact ⟨rfl, rfl⟩
theorem count_A {b : Nat} (hb : b = 10 ∨ b = 8 ∨ b = 16) {s : ByteArray} (hs : s.size ≤ 16777216) {n : Nat} {k : Bool} (h : optV (cntB b s.data.toList) = .tuple #[.int .i64 n, .bool k]) (w : World) (G : GoodE w) :
    Calls Tryd.prog 42 #[.string s, .int .i64 b] w fun e w' => e = .returned (.tuple #[.int .i64 n, .bool k]) ∧ Below w.heap.size w w' := by
  rw [← h]
  rcases hb with rfl | rfl | rfl
  · exact countA10 s hs w G
  · exact countA8 s hs w G
  · exact countA16 s hs w G
set_option maxHeartbeats 1000000 in
set_option maxRecDepth 100000 in
theorem numberA_any (s : ByteArray) (w : World) (hs : s.size ≤ 16777216) (G : GoodE w) :
    Calls Tryd.prog 27 #[.string s] w fun e w' => e = .returned (optV (numP4 s.data.toList)) ∧ Below w.heap.size w w' := by
  have HG := hid G
  clear G
  unfold numP4
  by_cases hx : hexedB s.data.toList = true
  · rw [if_pos hx, ← ext_from]
    obtain ⟨u, hu⟩ : ∃ u, u = s.extract 2 s.size := ⟨_, rfl⟩
    have huz : u.size ≤ 16777216 := by rw [Lib.size_eq, hu, ext_from, List.length_drop, ← Lib.size_eq]; omega
    have HX := hid (hexedA_yes s hx hs u hu)
    rw [← hu]
    obtain ⟨n, ok, ho⟩ := optV_pair (cntB 16 u.data.toList)
    rw [ho]
    have HC := hid (count_A (b := 16) (by omega) huz ho)
    clear hx hu ho huz
    go_enter Tryd.func27, Tryd.ntmps27
    go_wp2_with (first
      | (go_at_call 40; refine (HX.out _).mono ?_; rintro e w1 ⟨rfl, rfl⟩)
      | (go_at_call 42; refine (HC.out _ HG.out).mono ?_; rintro e w2 ⟨rfl, hb2⟩))
    go_ret2
    exact ⟨rfl, hb2⟩
  · have hx' : hexedB s.data.toList = false := by simpa using hx
    rw [if_neg hx]
    have HX := hid (hexedA_no s hx')
    by_cases h0 : s.size = 0
    · have hl : s.data.toList = [] := List.eq_nil_of_length_eq_zero (by rw [← Lib.size_eq]; exact h0)
      rw [if_pos hl]
      have hse : s = ⟨#[]⟩ := by cases s; simp at hl; rw [hl]
      subst hse
      clear hx hx' hl h0
      go_enter Tryd.func27, Tryd.ntmps27
      go_wp2_with (go_at_call 40; refine (HX.out _).mono ?_; rintro e w1 ⟨rfl, rfl⟩)
      go_ret2
      exact ⟨rfl, Below.refl _ _⟩
    · have hp : 0 < s.size := by omega
      obtain ⟨a, r, hl, e0⟩ := one_of hp
      rw [if_neg (by rw [hl]; simp)]
      have hemp := empty_not (T := s) (by rw [hl]; simp)
      by_cases ha : a = 48
      · have a48 : ((a.toNat : Int) == 48) = true := by rw [ha]; rfl
        rw [if_pos (by rw [hl, ha]; rfl)]
        obtain ⟨n, ok, ho⟩ := optV_pair (cntB 8 s.data.toList)
        rw [ho]
        have HC := hid (count_A (b := 8) (by omega) hs ho)
        clear hx hx' hl ho ha h0
        go_enter Tryd.func27, Tryd.ntmps27
        go_wp2_with (first
          | (go_at_call 40; refine (HX.out _).mono ?_; rintro e w1 ⟨rfl, rfl⟩)
          | (go_at_call 42; refine (HC.out _ HG.out).mono ?_; rintro e w2 ⟨rfl, hb2⟩))
        go_ret2
        exact ⟨rfl, hb2⟩
      · have a48 : ((a.toNat : Int) == 48) = false := by
          rw [beq_eq_false_iff_ne]; intro h; exact ha (UInt8.toNat.inj (by show a.toNat = 48; omega))
        rw [if_neg (by rw [hl]; simp [ha])]
        obtain ⟨n, ok, ho⟩ := optV_pair (cntB 10 s.data.toList)
        rw [ho]
        have HC := hid (count_A (b := 10) (by omega) hs ho)
        clear hx hx' hl ho ha h0
        go_enter Tryd.func27, Tryd.ntmps27
        go_wp2_with (first
          | (go_at_call 40; refine (HX.out _).mono ?_; rintro e w1 ⟨rfl, rfl⟩)
          | (go_at_call 42; refine (HC.out _ HG.out).mono ?_; rintro e w2 ⟨rfl, hb2⟩))
        go_ret2
        exact ⟨rfl, hb2⟩
theorem optV_some {o : Option Nat} {n : Nat} {k : Bool} (h : optV o = .tuple #[.int .i64 n, .bool k]) : o.isSome = k := by
  cases o with
  | none => simp [optV] at h; rw [h.2]; rfl
  | some m => simp [optV] at h; rw [h.2]; rfl
theorem digsB_trim {l : List UInt8} (h : l ≠ []) : digsB l = l.all digB := by unfold digsB; rw [decide_eq_true h, Bool.true_and]
set_option maxHeartbeats 1000000 in
set_option maxRecDepth 100000 in
theorem likeA_any (s : ByteArray) (w : World) (hs : s.size ≤ 16777216) (G : GoodE w) :
    Calls Tryd.prog 26 #[.string s] w fun e w' => e = .returned (.bool (likeB s.data.toList)) ∧ Below w.heap.size w w' := by
  have HG := hid G
  clear G
  unfold likeB
  by_cases hx : hexedB s.data.toList = true
  · rw [if_pos hx]
    obtain ⟨n, ok, ho⟩ := optV_pair (numP4 s.data.toList)
    rw [optV_some ho]
    have HN : Hid (∀ w, GoodE w → Calls Tryd.prog 27 #[.string s] w fun e w' => e = .returned (.tuple #[.int .i64 n, .bool ok]) ∧ Below w.heap.size w w') := hid (fun w G => by rw [← ho]; exact numberA_any s w hs G)
    have HX := hid (hexedA_yes s hx hs _ rfl)
    clear hx ho
    generalize s.extract 2 s.size = u at HX
    go_enter Tryd.func26, Tryd.ntmps26
    go_wp2_with (first
      | (go_at_call 40; refine (HX.out _).mono ?_; rintro e w1 ⟨rfl, rfl⟩)
      | (go_at_call 27; refine (HN.out _ HG.out).mono ?_; rintro e w2 ⟨rfl, hb2⟩))
    go_ret
    exact ⟨rfl, hb2⟩
  · have hx' : hexedB s.data.toList = false := by simpa using hx
    rw [if_neg hx]
    have HX := hid (hexedA_no s hx')
    by_cases h0 : s.size = 0
    · have hl : s.data.toList = [] := List.eq_nil_of_length_eq_zero (by rw [← Lib.size_eq]; exact h0)
      rw [hl]
      have hse : s = ⟨#[]⟩ := by cases s; simp at hl; rw [hl]
      subst hse
      clear hx hx' hl h0
      go_enter Tryd.func26, Tryd.ntmps26
      go_wp2_with (go_at_call 40; refine (HX.out _).mono ?_; rintro e w1 ⟨rfl, rfl⟩)
      go_ret
      exact ⟨rfl, Below.refl _ _⟩
    · have hne : s.data.toList ≠ [] := fun e => h0 (by rw [Lib.size_eq, e]; rfl)
      have hemp := empty_not (T := s) hne
      have hemp2 : (!s.toList.isEmpty) = true := by rw [hemp]; rfl
      rw [decide_eq_true hne, Bool.true_and]
      rcases all_or digB s.data.toList with hd | hd
      · have HT := hid (trim10 s hs · ⟨#[]⟩ (all_in (fun c => (setL10_eq c).trans (ok10_eq c)) hd))
        rw [List.all_eq_true.2 hd]
        clear hx hx' hd hne h0
        go_enter Tryd.func26, Tryd.ntmps26
        go_wp2_with (first
          | (go_at_call 40; refine (HX.out _).mono ?_; rintro e w1 ⟨rfl, rfl⟩)
          | (go_at_call 41; refine (HT.out _).mono ?_; rintro e w2 ⟨rfl, hb2⟩))
        go_ret
        exact ⟨rfl, hb2⟩
      · obtain ⟨c, hc, hno⟩ := hd
        have hall : s.data.toList.all digB = false := by
          cases e : s.data.toList.all digB with
          | false => rfl
          | true => have := List.all_eq_true.1 e c hc; rw [hno] at this; cases this
        rw [hall]
        obtain ⟨T, hT⟩ : ∃ T : ByteArray, Lib.trimS s.data.toList setL10 = T.data.toList := ⟨⟨(Lib.trimS s.data.toList setL10).toArray⟩, by simp⟩
        have HT := hid (trim10 s hs · T hT)
        have hempT := empty_not (T := T) (by rw [← hT]; exact some_out (fun c => (setL10_eq c).trans (ok10_eq c)) hc hno)
        clear hx hx' hne h0 hc hno hall hT
        go_enter Tryd.func26, Tryd.ntmps26
        go_wp2_with (first
          | (go_at_call 40; refine (HX.out _).mono ?_; rintro e w1 ⟨rfl, rfl⟩)
          | (go_at_call 41; refine (HT.out _).mono ?_; rintro e w2 ⟨rfl, hb2⟩))
        go_ret
        exact ⟨rfl, hb2⟩
end Go.Proofs.YtiookngmgednjaaDoor
