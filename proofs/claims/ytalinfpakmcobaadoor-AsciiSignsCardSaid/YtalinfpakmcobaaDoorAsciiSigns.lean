/- Walk of the law AsciiSigns: a byte alone is a token, or it is none in any text that has it. -/
import Derived.Test.YtalinfpakmcobaaDoorAlv1
import Derived.Test.YtalinfpakmcobaaDoorRows
namespace Go.Proofs.YtalinfpakmcobaaDoor
open Go.RowKit Go.Lib Go.Proofs.Foot

theorem cat_list (s t : ByteArray) : (s ++ t).data.toList = s.data.toList ++ t.data.toList := by simp [ByteArray.data_append]
theorem cat_size (s t : ByteArray) : (s ++ t).size = s.size + t.size := by rw [Lib.size_eq, cat_list, List.length_append, ← Lib.size_eq, ← Lib.size_eq]
/-- May a text stand beside a sign in a token? -/
def sideB (s : ByteArray) : Bool := s.data.toList.all signB
theorem side_empty {s : ByteArray} (h : s.data.toList = []) : sideB s = true := by unfold sideB; rw [h]; rfl
theorem side_token {s : ByteArray} (h : s.data.toList ≠ []) : token s.data.toList = sideB s := token_of_ne h

set_option maxHeartbeats 1000000 in
set_option maxRecDepth 100000 in
theorem asciiSigns_walk (x : Int) (wx : (Lit.int .u8 x).wf = true) (s : ByteArray) (_hs : s.size ≤ maxLen) (z : s.size ≤ 140737488351232) (t : ByteArray) (_ht : t.size ≤ maxLen) (zt : t.size ≤ 140737488351232) (w : World) (_hL : laidMetH Tryd.prog Rows.asciiSignsRow.laid w) (hsh : w.ShapedOpen Tryd.prog) :
    Calls Tryd.prog 10 #[.int .u8 x, .string s, .string t] w fun e w' => e = .returned (.bool true) ∧ Below w.heap.size w w' := by
  obtain ⟨c, rfl⟩ := u8_of wx
  have G := hid hsh
  clear _hL hsh _hs _ht wx
  cases hb : beyond [s.size, t.size] with
  | true =>
    go_enter Tryd.func10, Tryd.ntmps10
    go_wp2_with fail
    refine (alive_any _ G.out).mono ?_
    rintro e w1 ⟨rfl, hb1⟩
    have B1 := hid hb1
    clear hb1
    go_wp2_with (go_at_call 11; refine (beyond2 _ _ _ z zt).mono ?_; rintro e w2 ⟨rfl, rfl⟩)
    have hb2 : Below w1.heap.size w1 (w1.alloc (.cells #[.int .i64 s.size, .int .i64 t.size] 3)) := (Below.refl _ _).alloc (Nat.le_refl _) _
    have B2 := hid (below_chain B1.out hb2)
    clear hb2
    refine (alive_any _ (good_below G.out B2.out)).mono ?_
    rintro e w3 ⟨rfl, hb3⟩
    have B3 := hid (below_chain B2.out hb3)
    clear hb3
    go_wp2_with fail
    go_ret
    exact ⟨rfl, B3.out⟩
  | false =>
    have hle := beyond_le (zs := [s.size, t.size]) (by rw [hb]; decide)
    have hst : s.size + t.size ≤ 1048576 := by simpa using hle
    clear hle
    have hc1 : (⟨#[c]⟩ : ByteArray).size = 1 := rfl
    have hsz : s.size ≤ 1048576 := by omega
    have htz : t.size ≤ 1048576 := by omega
    have c256 := c.toNat_lt
    obtain ⟨o, ho⟩ : ∃ o, o = signB c := ⟨_, rfl⟩
    obtain ⟨l, hl⟩ : ∃ o, o = sideB s := ⟨_, rfl⟩
    obtain ⟨r, hr⟩ : ∃ o, o = sideB t := ⟨_, rfl⟩
    have H1 : Hid (token (⟨#[c]⟩ : ByteArray).data.toList = o) := hid (by rw [ho]; exact token_one c)
    obtain ⟨a, ha⟩ : ∃ a, a = (l && o && r) := ⟨_, rfl⟩
    have h2 : token (s ++ ⟨#[c]⟩ ++ t).data.toList = a := by
      rw [cat_list, cat_list, ha, hl, hr, ho]; exact token_mid _ _ c
    have hz : (s ++ ⟨#[c]⟩ ++ t).size ≤ 16777216 := by rw [cat_size, cat_size, hc1]; omega
    have HT := hid (fun w => token_is w (s ++ ⟨#[c]⟩ ++ t) hz a h2)
    have Ha := hid ha
    clear h2 hz ha
    have Hl := hid hl
    have Hr := hid hr
    have Hb : Hid (o = true → 32 < c.toNat ∧ c.toNat < 127) := hid (fun h => signB_bd (ho ▸ h))
    have e2 := fun W => conv1 c (W.alloc (.cells #[.int .u8 c.toNat] 5)) W.heap.size (cell1 c W)
    clear ho hl hr
    go_enter Tryd.func10, Tryd.ntmps10
    go_wp2_with fail
    refine (alive_any _ G.out).mono ?_
    rintro e w1 ⟨rfl, hb1⟩
    have B1 := hid hb1
    clear hb1
    go_wp2_with fail
    refine (beyond2 _ _ _ z zt).mono ?_
    rintro e w2 ⟨rfl, rfl⟩
    have hb2 : Below w1.heap.size w1 (w1.alloc (.cells #[.int .i64 s.size, .int .i64 t.size] 3)) := (Below.refl _ _).alloc (Nat.le_refl _) _
    have B2 := hid (below_chain B1.out hb2)
    clear hb2
    generalize w1.alloc _ = w2 at *
    go_wp2_with fail
    refine (token_is _ ⟨#[c]⟩ (by omega) o H1.out).mono ?_
    rintro e w3 ⟨rfl, hb3⟩
    have B3 := hid (below_chain (B2.out.alloc B2.out.size _) hb3)
    clear hb3
    go_wp2_with fail
    refine (HT.out _).mono ?_
    rintro e w4 ⟨rfl, hb4⟩
    have B4 := hid (below_chain (B3.out.alloc B3.out.size _) hb4)
    clear hb4
    have H32 : Hid (o = true → (c.toNat : Int) > 32 ∧ (c.toNat : Int) < 127) := hid (fun h => by have := Hb.out h; omega)
    by_cases hse : s.data.toList = []
    · have q1 : s.toList.isEmpty = true := by rw [Lib.toList_data, hse]; rfl
      have hl : l = true := by rw [Hl.out]; exact side_empty hse
      subst hl
      clear hse
      by_cases hte : t.data.toList = []
      · have q2 : t.toList.isEmpty = true := by rw [Lib.toList_data, hte]; rfl
        have hr : r = true := by rw [Hr.out]; exact side_empty hte
        subst hr
        clear hte
        cases o
        all_goals
          have ha := Ha.out
          simp at ha
          subst ha
          try (obtain ⟨g1, g2⟩ := H32.out rfl)
          go_wp2
        all_goals go_ret
        all_goals exact ⟨rfl, B4.out⟩
      · have q2 : t.toList.isEmpty = false := by rw [Lib.toList_data]; exact List.isEmpty_eq_false_iff.2 hte
        have H4 := hid ((side_token hte).trans Hr.out.symm)
        clear hte
        go_wp2_with fail
        refine (token_is _ t (by omega) r H4.out).mono ?_
        rintro e w6 ⟨rfl, hb6⟩
        have B6 := hid (below_chain B4.out hb6)
        clear hb6
        cases o <;> cases r
        all_goals
          have ha := Ha.out
          simp at ha
          subst ha
          try (obtain ⟨g1, g2⟩ := H32.out rfl)
          go_wp2
        all_goals go_ret
        all_goals exact ⟨rfl, B6.out⟩
    · have q1 : s.toList.isEmpty = false := by rw [Lib.toList_data]; exact List.isEmpty_eq_false_iff.2 hse
      have H3 := hid ((side_token hse).trans Hl.out.symm)
      clear hse
      go_wp2_with fail
      refine (token_is _ s (by omega) l H3.out).mono ?_
      rintro e w5 ⟨rfl, hb5⟩
      have B5 := hid (below_chain B4.out hb5)
      clear hb5
      by_cases hte : t.data.toList = []
      · have q2 : t.toList.isEmpty = true := by rw [Lib.toList_data, hte]; rfl
        have hr : r = true := by rw [Hr.out]; exact side_empty hte
        subst hr
        clear hte
        cases o <;> cases l
        all_goals
          have ha := Ha.out
          simp at ha
          subst ha
          try (obtain ⟨g1, g2⟩ := H32.out rfl)
          go_wp2
        all_goals go_ret
        all_goals exact ⟨rfl, B5.out⟩
      · have q2 : t.toList.isEmpty = false := by rw [Lib.toList_data]; exact List.isEmpty_eq_false_iff.2 hte
        have H4 := hid ((side_token hte).trans Hr.out.symm)
        clear hte
        go_wp2_with fail
        refine (token_is _ t (by omega) r H4.out).mono ?_
        rintro e w6 ⟨rfl, hb6⟩
        have B6 := hid (below_chain B5.out hb6)
        clear hb6
        cases o <;> cases l <;> cases r
        all_goals
          have ha := Ha.out
          simp at ha
          subst ha
          try (obtain ⟨g1, g2⟩ := H32.out rfl)
          go_wp2
        all_goals go_ret
        all_goals exact ⟨rfl, B6.out⟩
end Go.Proofs.YtalinfpakmcobaaDoor
