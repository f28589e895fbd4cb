/- Walks: what setcookie's attributes do: the methods of the cookie. -/
import Derived.Test.YthfndlphhgchnaaGreatDoorCk6
import Derived.Test.YthfndlphhgchnaaGreatDoorLowE
import Derived.Test.YthfndlphhgchnaaGreatDoorSc2
import Derived.Test.YthfndlphhgchnaaGreatDoorSpec10e
namespace Go.Proofs.YthfndlphhgchnaaGreatDoor
open Go.RowKit Go.Lib Go.Proofs.Foot

theorem dateV_D (d : Dt) : dateV d = match dateD d with | some x => .tuple #[.int .i64 x, .bool true] | none => .tuple #[.int .i64 0, .bool false] := by
  unfold dateV dateD secVal
  by_cases h : fullP d = true
  · rw [if_pos h]
    by_cases o : okS (fixY (d.year.getD 0) : Nat) d.month (d.day.getD 0 : Nat) (d.clock.getD (0, 0, 0)).1 (d.clock.getD (0, 0, 0)).2.1 (d.clock.getD (0, 0, 0)).2.2 = true
    · rw [if_pos o, if_pos ⟨h, o⟩]
    · rw [if_neg o, if_neg (fun e => o e.2)]
  · rw [if_neg h, if_neg (fun e => h e.1)]
theorem cookieO_any (s : ByteArray) (hs : s.size ≤ 16777216) (w : World) (G : Good w) (v : Int) (o : Bool) (h : (match dateO s.data.toList with | some x => (x, true) | none => (0, false)) = (v, o)) :
    Calls Tryz.prog 66 #[.string s] w fun e w' => e = .returned (.tuple #[.int .i64 v, .bool o]) ∧ Below w.heap.size w w' := by
  refine (cookieA_any s hs w G).mono ?_
  rintro e w' ⟨he, hb⟩
  refine ⟨he.trans ?_, hb⟩
  rw [dateV_D]
  unfold dateO at h
  cases hd : dateD (dateP s.data.toList) with
  | none => rw [hd] at h; simp at h; rw [← h.1, ← h.2]
  | some x => rw [hd] at h; simp at h; rw [← h.1, ← h.2]
theorem secure_any (g : Nat) (t : CkT) (s : ByteArray) (w : World) (hg : Blk w g 57 (rowC t)) :
    Calls Tryz.prog 43 #[.pointer (some ⟨g, 0, none⟩), .string s] w (SaysR g { t with secure := true } w) := by
  have c8 : w.cell? ⟨g, 8, none⟩ = some (.bool t.secure) := hg.cell rfl
  have f8 := hg.free 8
  have Hg := hid hg
  clear hg
  go_enter Tryz.func43, Tryz.ntmps43
  go_wp2
  go_end0
  exact ⟨rfl, (Hg.out.put 8 _).eq rfl, grown_set (grown_refl _ _) _ _⟩
theorem hidden_any (g : Nat) (t : CkT) (s : ByteArray) (w : World) (hg : Blk w g 57 (rowC t)) :
    Calls Tryz.prog 44 #[.pointer (some ⟨g, 0, none⟩), .string s] w (SaysR g { t with hidden := true } w) := by
  have c8 : w.cell? ⟨g, 9, none⟩ = some (.bool t.hidden) := hg.cell rfl
  have f8 := hg.free 9
  have Hg := hid hg
  clear hg
  go_enter Tryz.func44, Tryz.ntmps44
  go_wp2
  go_end0
  exact ⟨rfl, (Hg.out.put 9 _).eq rfl, grown_set (grown_refl _ _) _ _⟩
theorem hasPrefix_one (a : UInt8) (l : List UInt8) : Lib.hasPrefix l [a] = decide (l.head? = some a) := by
  cases l with
  | nil => rfl
  | cons c r =>
    by_cases h : c = a
    · subst h; simp [Lib.hasPrefix, List.isPrefixOf]
    · have h' : (a == c) = false := by rw [beq_eq_false_iff_ne]; exact fun e => h e.symm
      simp [Lib.hasPrefix, List.isPrefixOf, h', h]
theorem path_any (g : Nat) (t : CkT) (s : ByteArray) (w : World) (hg : Blk w g 57 (rowC t)) :
    Calls Tryz.prog 42 #[.pointer (some ⟨g, 0, none⟩), .string s] w (SaysR g { t with path := pathO s.data.toList } w) := by
  have c8 : w.cell? ⟨g, 3, none⟩ = some (.string (tx t.path)) := hg.cell rfl
  have f8 := hg.free 3
  have Hg := hid hg
  have HP := Tryz.strings_HasPrefix s ⟨#[47]⟩ w
  have e : Lib.hasPrefix s.data.toList (⟨#[47]⟩ : ByteArray).data.toList = decide (s.data.toList.head? = some 47) := hasPrefix_one 47 _
  rw [e] at HP
  clear hg e
  by_cases h : s.data.toList.head? = some 47
  · rw [decide_eq_true h] at HP
    have hp := hid (show s = tx (pathO s.data.toList) by unfold pathO; rw [if_pos h, tx_of])
    have H := hid HP
    clear h HP
    go_enter Tryz.func42, Tryz.ntmps42
    go_wp2_with (go_at_call 70; refine (H.out).mono ?_; rintro e w1 ⟨rfl, rfl⟩)
    go_end0
    exact ⟨rfl, (Hg.out.put 3 _).eq (by show _ = rowC { t with path := pathO s.data.toList }; unfold rowC; rw [← hp.out]; rfl), grown_set (grown_refl _ _) _ _⟩
  · rw [decide_eq_false h] at HP
    have hp := hid (show (⟨#[]⟩ : ByteArray) = tx (pathO s.data.toList) by unfold pathO; rw [if_neg h]; rfl)
    have H := hid HP
    clear h HP
    go_enter Tryz.func42, Tryz.ntmps42
    go_wp2_with (go_at_call 70; refine (H.out).mono ?_; rintro e w1 ⟨rfl, rfl⟩)
    go_end0
    exact ⟨rfl, (Hg.out.put 3 _).eq (by show _ = rowC { t with path := pathO s.data.toList }; unfold rowC; rw [← hp.out]; rfl), grown_set (grown_refl _ _) _ _⟩
theorem trimP (s : ByteArray) (a : UInt8) (w : World) (T : ByteArray) (hT : offH a s.data.toList = T.data.toList) :
    Calls Tryz.prog 67 #[.string s, .string ⟨#[a]⟩] w fun e w' => e = .returned (.string T) ∧ w = w' := by
  refine (Tryz.strings_TrimPrefix s ⟨#[a]⟩ w).mono ?_
  rintro e w' ⟨he, rfl⟩
  refine ⟨he.trans ?_, rfl⟩
  have e1 : Lib.trimPrefix s.data.toList (⟨#[a]⟩ : ByteArray).data.toList = T.data.toList := (trimPrefix_one a _).trans hT
  rw [e1]
theorem lower_to (s : ByteArray) (hs : s.size ≤ 16777216) (w : World) (T : ByteArray) (hT : lower s.data.toList = T.data.toList) :
    Calls Tryz.prog 28 #[.string s] w fun e w' => e = .returned (.string T) ∧ Below w.heap.size w w' := by
  have := lowerA_any s w (by unfold maxLen; omega)
  rw [hT] at this; exact this
theorem domain_any (g : Nat) (t : CkT) (s : ByteArray) (hs : s.size ≤ 16777216) (w : World) (hg : Blk w g 57 (rowC t)) :
    Calls Tryz.prog 41 #[.pointer (some ⟨g, 0, none⟩), .string s] w (SaysR g { t with domain := lower (offH 46 s.data.toList) } w) := by
  obtain ⟨T, hT⟩ : ∃ T : ByteArray, offH 46 s.data.toList = T.data.toList := ⟨tx _, (tx_list _).symm⟩
  have hTs : T.size ≤ 16777216 := by have := offH_len 46 s.data.toList; rw [hT, ← Lib.size_eq, ← Lib.size_eq] at this; omega
  obtain ⟨L, hL⟩ : ∃ L : ByteArray, lower T.data.toList = L.data.toList := ⟨tx _, (tx_list _).symm⟩
  have H1 := hid (fun w => trimP s 46 w T hT)
  have H2 := hid (fun w => lower_to T hTs w L hL)
  have hD := hid (show L = tx (lower (offH 46 s.data.toList)) by rw [hT, hL, tx_of])
  have Hg := hid hg
  clear hg hT hL hTs
  go_enter Tryz.func41, Tryz.ntmps41
  go_wp2_with (go_at_call 67; refine (H1.out _).mono ?_; rintro e w1 ⟨rfl, rfl⟩)
  refine (H2.out _).mono ?_
  rintro e w1 ⟨rfl, hb1⟩
  have Hg1 := hid (Hg.out.keep hb1)
  have c3 : w1.cell? ⟨g, 2, none⟩ = some (.string (tx t.domain)) := Hg1.out.cell rfl
  have f3' := Hg1.out.free 2
  have Hb1 := hid (grown_below hb1 (some g))
  clear hb1
  go_wp2
  go_end0
  exact ⟨rfl, (Hg1.out.put 2 _).eq (by show _ = rowC { t with domain := lower (offH 46 s.data.toList) }; unfold rowC; rw [← hD.out]; rfl), grown_set Hb1.out _ _⟩
theorem expires_any (g : Nat) (t : CkT) (s : ByteArray) (hs : s.size ≤ 16777216) (w : World) (G : Good w) (hg : Blk w g 57 (rowC t)) :
    Calls Tryz.prog 39 #[.pointer (some ⟨g, 0, none⟩), .string s] w (SaysR g (match dateO s.data.toList with | some x => { t with exp := x, hasExp := true } | none => t) w) := by
  have H1 := fun v o h => cookieO_any s hs w G v o h
  have Hg := hid hg
  cases hd : dateO s.data.toList with
  | none =>
    have H := hid (H1 0 false (by rw [hd]))
    clear hg H1 hd G
    go_enter Tryz.func39, Tryz.ntmps39
    go_wp2_with (go_at_call 66; refine (H.out).mono ?_; rintro e w1 ⟨rfl, hb1⟩)
    go_end0
    exact ⟨rfl, Hg.out.keep hb1, grown_below hb1 _⟩
  | some x =>
    have H := hid (H1 x true (by rw [hd]))
    clear hg H1 hd G
    go_enter Tryz.func39, Tryz.ntmps39
    go_wp2_with fail
    refine (H.out).mono ?_
    rintro e w1 ⟨rfl, hb1⟩
    have Hg1 := hid (Hg.out.keep hb1)
    have c4 : w1.cell? ⟨g, 4, none⟩ = some (.int .i64 t.exp) := Hg1.out.cell rfl
    have f4 := Hg1.out.free 4
    have c5 : w1.cell? ⟨g, 5, none⟩ = some (.bool t.hasExp) := Hg1.out.cell rfl
    have f5 := Hg1.out.free 5
    have Hb1 := hid (grown_below hb1 (some g))
    clear hb1
    go_wp2
    go_end0
    exact ⟨rfl, ((Hg1.out.put 4 _).put 5 _).eq rfl, grown_set (grown_set Hb1.out _ _) _ _⟩
theorem site_any' (g : Nat) (t : CkT) (s : ByteArray) (hs : s.size ≤ 16777216) (w : World) (hg : Blk w g 57 (rowC t)) :
    Calls Tryz.prog 45 #[.pointer (some ⟨g, 0, none⟩), .string s] w (SaysR g { t with site := siteO s.data.toList } w) := by
  obtain ⟨L, hL⟩ : ∃ L : ByteArray, lower s.data.toList = L.data.toList := ⟨tx _, (tx_list _).symm⟩
  have hLs : L.size ≤ maxLen := by have := lower_length s.data.toList; rw [hL, ← Lib.size_eq, ← Lib.size_eq] at this; unfold maxLen; omega
  have H2 := hid (fun w => lower_to s hs w L hL)
  have hS : (siteF L.data.toList).getD (.int .u8 0) = .int .u8 (siteO s.data.toList : Nat) := by
    unfold siteF siteO
    rw [hL]
    by_cases h1 : L.data.toList = [110, 111, 110, 101]
    · rw [if_pos h1, if_neg (by rw [h1]; decide), if_neg (by rw [h1]; decide), if_pos h1]; rfl
    · rw [if_neg h1]
      by_cases h2 : L.data.toList = [108, 97, 120]
      · rw [if_pos h2, if_neg (by rw [h2]; decide), if_pos h2]; rfl
      · rw [if_neg h2]
        by_cases h3 : L.data.toList = [115, 116, 114, 105, 99, 116]
        · rw [if_pos h3, if_pos h3]; rfl
        · rw [if_neg h3, if_neg h3, if_neg h2, if_neg h1]; rfl
  have HS := hid hS
  have Hg := hid hg
  clear hg hL hS
  go_enter Tryz.func45, Tryz.ntmps45
  go_wp2_with fail
  refine (siteF_any w).mono ?_
  rintro e w1 ⟨rfl, hM, hb1⟩
  have HM := hid hM
  have Hb1 := hid hb1
  clear hM hb1
  go_wp2_with fail
  refine (H2.out _).mono ?_
  rintro e w2 ⟨rfl, hb2⟩
  have hl := (HM.out.below hb2).look2 (e := 22) Tryz.underlying92 (z := .int .u8 0) (by kernel_rfl) false L hLs
  rw [if_neg (by decide), HS.out] at hl
  have Hb := hid (below_chain Hb1.out hb2)
  have Hg1 := hid (Hg.out.keep Hb.out)
  have c3 : w2.cell? ⟨g, 10, none⟩ = some (.int .u8 (t.site : Nat)) := Hg1.out.cell rfl
  have f3' := Hg1.out.free 10
  clear hb2 hLs
  go_wp2
  go_end0
  exact ⟨rfl, (Hg1.out.put 10 _).eq rfl, grown_set (grown_below Hb.out _) _ _⟩
end Go.Proofs.YthfndlphhgchnaaGreatDoor
