/- Walk: the reference's says: what an attribute does. -/
import Derived.Test.YthfndlphhgchnaaGreatDoorSr2
import Derived.Test.YthfndlphhgchnaaGreatDoorLowR
import Derived.Test.YthfndlphhgchnaaGreatDoorRk5
import Derived.Test.YthfndlphhgchnaaGreatDoorSc4
namespace Go.Proofs.YthfndlphhgchnaaGreatDoor
open Go.RowKit Go.Lib Go.Proofs.Foot

/-- What it does, with the cookie in block g. -/
def SaysT (g : Nat) (t : CkT) (w : World) (e : Ending) (w' : World) : Prop := e = .returned (.tuple #[]) ∧ Blk w' g 24 (rowC t) ∧ w.grownBy w' (some g)
theorem lowerR_to (s : ByteArray) (hs : s.size ≤ 16777216) (w : World) (T : ByteArray) (hT : lower s.data.toList = T.data.toList) :
    Calls Tryz.prog 49 #[.string s] w fun e w' => e = .returned (.string T) ∧ Below w.heap.size w w' := by
  have := lowerR_any s w (by unfold maxLen; omega)
  rw [hT] at this; exact this
theorem cookieRO (s : ByteArray) (hs : s.size ≤ 16777216) (w : World) (v : Int) (o : Bool) (h : (match dateO s.data.toList with | some x => (x, true) | none => (0, false)) = (v, o)) :
    Calls Tryz.prog 50 #[.string s] w fun e w' => e = .returned (.tuple #[.int .i64 v, .bool o]) ∧ Below w.heap.size w w' := by
  refine (cookieR_any s hs w).mono ?_
  rintro e w' ⟨he, hb⟩
  refine ⟨he.trans ?_, hb⟩
  rw [dateV_D]
  unfold dateO at h
  cases hd : dateD (dateP s.data.toList) with
  | none => rw [hd] at h; simp at h; rw [← h.1, ← h.2]
  | some x => rw [hd] at h; simp at h; rw [← h.1, ← h.2]
theorem grown_more {w w1 w2 : World} {r : Option Nat} (h : w.grownBy w1 r) (hb : Below w1.heap.size w1 w2) : w.grownBy w2 r :=
  ⟨hb.os.trans h.os, hb.tape.trans h.tape, hb.output.trans h.output, Nat.le_trans h.size hb.size, fun k hk hne => (hb.block k (Nat.lt_of_lt_of_le hk h.size)).trans (h.block k hk hne)⟩
theorem str_no {T : ByteArray} {l : List UInt8} (h : T.data.toList ≠ l) : (T.toList == l) = false := by
  rw [beq_eq_false_iff_ne, Lib.toList_data]; exact h
theorem str_is {T : ByteArray} {l : List UInt8} (h : T.data.toList = l) : T = ⟨l.toArray⟩ := by rw [← h]
/-- A date is told. -/
def expT (t : CkT) (o : Option Int) : CkT := match o with | some x => { t with exp := x, hasExp := true } | none => t
/-- The head of a text, and what is behind it. -/
theorem head_ways (s : ByteArray) (a : UInt8) (A : Int) (hA : A = (a.toNat : Int)) : (s = ⟨#[]⟩) ∨ ∃ h : 0 < s.size, s.toList.isEmpty = false ∧ ((((s[0]'h).toNat : Int) == A) = decide (s.data.toList.head? = some a)) := by
  subst hA
  by_cases h0 : s.size = 0
  · left
    have hl0 : s.data.toList = [] := List.eq_nil_of_length_eq_zero (by rw [← Lib.size_eq]; exact h0)
    cases s; simp at hl0; rw [hl0]
  · right
    have h1 : 0 < s.size := by omega
    have hh := (head_ext s h1).1
    refine ⟨h1, empty_noR (by intro e; rw [e] at hh; cases hh), ?_⟩
    rw [hh]
    by_cases hc : s[0]'h1 = a
    · rw [hc]; simp
    · rw [decide_eq_false (fun e => hc (by injection e)), beq_eq_false_iff_ne]
      intro h; exact hc (UInt8.toNat.inj (by omega))
set_option maxHeartbeats 2000000 in
set_option maxRecDepth 100000 in
theorem saysR_secure (g : Nat) (t : CkT) (n v : ByteArray) (hn : n.size ≤ 16777216) (w : World) (hg : Blk w g 24 (rowC t)) (hL : lower n.data.toList = [115, 101, 99, 117, 114, 101]) :
    Calls Tryz.prog 31 #[.pointer (some ⟨g, 0, none⟩), .string n, .string v] w (SaysT g { t with secure := true } w) := by
  have H0 := hid (fun w => lowerR_to n hn w ⟨#[115, 101, 99, 117, 114, 101]⟩ hL)
  have Hg := hid hg
  clear hg
  go_enter Tryz.func31, Tryz.ntmps31
  go_wp2_with fail
  refine (H0.out _).mono ?_
  rintro e w1 ⟨rfl, hb1⟩
  have Hg1 := hid (Hg.out.keep hb1)
  have Hr1 := hid (grown_below hb1 (some g))
  clear hb1
  have c8 : w1.cell? ⟨g, 8, none⟩ = some (.bool t.secure) := Hg1.out.cell rfl
  have f8 := Hg1.out.free 8
  go_wp2
  go_end0
  exact ⟨rfl, (Hg1.out.put 8 _).eq rfl, grown_set Hr1.out _ _⟩
set_option maxHeartbeats 2000000 in
set_option maxRecDepth 100000 in
theorem saysR_hidden (g : Nat) (t : CkT) (n v : ByteArray) (hn : n.size ≤ 16777216) (w : World) (hg : Blk w g 24 (rowC t)) (hL : lower n.data.toList = [104, 116, 116, 112, 111, 110, 108, 121]) :
    Calls Tryz.prog 31 #[.pointer (some ⟨g, 0, none⟩), .string n, .string v] w (SaysT g { t with hidden := true } w) := by
  have H0 := hid (fun w => lowerR_to n hn w ⟨#[104, 116, 116, 112, 111, 110, 108, 121]⟩ hL)
  have Hg := hid hg
  clear hg
  go_enter Tryz.func31, Tryz.ntmps31
  go_wp2_with fail
  refine (H0.out _).mono ?_
  rintro e w1 ⟨rfl, hb1⟩
  have Hg1 := hid (Hg.out.keep hb1)
  have Hr1 := hid (grown_below hb1 (some g))
  clear hb1
  have c9 : w1.cell? ⟨g, 9, none⟩ = some (.bool t.hidden) := Hg1.out.cell rfl
  have f9 := Hg1.out.free 9
  go_wp2
  go_end0
  exact ⟨rfl, (Hg1.out.put 9 _).eq rfl, grown_set Hr1.out _ _⟩
set_option maxHeartbeats 2000000 in
set_option maxRecDepth 100000 in
theorem saysR_expires (g : Nat) (t : CkT) (n v : ByteArray) (hn : n.size ≤ 16777216) (hv : v.size ≤ 16777216) (w : World) (hg : Blk w g 24 (rowC t)) (hL : lower n.data.toList = [101, 120, 112, 105, 114, 101, 115]) :
    Calls Tryz.prog 31 #[.pointer (some ⟨g, 0, none⟩), .string n, .string v] w (SaysT g (expT t (dateO v.data.toList)) w) := by
  have H0 := hid (fun w => lowerR_to n hn w ⟨#[101, 120, 112, 105, 114, 101, 115]⟩ hL)
  have Hg := hid hg
  clear hg
  have H1 := fun W x y h => cookieRO v hv W x y h
  cases hd : dateO v.data.toList with
  | none =>
    have H := hid (fun W => H1 W 0 false (by rw [hd]))
    clear H1 hd
    go_enter Tryz.func31, Tryz.ntmps31
    go_wp2_with fail
    refine (H0.out _).mono ?_
    rintro e w1 ⟨rfl, hb1⟩
    have Hg1 := hid (Hg.out.keep hb1)
    have Hr1 := hid (grown_below hb1 (some g))
    clear hb1
    go_wp2_with fail
    refine (H.out _).mono ?_
    rintro e w2 ⟨rfl, hb2⟩
    have Hg2 := hid (Hg1.out.keep hb2)
    have Hr2 := hid (grown_more Hr1.out hb2)
    clear hb2
    go_wp2
    go_end0
    exact ⟨rfl, Hg2.out, Hr2.out⟩
  | some x =>
    have H := hid (fun W => H1 W x true (by rw [hd]))
    clear H1 hd
    go_enter Tryz.func31, Tryz.ntmps31
    go_wp2_with fail
    refine (H0.out _).mono ?_
    rintro e w1 ⟨rfl, hb1⟩
    have Hg1 := hid (Hg.out.keep hb1)
    have Hr1 := hid (grown_below hb1 (some g))
    clear hb1
    go_wp2_with fail
    refine (H.out _).mono ?_
    rintro e w2 ⟨rfl, hb2⟩
    have Hg2 := hid (Hg1.out.keep hb2)
    have Hr2 := hid (grown_more Hr1.out hb2)
    clear hb2
    have c4 : w2.cell? ⟨g, 4, none⟩ = some (.int .i64 t.exp) := Hg2.out.cell rfl
    have f4 := Hg2.out.free 4
    have c5 : w2.cell? ⟨g, 5, none⟩ = some (.bool t.hasExp) := Hg2.out.cell rfl
    have f5 := Hg2.out.free 5
    go_wp2
    go_end0
    exact ⟨rfl, ((Hg2.out.put 4 _).put 5 _).eq rfl, grown_set (grown_set Hr2.out _ _) _ _⟩
set_option maxHeartbeats 2000000 in
set_option maxRecDepth 100000 in
theorem saysR_age (g : Nat) (t : CkT) (n v : ByteArray) (hn : n.size ≤ 16777216) (hv : v.size ≤ 16777216) (w : World) (hg : Blk w g 24 (rowC t)) (hL : lower n.data.toList = [109, 97, 120, 45, 97, 103, 101]) :
    Calls Tryz.prog 31 #[.pointer (some ⟨g, 0, none⟩), .string n, .string v] w (SaysT g (ageT t (ageO v.data.toList)) w) := by
  have H0 := hid (fun w => lowerR_to n hn w ⟨#[109, 97, 120, 45, 97, 103, 101]⟩ hL)
  have Hg := hid hg
  clear hg
  have H1 := fun W x y h => ageR_any v hv W x y h
  cases hd : ageO v.data.toList with
  | none =>
    have H := hid (fun W => H1 W 0 false (by rw [hd]; rfl))
    clear H1 hd
    go_enter Tryz.func31, Tryz.ntmps31
    go_wp2_with fail
    refine (H0.out _).mono ?_
    rintro e w1 ⟨rfl, hb1⟩
    have Hg1 := hid (Hg.out.keep hb1)
    have Hr1 := hid (grown_below hb1 (some g))
    clear hb1
    go_wp2_with (go_at_call 51; refine (H.out _).mono ?_; rintro e w2 ⟨rfl, rfl⟩)
    go_end0
    exact ⟨rfl, Hg1.out, Hr1.out⟩
  | some x =>
    have H := hid (fun W => H1 W x true (by rw [hd]; rfl))
    clear H1 hd
    go_enter Tryz.func31, Tryz.ntmps31
    go_wp2_with fail
    refine (H0.out _).mono ?_
    rintro e w1 ⟨rfl, hb1⟩
    have Hg1 := hid (Hg.out.keep hb1)
    have Hr1 := hid (grown_below hb1 (some g))
    clear hb1
    have c6 : w1.cell? ⟨g, 6, none⟩ = some (.int .i64 t.age) := Hg1.out.cell rfl
    have f6 := Hg1.out.free 6
    have c7 : w1.cell? ⟨g, 7, none⟩ = some (.bool t.hasAge) := Hg1.out.cell rfl
    have f7 := Hg1.out.free 7
    go_wp2_with (go_at_call 51; refine (H.out _).mono ?_; rintro e w2 ⟨rfl, rfl⟩)
    go_end0
    exact ⟨rfl, ((Hg1.out.put 6 _).put 7 _).eq rfl, grown_set (grown_set Hr1.out _ _) _ _⟩
set_option maxHeartbeats 2000000 in
set_option maxRecDepth 100000 in
theorem saysR_domain (g : Nat) (t : CkT) (n v : ByteArray) (hn : n.size ≤ 16777216) (hv : v.size ≤ 16777216) (w : World) (hg : Blk w g 24 (rowC t)) (hL : lower n.data.toList = [100, 111, 109, 97, 105, 110]) :
    Calls Tryz.prog 31 #[.pointer (some ⟨g, 0, none⟩), .string n, .string v] w (SaysT g { t with domain := lower (offH 46 v.data.toList) } w) := by
  have H0 := hid (fun w => lowerR_to n hn w ⟨#[100, 111, 109, 97, 105, 110]⟩ hL)
  have Hg := hid hg
  clear hg
  obtain ⟨T, hT⟩ : ∃ T : ByteArray, offH 46 v.data.toList = T.data.toList := ⟨tx _, (tx_list _).symm⟩
  have hTs : T.size ≤ 16777216 := by have := offH_len 46 v.data.toList; rw [hT, ← Lib.size_eq, ← Lib.size_eq] at this; omega
  obtain ⟨D, hD⟩ : ∃ D : ByteArray, lower T.data.toList = D.data.toList := ⟨tx _, (tx_list _).symm⟩
  have H2 := hid (fun w => lowerR_to T hTs w D hD)
  have hDD := hid (show D = tx (lower (offH 46 v.data.toList)) by rw [hT, hD, tx_of])
  rcases head_ways v 46 46 rfl with rfl | ⟨h0, hemp, hc⟩
  · obtain rfl : T = ⟨#[]⟩ := by have : T.data.toList = [] := hT.symm; cases T; simp at this; rw [this]
    clear hT hTs hD
    go_enter Tryz.func31, Tryz.ntmps31
    go_wp2_with fail
    refine (H0.out _).mono ?_
    rintro e w1 ⟨rfl, hb1⟩
    have Hg1 := hid (Hg.out.keep hb1)
    have Hr1 := hid (grown_below hb1 (some g))
    clear hb1
    go_wp2_with fail
    refine (H2.out _).mono ?_
    rintro e w2 ⟨rfl, hb2⟩
    have Hg2 := hid (Hg1.out.keep hb2)
    have Hr2 := hid (grown_more Hr1.out hb2)
    clear hb2
    have c2 : w2.cell? ⟨g, 2, none⟩ = some (.string (tx t.domain)) := Hg2.out.cell rfl
    have f2 := Hg2.out.free 2
    go_wp2
    go_end0
    exact ⟨rfl, (Hg2.out.put 2 _).eq (by show _ = rowC { t with domain := lower (offH 46 (⟨#[]⟩ : ByteArray).data.toList) }; unfold rowC; rw [← hDD.out]; rfl), grown_set Hr2.out _ _⟩
  · by_cases hh : v.data.toList.head? = some 46
    · have hTe := hid (show v.extract 1 v.size = T from by
        have h2 := (head_ext v h0).2
        unfold offH at hT; rw [if_pos hh] at hT
        rw [← tx_of (v.extract 1 v.size), h2, hT, tx_of])
      rw [decide_eq_true hh] at hc
      have h1 : 1 ≤ v.size := h0
      clear hT hTs hD hh
      go_enter Tryz.func31, Tryz.ntmps31
      go_wp2_with fail
      refine (H0.out _).mono ?_
      rintro e w1 ⟨rfl, hb1⟩
      have Hg1 := hid (Hg.out.keep hb1)
      have Hr1 := hid (grown_below hb1 (some g))
      clear hb1
      go_wp2_with fail
      rw [hTe.out]
      refine (H2.out _).mono ?_
      rintro e w2 ⟨rfl, hb2⟩
      have Hg2 := hid (Hg1.out.keep hb2)
      have Hr2 := hid (grown_more Hr1.out hb2)
      clear hb2
      have c2 : w2.cell? ⟨g, 2, none⟩ = some (.string (tx t.domain)) := Hg2.out.cell rfl
      have f2 := Hg2.out.free 2
      go_wp2
      go_end0
      exact ⟨rfl, (Hg2.out.put 2 _).eq (by show _ = rowC { t with domain := lower (offH 46 v.data.toList) }; unfold rowC; rw [← hDD.out]; rfl), grown_set Hr2.out _ _⟩
    · obtain rfl : T = v := by rw [offH_no hh] at hT; rw [← tx_of T, ← hT, tx_of]
      rw [decide_eq_false hh] at hc
      clear hT hTs hD hh
      go_enter Tryz.func31, Tryz.ntmps31
      go_wp2_with fail
      refine (H0.out _).mono ?_
      rintro e w1 ⟨rfl, hb1⟩
      have Hg1 := hid (Hg.out.keep hb1)
      have Hr1 := hid (grown_below hb1 (some g))
      clear hb1
      go_wp2_with fail
      refine (H2.out _).mono ?_
      rintro e w2 ⟨rfl, hb2⟩
      have Hg2 := hid (Hg1.out.keep hb2)
      have Hr2 := hid (grown_more Hr1.out hb2)
      clear hb2
      have c2 : w2.cell? ⟨g, 2, none⟩ = some (.string (tx t.domain)) := Hg2.out.cell rfl
      have f2 := Hg2.out.free 2
      go_wp2
      go_end0
      exact ⟨rfl, (Hg2.out.put 2 _).eq (by show _ = rowC { t with domain := lower (offH 46 T.data.toList) }; unfold rowC; rw [← hDD.out]; rfl), grown_set Hr2.out _ _⟩
set_option maxHeartbeats 2000000 in
set_option maxRecDepth 100000 in
theorem saysR_path (g : Nat) (t : CkT) (n v : ByteArray) (hn : n.size ≤ 16777216) (w : World) (hg : Blk w g 24 (rowC t)) (hL : lower n.data.toList = [112, 97, 116, 104]) :
    Calls Tryz.prog 31 #[.pointer (some ⟨g, 0, none⟩), .string n, .string v] w (SaysT g { t with path := pathO v.data.toList } w) := by
  have H0 := hid (fun w => lowerR_to n hn w ⟨#[112, 97, 116, 104]⟩ hL)
  have Hg := hid hg
  clear hg
  rcases head_ways v 47 47 rfl with rfl | ⟨h0, hemp, hc⟩
  · have hp := hid (show (⟨#[]⟩ : ByteArray) = tx (pathO (⟨#[]⟩ : ByteArray).data.toList) from rfl)
    go_enter Tryz.func31, Tryz.ntmps31
    go_wp2_with fail
    refine (H0.out _).mono ?_
    rintro e w1 ⟨rfl, hb1⟩
    have Hg1 := hid (Hg.out.keep hb1)
    have Hr1 := hid (grown_below hb1 (some g))
    clear hb1
    have c3 : w1.cell? ⟨g, 3, none⟩ = some (.string (tx t.path)) := Hg1.out.cell rfl
    have f3 := Hg1.out.free 3
    go_wp2
    go_end0
    exact ⟨rfl, (Hg1.out.put 3 _).eq (by show _ = rowC { t with path := pathO (⟨#[]⟩ : ByteArray).data.toList }; unfold rowC; rw [← hp.out]; rfl), grown_set Hr1.out _ _⟩
  · by_cases hh : v.data.toList.head? = some 47
    · have hp := hid (show v = tx (pathO v.data.toList) by unfold pathO; rw [if_pos hh, tx_of])
      rw [decide_eq_true hh] at hc
      clear hh
      go_enter Tryz.func31, Tryz.ntmps31
      go_wp2_with fail
      refine (H0.out _).mono ?_
      rintro e w1 ⟨rfl, hb1⟩
      have Hg1 := hid (Hg.out.keep hb1)
      have Hr1 := hid (grown_below hb1 (some g))
      clear hb1
      have c3 : w1.cell? ⟨g, 3, none⟩ = some (.string (tx t.path)) := Hg1.out.cell rfl
      have f3 := Hg1.out.free 3
      go_wp2
      go_end0
      exact ⟨rfl, ((Hg1.out.put 3 _).put 3 _).eq (by show _ = rowC { t with path := pathO v.data.toList }; unfold rowC; rw [← hp.out]; rfl), grown_set (grown_set Hr1.out _ _) _ _⟩
    · have hp := hid (show (⟨#[]⟩ : ByteArray) = tx (pathO v.data.toList) by unfold pathO; rw [if_neg hh]; rfl)
      rw [decide_eq_false hh] at hc
      clear hh
      go_enter Tryz.func31, Tryz.ntmps31
      go_wp2_with fail
      refine (H0.out _).mono ?_
      rintro e w1 ⟨rfl, hb1⟩
      have Hg1 := hid (Hg.out.keep hb1)
      have Hr1 := hid (grown_below hb1 (some g))
      clear hb1
      have c3 : w1.cell? ⟨g, 3, none⟩ = some (.string (tx t.path)) := Hg1.out.cell rfl
      have f3 := Hg1.out.free 3
      go_wp2
      go_end0
      exact ⟨rfl, (Hg1.out.put 3 _).eq (by show _ = rowC { t with path := pathO v.data.toList }; unfold rowC; rw [← hp.out]; rfl), grown_set Hr1.out _ _⟩
set_option maxHeartbeats 2000000 in
set_option maxRecDepth 100000 in
theorem saysR_site (g : Nat) (t : CkT) (n v : ByteArray) (hn : n.size ≤ 16777216) (hv : v.size ≤ 16777216) (w : World) (hg : Blk w g 24 (rowC t)) (hL : lower n.data.toList = [115, 97, 109, 101, 115, 105, 116, 101]) :
    Calls Tryz.prog 31 #[.pointer (some ⟨g, 0, none⟩), .string n, .string v] w (SaysT g { t with site := siteO v.data.toList } w) := by
  have H0 := hid (fun w => lowerR_to n hn w ⟨#[115, 97, 109, 101, 115, 105, 116, 101]⟩ hL)
  have Hg := hid hg
  clear hg
  obtain ⟨D, hD⟩ : ∃ D : ByteArray, lower v.data.toList = D.data.toList := ⟨tx _, (tx_list _).symm⟩
  have H2 := hid (fun w => lowerR_to v hv w D hD)
  by_cases h1 : D.data.toList = [115, 116, 114, 105, 99, 116]
  · obtain rfl := str_is h1
    have hS := hid (show siteO v.data.toList = 1 by unfold siteO; rw [hD]; rfl)
    clear hD h1
    go_enter Tryz.func31, Tryz.ntmps31
    go_wp2_with fail
    refine (H0.out _).mono ?_
    rintro e w1 ⟨rfl, hb1⟩
    have Hg1 := hid (Hg.out.keep hb1)
    have Hr1 := hid (grown_below hb1 (some g))
    clear hb1
    have c10 : w1.cell? ⟨g, 10, none⟩ = some (.int .u8 (t.site : Nat)) := Hg1.out.cell rfl
    have f10 := Hg1.out.free 10
    go_wp2_with fail
    refine (H2.out _).mono ?_
    rintro e w2 ⟨rfl, hb2⟩
    have Hg2 := hid ((Hg1.out.put 10 (.int .u8 0)).keep hb2)
    have Hr2 := hid (grown_more (grown_set Hr1.out 10 (.int .u8 0)) hb2)
    have c10' : w2.cell? ⟨g, 10, none⟩ = some (.int .u8 0) := Hg2.out.cell rfl
    have f10' := Hg2.out.free 10
    clear hb2 c10 f10
    go_wp2
    go_end0
    exact ⟨rfl, (Hg2.out.put 10 _).eq (by show _ = rowC { t with site := siteO v.data.toList }; unfold rowC; rw [hS.out]; rfl), grown_set Hr2.out _ _⟩
  · by_cases h2 : D.data.toList = [108, 97, 120]
    · obtain rfl := str_is h2
      have hS := hid (show siteO v.data.toList = 2 by unfold siteO; rw [hD]; rfl)
      clear hD h1 h2
      go_enter Tryz.func31, Tryz.ntmps31
      go_wp2_with fail
      refine (H0.out _).mono ?_
      rintro e w1 ⟨rfl, hb1⟩
      have Hg1 := hid (Hg.out.keep hb1)
      have Hr1 := hid (grown_below hb1 (some g))
      clear hb1
      have c10 : w1.cell? ⟨g, 10, none⟩ = some (.int .u8 (t.site : Nat)) := Hg1.out.cell rfl
      have f10 := Hg1.out.free 10
      go_wp2_with fail
      refine (H2.out _).mono ?_
      rintro e w2 ⟨rfl, hb2⟩
      have Hg2 := hid ((Hg1.out.put 10 (.int .u8 0)).keep hb2)
      have Hr2 := hid (grown_more (grown_set Hr1.out 10 (.int .u8 0)) hb2)
      have c10' : w2.cell? ⟨g, 10, none⟩ = some (.int .u8 0) := Hg2.out.cell rfl
      have f10' := Hg2.out.free 10
      clear hb2 c10 f10
      go_wp2
      go_end0
      exact ⟨rfl, (Hg2.out.put 10 _).eq (by show _ = rowC { t with site := siteO v.data.toList }; unfold rowC; rw [hS.out]; rfl), grown_set Hr2.out _ _⟩
    · by_cases h3 : D.data.toList = [110, 111, 110, 101]
      · obtain rfl := str_is h3
        have hS := hid (show siteO v.data.toList = 3 by unfold siteO; rw [hD]; rfl)
        clear hD h1 h2 h3
        go_enter Tryz.func31, Tryz.ntmps31
        go_wp2_with fail
        refine (H0.out _).mono ?_
        rintro e w1 ⟨rfl, hb1⟩
        have Hg1 := hid (Hg.out.keep hb1)
        have Hr1 := hid (grown_below hb1 (some g))
        clear hb1
        have c10 : w1.cell? ⟨g, 10, none⟩ = some (.int .u8 (t.site : Nat)) := Hg1.out.cell rfl
        have f10 := Hg1.out.free 10
        go_wp2_with fail
        refine (H2.out _).mono ?_
        rintro e w2 ⟨rfl, hb2⟩
        have Hg2 := hid ((Hg1.out.put 10 (.int .u8 0)).keep hb2)
        have Hr2 := hid (grown_more (grown_set Hr1.out 10 (.int .u8 0)) hb2)
        have c10' : w2.cell? ⟨g, 10, none⟩ = some (.int .u8 0) := Hg2.out.cell rfl
        have f10' := Hg2.out.free 10
        clear hb2 c10 f10
        go_wp2
        go_end0
        exact ⟨rfl, (Hg2.out.put 10 _).eq (by show _ = rowC { t with site := siteO v.data.toList }; unfold rowC; rw [hS.out]; rfl), grown_set Hr2.out _ _⟩
      · have q1 := str_no h1
        have q2 := str_no h2
        have q3 := str_no h3
        have hS := hid (show siteO v.data.toList = 0 by unfold siteO; rw [hD]; rw [if_neg h1, if_neg h2, if_neg h3])
        clear hD h1 h2 h3
        go_enter Tryz.func31, Tryz.ntmps31
        go_wp2_with fail
        refine (H0.out _).mono ?_
        rintro e w1 ⟨rfl, hb1⟩
        have Hg1 := hid (Hg.out.keep hb1)
        have Hr1 := hid (grown_below hb1 (some g))
        clear hb1
        have c10 : w1.cell? ⟨g, 10, none⟩ = some (.int .u8 (t.site : Nat)) := Hg1.out.cell rfl
        have f10 := Hg1.out.free 10
        go_wp2_with fail
        refine (H2.out _).mono ?_
        rintro e w2 ⟨rfl, hb2⟩
        have Hg2 := hid ((Hg1.out.put 10 (.int .u8 0)).keep hb2)
        have Hr2 := hid (grown_more (grown_set Hr1.out 10 (.int .u8 0)) hb2)
        have c10' : w2.cell? ⟨g, 10, none⟩ = some (.int .u8 0) := Hg2.out.cell rfl
        have f10' := Hg2.out.free 10
        clear hb2 c10 f10
        go_wp2
        go_end0
        exact ⟨rfl, Hg2.out.eq (by show _ = rowC { t with site := siteO v.data.toList }; unfold rowC; rw [hS.out]; rfl), Hr2.out⟩
set_option maxHeartbeats 2000000 in
set_option maxRecDepth 100000 in
theorem saysR_none (g : Nat) (t : CkT) (n v : ByteArray) (hn : n.size ≤ 16777216) (w : World) (hg : Blk w g 24 (rowC t)) (D : ByteArray) (hL : lower n.data.toList = D.data.toList) (hn7 : D.data.toList ∉ [expL, ageL, domL, pathL, secL, hidL, siteL]) :
    Calls Tryz.prog 31 #[.pointer (some ⟨g, 0, none⟩), .string n, .string v] w (SaysT g t w) := by
  simp only [List.mem_cons, List.mem_nil_iff, or_false, not_or] at hn7
  obtain ⟨h1, h2, h3, h4, h5, h6, h7⟩ := hn7
  have q1 : (D.toList == [101, 120, 112, 105, 114, 101, 115]) = false := str_no h1
  have q2 : (D.toList == [109, 97, 120, 45, 97, 103, 101]) = false := str_no h2
  have q3 : (D.toList == [100, 111, 109, 97, 105, 110]) = false := str_no h3
  have q4 : (D.toList == [112, 97, 116, 104]) = false := str_no h4
  have q5 : (D.toList == [115, 101, 99, 117, 114, 101]) = false := str_no h5
  have q6 : (D.toList == [104, 116, 116, 112, 111, 110, 108, 121]) = false := str_no h6
  have q7 : (D.toList == [115, 97, 109, 101, 115, 105, 116, 101]) = false := str_no h7
  have H0 := hid (fun w => lowerR_to n hn w D hL)
  have Hg := hid hg
  clear hg h1 h2 h3 h4 h5 h6 h7
  go_enter Tryz.func31, Tryz.ntmps31
  go_wp2_with fail
  refine (H0.out _).mono ?_
  rintro e w1 ⟨rfl, hb1⟩
  have Hg1 := hid (Hg.out.keep hb1)
  have Hr1 := hid (grown_below hb1 (some g))
  clear hb1
  go_wp2
  go_end0
  exact ⟨rfl, Hg1.out, Hr1.out⟩
/-- Whatever the attribute. -/
theorem saysR_any (g : Nat) (t : CkT) (n v : ByteArray) (hn : n.size ≤ 16777216) (hv : v.size ≤ 16777216) (w : World) (hg : Blk w g 24 (rowC t)) : Calls Tryz.prog 31 #[.pointer (some ⟨g, 0, none⟩), .string n, .string v] w (SaysT g (attrC t (lower n.data.toList) v.data.toList) w) := by
  obtain ⟨D, hD⟩ : ∃ D : ByteArray, lower n.data.toList = D.data.toList := ⟨tx _, (tx_list _).symm⟩
  by_cases h7 : D.data.toList ∈ [expL, ageL, domL, pathL, secL, hidL, siteL]
  · simp only [List.mem_cons, List.mem_nil_iff, or_false] at h7
    rw [← hD] at h7
    rcases h7 with h | h | h | h | h | h | h
    · rw [h]; exact saysR_expires g t n v hn hv w hg h
    · rw [h]; exact saysR_age g t n v hn hv w hg h
    · rw [h]; exact saysR_domain g t n v hn hv w hg h
    · rw [h]; exact saysR_path g t n v hn w hg h
    · rw [h]; exact saysR_secure g t n v hn w hg h
    · rw [h]; exact saysR_hidden g t n v hn w hg h
    · rw [h]; exact saysR_site g t n v hn hv w hg h
  · rw [attrC_none (by rw [hD]; exact h7)]
    exact saysR_none g t n v hn w hg D hD h7
end Go.Proofs.YthfndlphhgchnaaGreatDoor
