/- Walks: a Book's methods on the kinds of lists of which it has none; and its marks. -/
import Derived.Test.YtalinfpakmcobaaDoorBk0
import Derived.Test.YtalinfpakmcobaaDoorShelf
import Derived.Lib.ItoaNum
import Derived.Lib.ItoaLen
import Derived.Lib.LaidTab
import Derived.Lib.AppendIntMem
namespace Go.Proofs.YtalinfpakmcobaaDoor
open Go.RowKit Go.Lib Go.Proofs.Foot

/-- The table that strconv.Itoa reads. -/
abbrev Tb (w : World) : Prop := Lib.TabIs Tryd.prog w "internal/strconv.uint64pow10" .u64 Lib.pow10Tab
theorem Tb.below {w w' : World} (h : Tb w) (hb : Below w.heap.size w w') : Tb w' := Lib.tabBelow_of_tabIs h w' hb
theorem itoa_dig (m : Nat) (hm : m < 10) (w : World) (T : Tb w) :
    Calls Tryd.prog 104 #[.int .i64 m] w fun e w' => e = .returned (.string ⟨#[UInt8.ofNat (48 + m)]⟩) ∧ Below w.heap.size w w' := by
  refine (Tryd.strconv_Itoa (m : Int) (by omega) (by omega) w T).mono ?_
  rintro e w' ⟨he, k, os, rfl⟩
  refine ⟨by rw [he, Lib.itoa_nonneg, Lib.decDigits_one hm], Lib.below_grow _ _ (Nat.le_refl _) k os⟩
theorem word_any (m : Nat) (hm : m < 10) (w : World) (T : Tb w) :
    Calls Tryd.prog 92 #[.int .i64 m] w fun e w' => e = .returned (.string (mkT m)) ∧ Below w.heap.size w w' := by
  obtain ⟨D, hD⟩ : ∃ D : ByteArray, D = ⟨#[UInt8.ofNat (48 + m)]⟩ := ⟨_, rfl⟩
  have HI := hid (itoa_dig m hm w T)
  rw [← hD] at HI
  have hz : (D.size : Int) ≤ 8388608 := by rw [hD]; show (1 : Int) ≤ _; decide
  have hc : (⟨#[35]⟩ : ByteArray) ++ D = mkT m := by
    rw [hD]
    have e : ∀ a b : ByteArray, a.data.toList = b.data.toList → a = b := fun a b h => by cases a; cases b; simp at h; rw [h]
    refine e _ _ ?_
    simp [ByteArray.data_append, mkT]
  have ha : ∀ V, (Op.stringOp .add ⟨#[35]⟩ D).run Tryd.prog V = .ok (.string (mkT m)) V := fun V => by rw [← hc]; exact run_string_add V _ _ (by show (1 : Int) ≤ _; decide) hz
  have HC := hid hc
  clear hD T hm hc
  go_enter Tryd.func92, Tryd.ntmps92
  go_wp2_with fail
  refine HI.out.mono ?_
  rintro e w1 ⟨rfl, hb1⟩
  have B1 := hid hb1
  clear hb1
  go_wp2
  go_ret
  first
    | exact ⟨rfl, B1.out⟩
    | (rw [HC.out]; exact ⟨rfl, B1.out⟩)
theorem markText_any (m : Nat) (hm : m < 10) (w : World) (T : Tb w) :
    Calls Tryd.prog 69 #[.int .i64 m] w fun e w' => e = .returned (.string (mkT m)) ∧ Below w.heap.size w w' := by
  have HI := hid (word_any m hm w T)
  clear T hm
  go_enter Tryd.func69, Tryd.ntmps69
  go_wp2_with fail
  refine HI.out.mono ?_
  rintro e w1 ⟨rfl, hb1⟩
  have B1 := hid hb1
  clear hb1
  go_wp2
  go_ret
  exact ⟨rfl, B1.out⟩
theorem isText_any (m : Nat) (hm : m < 10) (w : World) (T : Tb w) :
    Calls Tryd.prog 77 #[.string (mkT m), .int .i64 m] w fun e w' => e = .returned (.bool true) ∧ Below w.heap.size w w' := by
  have HI := hid (word_any m hm w T)
  clear T hm
  obtain ⟨M, hM⟩ : ∃ M, M = mkT m := ⟨_, rfl⟩
  rw [← hM] at HI ⊢
  clear hM
  go_enter Tryd.func77, Tryd.ntmps77
  go_wp2_with fail
  refine HI.out.mono ?_
  rintro e w1 ⟨rfl, hb1⟩
  have B1 := hid hb1
  clear hb1
  go_wp2
  go_ret
  exact ⟨rfl, B1.out⟩
theorem fillByte_any (w : World) (g m : Nat) (tv : Value) (h : Bk w g m tv) :
    Calls Tryd.prog 30 #[.pointer (some ⟨g, 0, none⟩)] w fun e w' => e = .returned (.tuple #[]) ∧ Below w.heap.size w w' := by
  have c := h.cell (k := 1) (v := .slice none 0 0) rfl
  clear h
  go_enter Tryd.func30, Tryd.ntmps30
  go_wp2
  go_loop [2] (fun i => i = .int .i64 0) (fun _ => 0)
  case atStart => rfl
  case round =>
    subst hrel
    go_wp2
    go_end0
    exact ⟨rfl, Below.refl _ _⟩
theorem growByte_any (w : World) (g m : Nat) (tv : Value) (h : Bk w g m tv) :
    Calls Tryd.prog 38 #[.pointer (some ⟨g, 0, none⟩)] w fun e w' => e = .returned (.tuple #[]) ∧ Below w.heap.size w w' := by
  have c := h.cell (k := 1) (v := .slice none 0 0) rfl
  clear h
  go_enter Tryd.func38, Tryd.ntmps38
  go_wp2
  go_loop [2] (fun i => i = .int .i64 0) (fun _ => 0)
  case atStart => rfl
  case round =>
    subst hrel
    go_wp2
    go_end0
    exact ⟨rfl, Below.refl _ _⟩
theorem lookByte_any (w : World) (g m : Nat) (tv : Value) (h : Bk w g m tv) :
    Calls Tryd.prog 46 #[.pointer (some ⟨g, 0, none⟩)] w fun e w' => e = .returned (.bool true) ∧ Below w.heap.size w w' := by
  have c := h.cell (k := 1) (v := .slice none 0 0) rfl
  clear h
  go_enter Tryd.func46, Tryd.ntmps46
  go_wp2
  go_loop [3] (fun i => i = .int .i64 0) (fun _ => 0)
  case atStart => rfl
  case round =>
    subst hrel
    go_wp2
    go_ret
    exact ⟨rfl, Below.refl _ _⟩
theorem fillInt_any (w : World) (g m : Nat) (tv : Value) (h : Bk w g m tv) :
    Calls Tryd.prog 31 #[.pointer (some ⟨g, 0, none⟩)] w fun e w' => e = .returned (.tuple #[]) ∧ Below w.heap.size w w' := by
  have c := h.cell (k := 2) (v := .slice none 0 0) rfl
  clear h
  go_enter Tryd.func31, Tryd.ntmps31
  go_wp2
  go_loop [2] (fun i => i = .int .i64 0) (fun _ => 0)
  case atStart => rfl
  case round =>
    subst hrel
    go_wp2
    go_end0
    exact ⟨rfl, Below.refl _ _⟩
theorem growInt_any (w : World) (g m : Nat) (tv : Value) (h : Bk w g m tv) :
    Calls Tryd.prog 39 #[.pointer (some ⟨g, 0, none⟩)] w fun e w' => e = .returned (.tuple #[]) ∧ Below w.heap.size w w' := by
  have c := h.cell (k := 2) (v := .slice none 0 0) rfl
  clear h
  go_enter Tryd.func39, Tryd.ntmps39
  go_wp2
  go_loop [2] (fun i => i = .int .i64 0) (fun _ => 0)
  case atStart => rfl
  case round =>
    subst hrel
    go_wp2
    go_end0
    exact ⟨rfl, Below.refl _ _⟩
theorem lookInt_any (w : World) (g m : Nat) (tv : Value) (h : Bk w g m tv) :
    Calls Tryd.prog 47 #[.pointer (some ⟨g, 0, none⟩)] w fun e w' => e = .returned (.bool true) ∧ Below w.heap.size w w' := by
  have c := h.cell (k := 2) (v := .slice none 0 0) rfl
  clear h
  go_enter Tryd.func47, Tryd.ntmps47
  go_wp2
  go_loop [3] (fun i => i = .int .i64 0) (fun _ => 0)
  case atStart => rfl
  case round =>
    subst hrel
    go_wp2
    go_ret
    exact ⟨rfl, Below.refl _ _⟩
theorem fillField_any (w : World) (g m : Nat) (tv : Value) (h : Bk w g m tv) :
    Calls Tryd.prog 33 #[.pointer (some ⟨g, 0, none⟩)] w fun e w' => e = .returned (.tuple #[]) ∧ Below w.heap.size w w' := by
  have c := h.cell (k := 4) (v := .slice none 0 0) rfl
  clear h
  go_enter Tryd.func33, Tryd.ntmps33
  go_wp2
  go_loop [2] (fun i => i = .int .i64 0) (fun _ => 0)
  case atStart => rfl
  case round =>
    subst hrel
    go_wp2
    go_end0
    exact ⟨rfl, Below.refl _ _⟩
theorem growField_any (w : World) (g m : Nat) (tv : Value) (h : Bk w g m tv) :
    Calls Tryd.prog 41 #[.pointer (some ⟨g, 0, none⟩)] w fun e w' => e = .returned (.tuple #[]) ∧ Below w.heap.size w w' := by
  have c := h.cell (k := 4) (v := .slice none 0 0) rfl
  clear h
  go_enter Tryd.func41, Tryd.ntmps41
  go_wp2
  go_loop [2] (fun i => i = .int .i64 0) (fun _ => 0)
  case atStart => rfl
  case round =>
    subst hrel
    go_wp2
    go_end0
    exact ⟨rfl, Below.refl _ _⟩
theorem lookField_any (w : World) (g m : Nat) (tv : Value) (h : Bk w g m tv) :
    Calls Tryd.prog 49 #[.pointer (some ⟨g, 0, none⟩)] w fun e w' => e = .returned (.bool true) ∧ Below w.heap.size w w' := by
  have c := h.cell (k := 4) (v := .slice none 0 0) rfl
  clear h
  go_enter Tryd.func49, Tryd.ntmps49
  go_wp2
  go_loop [3] (fun i => i = .int .i64 0) (fun _ => 0)
  case atStart => rfl
  case round =>
    subst hrel
    go_wp2
    go_ret
    exact ⟨rfl, Below.refl _ _⟩
theorem fillCookie_any (w : World) (g m : Nat) (tv : Value) (h : Bk w g m tv) :
    Calls Tryd.prog 34 #[.pointer (some ⟨g, 0, none⟩)] w fun e w' => e = .returned (.tuple #[]) ∧ Below w.heap.size w w' := by
  have c := h.cell (k := 5) (v := .slice none 0 0) rfl
  clear h
  go_enter Tryd.func34, Tryd.ntmps34
  go_wp2
  go_loop [2] (fun i => i = .int .i64 0) (fun _ => 0)
  case atStart => rfl
  case round =>
    subst hrel
    go_wp2
    go_end0
    exact ⟨rfl, Below.refl _ _⟩
theorem growCookie_any (w : World) (g m : Nat) (tv : Value) (h : Bk w g m tv) :
    Calls Tryd.prog 42 #[.pointer (some ⟨g, 0, none⟩)] w fun e w' => e = .returned (.tuple #[]) ∧ Below w.heap.size w w' := by
  have c := h.cell (k := 5) (v := .slice none 0 0) rfl
  clear h
  go_enter Tryd.func42, Tryd.ntmps42
  go_wp2
  go_loop [2] (fun i => i = .int .i64 0) (fun _ => 0)
  case atStart => rfl
  case round =>
    subst hrel
    go_wp2
    go_end0
    exact ⟨rfl, Below.refl _ _⟩
theorem lookCookie_any (w : World) (g m : Nat) (tv : Value) (h : Bk w g m tv) :
    Calls Tryd.prog 50 #[.pointer (some ⟨g, 0, none⟩)] w fun e w' => e = .returned (.bool true) ∧ Below w.heap.size w w' := by
  have c := h.cell (k := 5) (v := .slice none 0 0) rfl
  clear h
  go_enter Tryd.func50, Tryd.ntmps50
  go_wp2
  go_loop [3] (fun i => i = .int .i64 0) (fun _ => 0)
  case atStart => rfl
  case round =>
    subst hrel
    go_wp2
    go_ret
    exact ⟨rfl, Below.refl _ _⟩
theorem fillSealed_any (w : World) (g m : Nat) (tv : Value) (h : Bk w g m tv) :
    Calls Tryd.prog 35 #[.pointer (some ⟨g, 0, none⟩)] w fun e w' => e = .returned (.tuple #[]) ∧ Below w.heap.size w w' := by
  have c := h.cell (k := 6) (v := .slice none 0 0) rfl
  clear h
  go_enter Tryd.func35, Tryd.ntmps35
  go_wp2
  go_loop [2] (fun i => i = .int .i64 0) (fun _ => 0)
  case atStart => rfl
  case round =>
    subst hrel
    go_wp2
    go_end0
    exact ⟨rfl, Below.refl _ _⟩
theorem growSealed_any (w : World) (g m : Nat) (tv : Value) (h : Bk w g m tv) :
    Calls Tryd.prog 43 #[.pointer (some ⟨g, 0, none⟩)] w fun e w' => e = .returned (.tuple #[]) ∧ Below w.heap.size w w' := by
  have c := h.cell (k := 6) (v := .slice none 0 0) rfl
  clear h
  go_enter Tryd.func43, Tryd.ntmps43
  go_wp2
  go_loop [2] (fun i => i = .int .i64 0) (fun _ => 0)
  case atStart => rfl
  case round =>
    subst hrel
    go_wp2
    go_end0
    exact ⟨rfl, Below.refl _ _⟩
theorem lookSealed_any (w : World) (g m : Nat) (tv : Value) (h : Bk w g m tv) :
    Calls Tryd.prog 51 #[.pointer (some ⟨g, 0, none⟩)] w fun e w' => e = .returned (.bool true) ∧ Below w.heap.size w w' := by
  have c := h.cell (k := 6) (v := .slice none 0 0) rfl
  clear h
  go_enter Tryd.func51, Tryd.ntmps51
  go_wp2
  go_loop [3] (fun i => i = .int .i64 0) (fun _ => 0)
  case atStart => rfl
  case round =>
    subst hrel
    go_wp2
    go_ret
    exact ⟨rfl, Below.refl _ _⟩
theorem fillChange_any (w : World) (g m : Nat) (tv : Value) (h : Bk w g m tv) :
    Calls Tryd.prog 36 #[.pointer (some ⟨g, 0, none⟩)] w fun e w' => e = .returned (.tuple #[]) ∧ Below w.heap.size w w' := by
  have c := h.cell (k := 7) (v := .slice none 0 0) rfl
  clear h
  go_enter Tryd.func36, Tryd.ntmps36
  go_wp2
  go_loop [2] (fun i => i = .int .i64 0) (fun _ => 0)
  case atStart => rfl
  case round =>
    subst hrel
    go_wp2
    go_end0
    exact ⟨rfl, Below.refl _ _⟩
theorem growChange_any (w : World) (g m : Nat) (tv : Value) (h : Bk w g m tv) :
    Calls Tryd.prog 44 #[.pointer (some ⟨g, 0, none⟩)] w fun e w' => e = .returned (.tuple #[]) ∧ Below w.heap.size w w' := by
  have c := h.cell (k := 7) (v := .slice none 0 0) rfl
  clear h
  go_enter Tryd.func44, Tryd.ntmps44
  go_wp2
  go_loop [2] (fun i => i = .int .i64 0) (fun _ => 0)
  case atStart => rfl
  case round =>
    subst hrel
    go_wp2
    go_end0
    exact ⟨rfl, Below.refl _ _⟩
theorem lookChange_any (w : World) (g m : Nat) (tv : Value) (h : Bk w g m tv) :
    Calls Tryd.prog 52 #[.pointer (some ⟨g, 0, none⟩)] w fun e w' => e = .returned (.bool true) ∧ Below w.heap.size w w' := by
  have c := h.cell (k := 7) (v := .slice none 0 0) rfl
  clear h
  go_enter Tryd.func52, Tryd.ntmps52
  go_wp2
  go_loop [3] (fun i => i = .int .i64 0) (fun _ => 0)
  case atStart => rfl
  case round =>
    subst hrel
    go_wp2
    go_ret
    exact ⟨rfl, Below.refl _ _⟩
theorem fillMessage_any (w : World) (g m : Nat) (tv : Value) (h : Bk w g m tv) :
    Calls Tryd.prog 37 #[.pointer (some ⟨g, 0, none⟩)] w fun e w' => e = .returned (.tuple #[]) ∧ Below w.heap.size w w' := by
  have c := h.cell (k := 8) (v := .slice none 0 0) rfl
  clear h
  go_enter Tryd.func37, Tryd.ntmps37
  go_wp2
  go_loop [2] (fun i => i = .int .i64 0) (fun _ => 0)
  case atStart => rfl
  case round =>
    subst hrel
    go_wp2
    go_end0
    exact ⟨rfl, Below.refl _ _⟩
theorem growMessage_any (w : World) (g m : Nat) (tv : Value) (h : Bk w g m tv) :
    Calls Tryd.prog 45 #[.pointer (some ⟨g, 0, none⟩)] w fun e w' => e = .returned (.tuple #[]) ∧ Below w.heap.size w w' := by
  have c := h.cell (k := 8) (v := .slice none 0 0) rfl
  clear h
  go_enter Tryd.func45, Tryd.ntmps45
  go_wp2
  go_loop [2] (fun i => i = .int .i64 0) (fun _ => 0)
  case atStart => rfl
  case round =>
    subst hrel
    go_wp2
    go_end0
    exact ⟨rfl, Below.refl _ _⟩
theorem lookMessage_any (w : World) (g m : Nat) (tv : Value) (h : Bk w g m tv) :
    Calls Tryd.prog 53 #[.pointer (some ⟨g, 0, none⟩)] w fun e w' => e = .returned (.bool true) ∧ Below w.heap.size w w' := by
  have c := h.cell (k := 8) (v := .slice none 0 0) rfl
  clear h
  go_enter Tryd.func53, Tryd.ntmps53
  go_wp2
  go_loop [3] (fun i => i = .int .i64 0) (fun _ => 0)
  case atStart => rfl
  case round =>
    subst hrel
    go_wp2
    go_ret
    exact ⟨rfl, Below.refl _ _⟩
end Go.Proofs.YtalinfpakmcobaaDoor
