/- Walks: sts' reader: next. -/
import Derived.Test.YtnmdcbneoipllaaDoorSt3
namespace Go.Proofs.YtnmdcbneoipllaaDoor
open Go.RowKit Go.Lib Go.Proofs.Foot

theorem must_t (b : Bool) (h : b = true) (w : World) : Calls Tryd.prog 27 #[.bool b] w fun e w' => e = .returned (.tuple #[]) ∧ w = w' := by rw [h]; exact must_yes w
theorem must_f (b : Bool) (h : b = false) (w : World) : Calls Tryd.prog 27 #[.bool b] w fun e w' => e = .panicked [pan] ∧ w = w' := by rw [h]; exact must_no w
theorem ctl_no {c : UInt8} (h : (32 ≤ c.toNat ∧ c.toNat ≠ 127) ∨ c.toNat = 9) : ctlB c = false := by
  unfold ctlB; rw [decide_eq_false_iff_not]; omega
theorem ctl_yes {c : UInt8} (h : ¬ ((32 ≤ c.toNat ∧ c.toNat ≠ 127) ∨ c.toNat = 9)) : ctlB c = true := by
  unfold ctlB; rw [decide_eq_true_iff]; omega

set_option maxRecDepth 100000 in
theorem next_nil (g : Nat) (s : ByteArray) (hl : s.data.toList = []) (w : World) (h : Rd w g s) :
    Calls Tryd.prog 56 #[.pointer (some ⟨g, 0, none⟩)] w fun e w' => e = .panicked [pan] ∧ w = w' := by
  obtain rfl : s = ⟨#[]⟩ := by
    apply bytes_ext; rw [hl]
  have c0 := h.cell
  clear h hl
  go_enter Tryd.func56, Tryd.ntmps56
  go_wp2_with fail
  refine (must_f _ rfl _).mono ?_
  rintro e w' ⟨rfl, rfl⟩
  exact ⟨rfl, rfl, rfl⟩
set_option maxRecDepth 100000 in
theorem next_bad (g : Nat) (s : ByteArray) (c : UInt8) (l : List UInt8) (hl : s.data.toList = c :: l) (hc : ctlB c = true) (w : World) (h : Rd w g s) :
    Calls Tryd.prog 56 #[.pointer (some ⟨g, 0, none⟩)] w fun e w' => e = .panicked [pan] ∧ w = w' := by
  have c0 := h.cell
  obtain ⟨hx, h0, hd⟩ := drop1 hl
  have hd0 := hd h0
  have hne : s.toList.isEmpty = false := by rw [Lib.toList_data, hl]; rfl
  have hne2 : ¬ s.toList = [] := by rw [Lib.toList_data, hl]; simp
  have h256 : (c.toNat : Int) < 256 := by have := c.toNat_lt; omega
  unfold ctlB at hc
  rw [decide_eq_true_iff] at hc
  clear h hl hx hd
  rcases hc with ⟨h1, h2⟩ | h2
  · have e1 : ¬ (32 ≤ (c.toNat : Int)) := by omega
    have e2 : ((c.toNat : Int) == 9) = false := by rw [beq_eq_false_iff_ne]; omega
    clear h1 h2
    go_enter Tryd.func56, Tryd.ntmps56
    go_wp2_with fail
    refine (must_t _ (by first | rfl | simp) _).mono ?_
    rintro e w' ⟨rfl, rfl⟩
    go_wp2_with fail
    refine (must_f _ (by first | rfl | simp | simp [*]) _).mono ?_
    rintro e w' ⟨rfl, rfl⟩
    exact ⟨rfl, rfl, rfl⟩
  · have e1 : 32 ≤ (c.toNat : Int) := by omega
    have e2 : ((c.toNat : Int) == 9) = false := by rw [beq_eq_false_iff_ne]; omega
    have e3 : ((c.toNat : Int) != 127) = false := by rw [bne_eq_false_iff_eq]; omega
    clear h2
    go_enter Tryd.func56, Tryd.ntmps56
    go_wp2_with fail
    refine (must_t _ (by first | rfl | simp) _).mono ?_
    rintro e w' ⟨rfl, rfl⟩
    go_wp2_with fail
    refine (must_f _ (by first | rfl | simp | simp [*]) _).mono ?_
    rintro e w' ⟨rfl, rfl⟩
    exact ⟨rfl, rfl, rfl⟩
set_option maxRecDepth 100000 in
theorem next_ok (g : Nat) (s : ByteArray) (c : UInt8) (l : List UInt8) (hl : s.data.toList = c :: l) (hc : ctlB c = false) (hs : s.size ≤ 16777216) (w : World) (h : Rd w g s) :
    Calls Tryd.prog 56 #[.pointer (some ⟨g, 0, none⟩)] w fun e w' => ∃ R : ByteArray, R.data.toList = l ∧ e = .returned (.int .u8 c.toNat) ∧ Rdd g w R w' := by
  have c0 := h.cell
  have f0 := h.free
  obtain ⟨hx, h0, hd⟩ := drop1 hl
  have hd0 := hd h0
  have hne : s.toList.isEmpty = false := by rw [Lib.toList_data, hl]; rfl
  have hne2 : ¬ s.toList = [] := by rw [Lib.toList_data, hl]; simp
  have h256 : (c.toNat : Int) < 256 := by have := c.toNat_lt; omega
  have Hx := hid hx
  have H := hid h
  unfold ctlB at hc
  rw [decide_eq_false_iff_not] at hc
  clear h hl hx hd
  by_cases h9 : c.toNat = 9
  · have e1 : ¬ (32 ≤ (c.toNat : Int)) := by omega
    have e2 : ((c.toNat : Int) == 9) = true := by rw [beq_iff_eq]; omega
    clear hc h9
    go_enter Tryd.func56, Tryd.ntmps56
    go_wp2_with fail
    refine (must_t _ (by first | rfl | simp) _).mono ?_
    rintro e w' ⟨rfl, rfl⟩
    go_wp2_with fail
    refine (must_t _ (by first | rfl | simp | simp [*]) _).mono ?_
    rintro e w' ⟨rfl, rfl⟩
    go_wp2
    go_ret
    exact ⟨_, Hx.out, rfl, (Rdd.refl H.out).set _⟩
  · have e1 : 32 ≤ (c.toNat : Int) := by omega
    have e3 : ((c.toNat : Int) != 127) = true := by rw [bne_iff_ne]; omega
    have e2 : ((c.toNat : Int) == 9) = false := by rw [beq_eq_false_iff_ne]; omega
    clear hc h9
    go_enter Tryd.func56, Tryd.ntmps56
    go_wp2_with fail
    refine (must_t _ (by first | rfl | simp) _).mono ?_
    rintro e w' ⟨rfl, rfl⟩
    go_wp2_with fail
    refine (must_t _ (by first | rfl | simp | simp [*]) _).mono ?_
    rintro e w' ⟨rfl, rfl⟩
    go_wp2
    go_ret
    exact ⟨_, Hx.out, rfl, (Rdd.refl H.out).set _⟩
end Go.Proofs.YtnmdcbneoipllaaDoor
