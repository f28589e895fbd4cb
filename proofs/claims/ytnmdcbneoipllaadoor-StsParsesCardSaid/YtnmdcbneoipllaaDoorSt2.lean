/- Walks: sts' reader. -/
import Derived.Test.YtnmdcbneoipllaaDoorSt1
import Derived.Test.YtnmdcbneoipllaaDoorOwn
import Derived.Test.YtnmdcbneoipllaaDoorSpec11
import Derived.Shelf.Strings.SlTrimAscii
import Derived.StillTailTactics
namespace Go.Proofs.YtnmdcbneoipllaaDoor
open Go.RowKit Go.Lib Go.Proofs.Foot

/-- What sts panics. -/
def pan : PanicEntry := { v := .iface 24 (.int .i64 4), recovered := false }
theorem must_yes (w : World) : Calls Tryd.prog 27 #[.bool true] w fun e w' => e = .returned (.tuple #[]) ∧ w = w' := by
  go_enter Tryd.func27, Tryd.ntmps27
  go_wp2
  go_end0
  exact ⟨rfl, rfl⟩
theorem must_no (w : World) : Calls Tryd.prog 27 #[.bool false] w fun e w' => e = .panicked [pan] ∧ w = w' := by
  go_enter Tryd.func27, Tryd.ntmps27
  go_wp2
  exact ⟨rfl, rfl, rfl⟩

/-- Block g is a reader, s what it has still to read. -/
def Rd (w : World) (g : Nat) (s : ByteArray) : Prop := w.heap[g]? = some (.cells #[.string s] 47 (0, 0))
theorem Rd.cell {w : World} {g : Nat} {s : ByteArray} (h : Rd w g s) : w.cell? ⟨g, 0, none⟩ = some (.string s) := by
  rw [cell_of_row _ _ _ _ _ _ h]; rfl
theorem Rd.free {w : World} {g : Nat} {s : ByteArray} (h : Rd w g s) : w.frozen? ⟨g, 0, none⟩ = false := frozen_of_heap h 0
theorem Rd.lt {w : World} {g : Nat} {s : ByteArray} (h : Rd w g s) : g < w.heap.size := (Array.getElem?_eq_some_iff.1 h).1
theorem Rd.below {w w' : World} {B g : Nat} {s : ByteArray} (h : Rd w g s) (hb : Below B w w') (hg : g < B) : Rd w' g s := (hb.block g hg).trans h
theorem Rd.set {w : World} {g : Nat} {s : ByteArray} (h : Rd w g s) (t : ByteArray) : Rd (w.setCell ⟨g, 0, none⟩ (.string t)) g t := by
  have := heap_setCell_same w g 0 _ _ (.string t) h
  unfold Rd
  rw [this]; rfl
/-- What a reader's method leaves: block g reads t now; of the other blocks that were there none has turned. -/
def Rdd (g : Nat) (w : World) (t : ByteArray) (w' : World) : Prop := Rd w' g t ∧ Touch (· = g) w w'
theorem Rdd.refl {w : World} {g : Nat} {s : ByteArray} (h : Rd w g s) : Rdd g w s w := ⟨h, Touch.refl _ _⟩
theorem Rdd.trans {w w1 w2 : World} {g : Nat} {s t : ByteArray} (h : Rdd g w s w1) (h' : Rdd g w1 t w2) : Rdd g w t w2 := ⟨h'.1, h.2.trans h'.2 (fun _ _ h => h)⟩
theorem Rdd.set {w w1 : World} {g : Nat} {s : ByteArray} (h : Rdd g w s w1) (t : ByteArray) : Rdd g w t (w1.setCell ⟨g, 0, none⟩ (.string t)) := ⟨h.1.set t, h.2.setCell (.inl rfl) _⟩
theorem Rdd.below {w w1 w2 : World} {g : Nat} {s : ByteArray} (h : Rdd g w s w1) (hb : Below w1.heap.size w1 w2) : Rdd g w s w2 := ⟨h.1.below hb h.1.lt, h.2.trans (Touch.of_below hb) (fun _ _ h => h)⟩

theorem ascii_blanks : ∀ (j : Nat) b, (⟨#[32, 9]⟩ : ByteArray).data.toList[j]? = some b → b.toNat < 128 := by
  intro j b h
  match j with
  | 0 => simp at h; subst h; decide
  | 1 => simp at h; subst h; decide
  | j + 2 => simp at h
theorem trimLB (s : ByteArray) (w : World) (T : ByteArray) (hT : trimL s.data.toList = T.data.toList) :
    Calls Tryd.prog 38 #[.string s, .string ⟨#[32, 9]⟩] w fun e w' => e = .returned (.string T) ∧ Below w.heap.size w w' := by
  have h := Any.strings_TrimLeft_laid Tryd.lays161 (by kernel_rfl) s ⟨#[32, 9]⟩ w (by decide) ascii_blanks
  have e : Lib.trimLeftS s.data.toList (⟨#[32, 9]⟩ : ByteArray).data.toList = T.data.toList := by rw [← hT]; rfl
  rw [e] at h
  exact h
theorem blanks_any (g : Nat) (s T : ByteArray) (hT : trimL s.data.toList = T.data.toList) (w : World) (h : Rd w g s) :
    Calls Tryd.prog 24 #[.pointer (some ⟨g, 0, none⟩)] w fun e w' => e = .returned (.tuple #[]) ∧ Rdd g w T w' := by
  have HT := hid (fun w => trimLB s w T hT)
  have c0 := h.cell
  have H := hid h
  clear hT h
  go_enter Tryd.func24, Tryd.ntmps24
  go_wp2_with fail
  refine (HT.out _).mono ?_
  rintro e w1 ⟨rfl, hb1⟩
  have H1 : Hid (Rdd g w s w1) := hid ((Rdd.refl H.out).below hb1)
  have c1 := H1.out.1.cell
  have f1 := H1.out.1.free
  clear hb1
  go_wp2
  go_end0
  exact ⟨rfl, H1.out.set T⟩
theorem drop1 {T : ByteArray} {d : UInt8} {r : List UInt8} (h : T.data.toList = d :: r) : (T.extract 1 T.size).data.toList = r ∧ 0 < T.size ∧ ∀ h0, T[0]'h0 = d := by
  have hz : T.size = r.length + 1 := by rw [Lib.size_eq, h]; rfl
  refine ⟨?_, by omega, fun h0 => ?_⟩
  · rw [extract_eq, h, hz]; simp
  · have : T.data.toList[0]'(by rw [h]; simp) = d := by simp [h]
    exact this
set_option maxRecDepth 100000 in
theorem at_any (g : Nat) (c : UInt8) (s : ByteArray) (hs : s.size ≤ 16777216) (w : World) (h : Rd w g s) :
    Calls Tryd.prog 25 #[.pointer (some ⟨g, 0, none⟩), .int .u8 c.toNat] w fun e w' => ∃ T : ByteArray, T.data.toList = (match atS c s.data.toList with | some r => r | none => trimL s.data.toList) ∧ e = .returned (.bool (atS c s.data.toList).isSome) ∧ Rdd g w T w' := by
  obtain ⟨T, hT⟩ : ∃ T : ByteArray, trimL s.data.toList = T.data.toList := ⟨⟨(trimL s.data.toList).toArray⟩, by simp⟩
  have HB := hid (fun w h => blanks_any g s T hT w h)
  have hTs : T.size ≤ 16777216 := by
    have := trimL_len s.data.toList
    rw [hT, ← Lib.size_eq, ← Lib.size_eq] at this; omega
  have H := hid h
  clear h
  cases hl : T.data.toList with
  | nil =>
    have e : atS c s.data.toList = none := by unfold atS; rw [hT, hl]
    have z : T.size = 0 := by rw [Lib.size_eq, hl]; rfl
    obtain rfl : T = ⟨#[]⟩ := by
      apply bytes_ext; rw [hl]
    rw [e, hT]
    clear hT hs hl z
    go_enter Tryd.func25, Tryd.ntmps25
    go_wp2_with fail
    refine (HB.out _ H.out).mono ?_
    rintro e w1 ⟨rfl, hr1⟩
    have c1 := hr1.1.cell
    have R1 := hid hr1
    clear hr1
    go_wp2
    go_ret
    exact ⟨_, rfl, rfl, R1.out⟩
  | cons d r =>
    obtain ⟨hx, h0, hd⟩ := drop1 hl
    have hne : T.toList.isEmpty = false := by rw [Lib.toList_data, hl]; rfl
    have hne2 : ¬ T.toList = [] := by rw [Lib.toList_data, hl]; simp
    by_cases hc : d = c
    · subst hc
      have e : atS d s.data.toList = some r := by unfold atS; rw [hT, hl]; exact if_pos rfl
      rw [e]
      have hd0 := hd h0
      have Hx := hid hx
      clear hT hs hl hd e
      go_enter Tryd.func25, Tryd.ntmps25
      go_wp2_with fail
      refine (HB.out _ H.out).mono ?_
      rintro e w1 ⟨rfl, hr1⟩
      have c1 := hr1.1.cell
      have f1 := hr1.1.free
      have R1 := hid hr1
      clear hr1
      go_wp2
      go_ret
      exact ⟨_, Hx.out, rfl, R1.out.set _⟩
    · have e : atS c s.data.toList = none := by unfold atS; rw [hT, hl]; exact if_neg hc
      have hne3 : ((d.toNat : Int) != c.toNat) = true := by
        rw [bne_iff_ne]; intro h; exact hc (UInt8.toNat_inj.1 (by omega))
      rw [e, hT]
      have hd0 := hd h0
      clear hT hs hl hd e hc hx
      go_enter Tryd.func25, Tryd.ntmps25
      go_wp2_with fail
      refine (HB.out _ H.out).mono ?_
      rintro e w1 ⟨rfl, hr1⟩
      have c1 := hr1.1.cell
      have R1 := hid hr1
      clear hr1
      go_wp2
      go_ret
      exact ⟨_, rfl, rfl, R1.out⟩
end Go.Proofs.YtnmdcbneoipllaaDoor
