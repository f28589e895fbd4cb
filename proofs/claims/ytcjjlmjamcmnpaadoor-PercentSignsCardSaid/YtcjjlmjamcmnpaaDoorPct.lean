/- Walks: percent's of (its three closures) and Has; the reference's among and Has. -/
import Derived.Test.YtcjjlmjamcmnpaaDoorProg
import Derived.Test.YtcjjlmjamcmnpaaDoorBase
import Derived.Test.YtcjjlmjamcmnpaaDoorSpec03
namespace Go.Proofs.YtcjjlmjamcmnpaaDoor
open Go.RowKit Go.Lib Go.Proofs.Foot

theorem setRow_self {w : World} {g : Nat} {cs : Array Value} {t : TypeId} {fr : Nat × Nat} (h : w.heap[g]? = some (.cells cs t fr)) : w.setRow g cs = w := by
  have e : (w.setRow g cs).heap = w.heap := by
    apply Array.ext_getElem?
    intro i
    by_cases hi : i = g
    · subst hi; rw [setRow_heap w i cs cs t fr h, h]
    · exact setRow_other w g i cs hi
  have e2 : w.setRow g cs = { w with heap := (w.setRow g cs).heap } := rfl
  rw [e2, e]

theorem take_snoc3 {l : List UInt8} {k : Nat} (h : k < l.length) : l.take (k + 1) = l.take k ++ [l[k]] := by
  rw [List.take_add_one, List.getElem?_eq_getElem h]; rfl

set_option maxRecDepth 100000 in
theorem add_any (l : List UInt8) (s : ByteArray) (g : Nat) (w : World) (hs : s.size ≤ 1000) (h0 : w.heap[g]? = some (.cells (setCells l) 56 (0, 0))) :
    Calls Tryd.prog 27 #[.string s, .pointer (some ⟨g, 0, none⟩)] w fun e w' => e = .returned (.tuple #[]) ∧ w.setRow g (setCells (l ++ s.data.toList)) = w' := by
  have H0 := hid h0
  have hst := hid (setRow_self h0)
  clear h0
  go_enter Tryd.func27, Tryd.ntmps27
  go_wp2
  go_loopw [6, 3] (fun i _ wr => ∃ k : Nat, k ≤ s.size ∧ i = .int .i64 k ∧ Hid (wr = w.setRow g (setCells (l ++ s.data.toList.take k)))) (fun i _ _ => s.size - (intOf i).toNat)
  case atStart => exact ⟨0, Nat.zero_le _, rfl, by rw [List.take_zero, List.append_nil]; exact hst.out.symm⟩
  case round =>
    obtain ⟨k, hk, rfl, hw⟩ := hrel
    have hrow := setRow_heap w g _ (setCells (l ++ s.data.toList.take k)) _ _ H0.out
    rw [← hw.out] at hrow
    by_cases hlt : k < s.size
    · have hl : k < s.data.toList.length := by simpa using hlt
      have hx' : s.data.toList[k] = s[k] := rfl
      have hx256 : (s[k].toNat : Int) < 256 := by have := UInt8.toNat_lt s[k]; omega
      have hc : wr.cell? ⟨g, s[k].toNat, none⟩ = some (.bool ((l ++ s.data.toList.take k).contains s[k])) := by
        rw [cell_of_row _ _ _ _ _ _ hrow]; exact setCells_at _ _
      have hf := frozen_of_row wr g s[k].toNat _ _ hrow
      have R : wr.setCell ⟨g, s[k].toNat, none⟩ (.bool true) = w.setRow g (setCells (l ++ s.data.toList.take (k + 1))) := by
        rw [setCell_eq_setRow wr g s[k].toNat _ _ _ _ hrow, ← setCells_snoc, List.append_assoc, ← hx', ← take_snoc3 hl, hw.out, setRow_setRow]
      have HR := hid R
      clear R hrow hw hx'
      go_wp2
      go_roundw
      case rel => exact ⟨k + 1, by omega, by go_num, HR⟩
      case measure => simp [intOf]; omega
    · have HW : Hid (w.setRow g (setCells (l ++ s.data.toList)) = wr) := by
        rw [hw.out, List.take_of_length_le (by simp; omega)]; rfl
      clear hw hrow
      go_wp2
      go_end0
      exact ⟨rfl, HW.out⟩

theorem of2_any (c : UInt8) (w : World) : Calls Tryd.prog 28 #[.int .u8 c.toNat] w fun e w' => e = .returned (.bool false) ∧ w = w' := by
  go_enter Tryd.func28, Tryd.ntmps28
  go_wp2
  go_ret
  exact ⟨rfl, rfl⟩

theorem ctl_true {c : UInt8} (h : c.toNat < 32 ∨ 126 < c.toNat) : ctl c = true := by unfold ctl; simp only [Bool.or_eq_true, decide_eq_true_eq]; exact h
theorem ctl_false {c : UInt8} (h : ¬ (c.toNat < 32 ∨ 126 < c.toNat)) : ctl c = false := by
  unfold ctl; simp only [Bool.or_eq_false_iff, decide_eq_false_iff_not]; omega

set_option maxRecDepth 100000 in
theorem of3_any (c : UInt8) (g : Nat) (b : Bool) (w : World) (hc : w.cell? ⟨g, c.toNat, none⟩ = some (.bool b)) :
    Calls Tryd.prog 29 #[.int .u8 c.toNat, .pointer (some ⟨g, 0, none⟩)] w fun e w' => e = .returned (.bool (ctl c || b)) ∧ w = w' := by
  have hx256 : (c.toNat : Int) < 256 := by have := UInt8.toNat_lt c; omega
  by_cases h : c.toNat < 32 ∨ 126 < c.toNat
  · have H := hid (ctl_true h)
    by_cases h1 : c.toNat < 32
    · go_enter Tryd.func29, Tryd.ntmps29
      go_wp2
      go_ret
      exact ⟨ret_bool (by rw [H.out, Bool.true_or]), rfl⟩
    · have h2 : 126 < c.toNat := by omega
      go_enter Tryd.func29, Tryd.ntmps29
      go_wp2
      go_ret
      exact ⟨ret_bool (by rw [H.out, Bool.true_or]), rfl⟩
  · have H := hid (ctl_false h)
    have h1 : ¬ c.toNat < 32 := by omega
    have h2 : ¬ 126 < c.toNat := by omega
    go_enter Tryd.func29, Tryd.ntmps29
    go_wp2
    go_ret
    exact ⟨ret_bool (by rw [H.out, decide_eq_false (show ¬ ((c.toNat : Int) < 32) by omega), decide_eq_false (show ¬ ((126 : Int) < (c.toNat : Int)) by omega)]; rfl), rfl⟩
end Go.Proofs.YtcjjlmjamcmnpaaDoor
