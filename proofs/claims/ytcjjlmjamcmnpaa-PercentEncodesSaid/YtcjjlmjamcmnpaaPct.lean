/- Walks: percent's of (its three closures) and Has; the reference's among and Has. -/
import Derived.Test.YtcjjlmjamcmnpaaProg
import Derived.Test.YtcjjlmjamcmnpaaBase
import Derived.Test.YtcjjlmjamcmnpaaSpec03
namespace Go.Proofs.Ytcjjlmjamcmnpaa
open Go.RowKit Go.Lib Go.Proofs.Foot

theorem setRow_self {w : World} {g : Nat} {cs : Array Value} {t : TypeId} {fr : Nat × Nat} (h : w.heap[g]? = some (.cells cs t fr)) : w.setRow g cs = w := by
  have e : (w.setRow g cs).heap = w.heap := by
    apply Array.ext_getElem?
    intro i
    by_cases hi : i = g
    · subst hi; rw [setRow_heap w i cs cs t fr h, h]
    · exact setRow_other w g i cs hi
  have e2 : w.setRow g cs = { w with heap := (w.setRow g cs).heap } := rfl
  rw [e2, e]

theorem take_snoc3 {l : List UInt8} {k : Nat} (h : k < l.length) : l.take (k + 1) = l.take k ++ [l[k]] := by
  rw [List.take_add_one, List.getElem?_eq_getElem h]; rfl

set_option maxRecDepth 100000 in
theorem add_any (l : List UInt8) (s : ByteArray) (g : Nat) (w : World) (hs : s.size ≤ 1000) (h0 : w.heap[g]? = some (.cells (setCells l) 42 (0, 0))) :
    Calls Try.prog 15 #[.string s, .pointer (some ⟨g, 0, none⟩)] w fun e w' => e = .returned (.tuple #[]) ∧ w.setRow g (setCells (l ++ s.data.toList)) = w' := by
  have H0 := hid h0
  have hst := hid (setRow_self h0)
  clear h0
  go_enter Try.func15, Try.ntmps15
  go_wp2
  go_loopw [6, 3] (fun i _ wr => ∃ k : Nat, k ≤ s.size ∧ i = .int .i64 k ∧ Hid (wr = w.setRow g (setCells (l ++ s.data.toList.take k)))) (fun i _ _ => s.size - (intOf i).toNat)
  case atStart => exact ⟨0, Nat.zero_le _, rfl, by rw [List.take_zero, List.append_nil]; exact hst.out.symm⟩
  case round =>
    obtain ⟨k, hk, rfl, hw⟩ := hrel
    have hrow := setRow_heap w g _ (setCells (l ++ s.data.toList.take k)) _ _ H0.out
    rw [← hw.out] at hrow
    by_cases hlt : k < s.size
    · have hl : k < s.data.toList.length := by simpa using hlt
      have hx' : s.data.toList[k] = s[k] := rfl
      have hx256 : (s[k].toNat : Int) < 256 := by have := UInt8.toNat_lt s[k]; omega
      have hc : wr.cell? ⟨g, s[k].toNat, none⟩ = some (.bool ((l ++ s.data.toList.take k).contains s[k])) := by
        rw [cell_of_row _ _ _ _ _ _ hrow]; exact setCells_at _ _
      have hf := frozen_of_row wr g s[k].toNat _ _ hrow
      have R : wr.setCell ⟨g, s[k].toNat, none⟩ (.bool true) = w.setRow g (setCells (l ++ s.data.toList.take (k + 1))) := by
        rw [setCell_eq_setRow wr g s[k].toNat _ _ _ _ hrow, ← setCells_snoc, List.append_assoc, ← hx', ← take_snoc3 hl, hw.out, setRow_setRow]
      have HR := hid R
      clear R hrow hw hx'
      go_wp2
      go_roundw
      case rel => exact ⟨k + 1, by omega, by go_num, HR⟩
      case measure => simp [intOf]; omega
    · have HW : Hid (w.setRow g (setCells (l ++ s.data.toList)) = wr) := by
        rw [hw.out, List.take_of_length_le (by simp; omega)]; rfl
      clear hw hrow
      go_wp2
      go_end0
      exact ⟨rfl, HW.out⟩

theorem of2_any (c : UInt8) (w : World) : Calls Try.prog 16 #[.int .u8 c.toNat] w fun e w' => e = .returned (.bool false) ∧ w = w' := by
  go_enter Try.func16, Try.ntmps16
  go_wp2
  go_ret
  exact ⟨rfl, rfl⟩

theorem ctl_true {c : UInt8} (h : c.toNat < 32 ∨ 126 < c.toNat) : ctl c = true := by unfold ctl; simp only [Bool.or_eq_true, decide_eq_true_eq]; exact h
theorem ctl_false {c : UInt8} (h : ¬ (c.toNat < 32 ∨ 126 < c.toNat)) : ctl c = false := by
  unfold ctl; simp only [Bool.or_eq_false_iff, decide_eq_false_iff_not]; omega

set_option maxRecDepth 100000 in
theorem of3_any (c : UInt8) (g : Nat) (b : Bool) (w : World) (hc : w.cell? ⟨g, c.toNat, none⟩ = some (.bool b)) :
    Calls Try.prog 17 #[.int .u8 c.toNat, .pointer (some ⟨g, 0, none⟩)] w fun e w' => e = .returned (.bool (ctl c || b)) ∧ w = w' := by
  have hx256 : (c.toNat : Int) < 256 := by have := UInt8.toNat_lt c; omega
  by_cases h : c.toNat < 32 ∨ 126 < c.toNat
  · have H := hid (ctl_true h)
    by_cases h1 : c.toNat < 32
    · go_enter Try.func17, Try.ntmps17
      go_wp2
      go_ret
      exact ⟨ret_bool (by rw [H.out, Bool.true_or]), rfl⟩
    · have h2 : 126 < c.toNat := by omega
      go_enter Try.func17, Try.ntmps17
      go_wp2
      go_ret
      exact ⟨ret_bool (by rw [H.out, Bool.true_or]), rfl⟩
  · have H := hid (ctl_false h)
    have h1 : ¬ c.toNat < 32 := by omega
    have h2 : ¬ 126 < c.toNat := by omega
    go_enter Try.func17, Try.ntmps17
    go_wp2
    go_ret
    exact ⟨ret_bool (by rw [H.out, decide_eq_false (show ¬ ((c.toNat : Int) < 32) by omega), decide_eq_false (show ¬ ((126 : Int) < (c.toNat : Int)) by omega)]; rfl), rfl⟩

theorem among_any (s : ByteArray) (c : UInt8) (w : World) (hs : s.size ≤ 1000) :
    Calls Try.prog 11 #[.string s, .int .u8 c.toNat] w fun e w' => e = .returned (.bool (amongB s.data.toList c)) ∧ w = w' := by
  go_enter Try.func11, Try.ntmps11
  go_wp2
  go_loop [5] (fun i => ∃ k : Nat, k ≤ s.size ∧ i = .int .i64 k ∧ Hid ((s.data.toList.take k).contains c = false)) (fun i => s.size - (intOf i).toNat)
  case atStart => exact ⟨0, Nat.zero_le _, rfl, by rw [List.take_zero]; rfl⟩
  case round =>
    obtain ⟨k, hk, rfl, ht⟩ := hrel
    by_cases hlt : k < s.size
    · have hl : k < s.data.toList.length := by simpa using hlt
      have hx' : s.data.toList[k] = s[k] := rfl
      by_cases hc : s[k] = c
      · have hb : ((s[k].toNat : Int) == (c.toNat : Int)) = true := by rw [hc]; simp
        have HF : Hid (s.data.toList.contains c = true) := by
          show s.data.toList.contains c = true
          rw [List.contains_iff_mem, ← hc]; exact List.getElem_mem hl
        clear hc hx'
        go_wp2
        go_ret
        exact ⟨ret_bool HF.out.symm, rfl⟩
      · have hb : ((s[k].toNat : Int) == (c.toNat : Int)) = false := by
          rw [beq_eq_false_iff_ne]; intro e; exact hc (UInt8.toNat_inj.1 (by omega))
        have HN : Hid ((s.data.toList.take (k + 1)).contains c = false) := by
          show (s.data.toList.take (k + 1)).contains c = false
          rw [take_snoc3 hl, hx', List.contains_append, ht.out, Bool.false_or]
          simp only [List.contains_cons, List.contains_nil, Bool.or_false, beq_eq_false_iff_ne, ne_eq]
          exact fun e => hc e.symm
        clear hc hx'
        go_wp2
        go_round
        case rel => exact ⟨k + 1, by omega, by go_num, HN⟩
        case measure => simp [intOf]; omega
    · have HF : Hid (s.data.toList.contains c = false) := by
        have := ht.out
        rw [List.take_of_length_le (by simp; omega)] at this
        exact this
      go_wp2
      go_ret
      exact ⟨ret_bool HF.out.symm, rfl⟩
end Go.Proofs.Ytcjjlmjamcmnpaa
