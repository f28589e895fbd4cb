/- Walks: percent's of and Has, the reference's Has. -/
import Derived.Test.YtcjjlmjamcmnpaaDoorPct
namespace Go.Proofs.YtcjjlmjamcmnpaaDoor
open Go.RowKit Go.Lib Go.Proofs.Foot

/-- What 'of' answers at set n, and what it leaves: the function that says no, or the one that looks into the new block g. -/
def OfPost (n : Nat) (w : World) (v : Value) (w' : World) : Prop :=
  if n = 0 ∨ 5 < n then v = .func (.func 28) #[] #[] else v = .func (.func 29) #[] #[.pointer (some ⟨w.heap.size, 0, none⟩)] ∧ w'.heap[w.heap.size]? = some (.cells (setCells (setL n)) 56 (0, 0))

theorem add1 (l : List UInt8) (s : ByteArray) (g : Nat) (w0 w : World) (hs : s.size ≤ 1000) (hb : Below g w0 w) (h0 : w.heap[g]? = some (.cells (setCells l) 56 (0, 0))) :
    Calls Tryd.prog 27 #[.string s, .pointer (some ⟨g, 0, none⟩)] w fun e w' => e = .returned (.tuple #[]) ∧ w'.heap[g]? = some (.cells (setCells (l ++ s.data.toList)) 56 (0, 0)) ∧ Below g w0 w' := by
  refine (add_any l s g w hs h0).mono ?_
  rintro e w' ⟨rfl, rfl⟩
  exact ⟨rfl, setRow_heap w g _ _ _ _ h0, below_setRow hb (Nat.le_refl _) _⟩

theorem zero256 (w : World) : (zeroValue 56).run Tryd.prog w = .ok (.agg (Array.replicate 256 (.bool false))) w := by kernel_rfl

set_option maxRecDepth 100000 in
theorem of_any (n : Nat) (hn : n < 256) (w : World) :
    Calls Tryd.prog 21 #[.int .u8 n] w fun e w' => ∃ v, e = .returned v ∧ OfPost n w v w' ∧ Below w.heap.size w w' := by
  have hz := zero256
  have hr0 : (w.alloc (.cells (Array.replicate 256 (.bool false)) 56)).heap[w.heap.size]? = some (.cells (setCells []) 56 (0, 0)) := heap_alloc_new _ _
  have hb0 : Below w.heap.size w (w.alloc (.cells (Array.replicate 256 (.bool false)) 56)) := (Below.refl _ _).alloc (Nat.le_refl _) _
  have Hr0 := hid hr0
  have Hb0 := hid hb0
  clear hr0 hb0
  by_cases hno : n = 0 ∨ 5 < n
  · have HN : Hid (OfPost n w (.func (.func 28) #[] #[]) (w.alloc (.cells (Array.replicate 256 (.bool false)) 56))) := by
      show OfPost n w _ _
      unfold OfPost; rw [if_pos hno]
    have e1 : ((n : Int) == 1) = false := by rw [beq_eq_false_iff_ne]; omega
    have e2 : ((n : Int) == 2) = false := by rw [beq_eq_false_iff_ne]; omega
    have e3 : ((n : Int) == 3) = false := by rw [beq_eq_false_iff_ne]; omega
    have e4 : ((n : Int) == 4) = false := by rw [beq_eq_false_iff_ne]; omega
    have e5 : ((n : Int) == 5) = false := by rw [beq_eq_false_iff_ne]; omega
    go_enter Tryd.func21, Tryd.ntmps21
    go_wp2
    go_ret
    exact ⟨_, rfl, HN.out, Hb0.out⟩
  by_cases h1 : n = 1
  · subst h1
    go_enter Tryd.func21, Tryd.ntmps21
    go_wp2
    go_ret
    exact ⟨_, rfl, ⟨rfl, Hr0.out⟩, Hb0.out⟩
  by_cases h2 : n = 2
  · subst h2
    go_enter Tryd.func21, Tryd.ntmps21
    go_wp2_with (go_at_call 27; refine (add1 [] _ w.heap.size w _ (by decide) Hb0.out Hr0.out).mono ?_; rintro e w1 ⟨rfl, hrow, hbel⟩)
    go_ret
    exact ⟨_, rfl, ⟨rfl, hrow⟩, hbel⟩
  by_cases h3 : n = 3
  · subst h3
    go_enter Tryd.func21, Tryd.ntmps21
    go_wp2_with (go_at_call 27; refine (add1 [] _ w.heap.size w _ (by decide) Hb0.out Hr0.out).mono ?_; rintro e w1 ⟨rfl, hrow, hbel⟩)
    go_ret
    exact ⟨_, rfl, ⟨rfl, hrow⟩, hbel⟩
  by_cases h4 : n = 4
  · subst h4
    go_enter Tryd.func21, Tryd.ntmps21
    go_wp2_with (go_at_call 27; refine (add1 [] _ w.heap.size w _ (by decide) Hb0.out Hr0.out).mono ?_; rintro e w1 ⟨rfl, hrow, hbel⟩)
    go_ret
    exact ⟨_, rfl, ⟨rfl, hrow⟩, hbel⟩
  obtain rfl : n = 5 := by omega
  go_enter Tryd.func21, Tryd.ntmps21
  go_wp2_with fail
  refine (add1 [] _ w.heap.size w _ (by decide) Hb0.out Hr0.out).mono ?_
  rintro e w1 ⟨rfl, hrow, hbel⟩
  go_wp2_with fail
  refine (add1 _ _ w.heap.size w _ (by decide) hbel hrow).mono ?_
  rintro e w2 ⟨rfl, hrow2, hbel2⟩
  go_wp2_with fail
  go_ret
  exact ⟨_, rfl, ⟨rfl, hrow2⟩, hbel2⟩

theorem has_any (n : Nat) (hn : n < 256) (c : UInt8) (w : World) :
    Calls Tryd.prog 14 #[.int .u8 n, .int .u8 c.toNat] w fun e w' => e = .returned (.bool (hasB n c)) ∧ Below w.heap.size w w' := by
  go_enter Tryd.func14, Tryd.ntmps14
  go_wp2_with fail
  refine (of_any n hn w).mono ?_
  rintro e w1 ⟨v, rfl, hp, hb⟩
  unfold OfPost at hp
  by_cases hno : n = 0 ∨ 5 < n
  · rw [if_pos hno] at hp
    subst hp
    go_wp2_with (go_at_call 28; refine (of2_any _ _).mono ?_; rintro e w2 ⟨rfl, rfl⟩)
    go_ret
    exact ⟨ret_bool (by unfold hasB; rw [if_pos hno]), hb⟩
  · rw [if_neg hno] at hp
    obtain ⟨rfl, hrow⟩ := hp
    have hc : w1.cell? ⟨w.heap.size, c.toNat, none⟩ = some (.bool (amongB (setL n) c)) := by
      rw [cell_of_row _ _ _ _ _ _ hrow]; exact setCells_at _ _
    have Hrow := hid hrow
    clear hrow
    go_wp2_with (go_at_call 29; refine (of3_any _ _ _ _ hc).mono ?_; rintro e w2 ⟨rfl, rfl⟩)
    go_ret
    exact ⟨ret_bool (by unfold hasB; rw [if_neg hno]; rfl), hb⟩

theorem hasB_no {n : Nat} (h : n = 0 ∨ 5 < n) (c : UInt8) : hasB n c = false := by unfold hasB; rw [if_pos h]
theorem hasB_ctl {n : Nat} (h : ¬ (n = 0 ∨ 5 < n)) {c : UInt8} (hc : c.toNat < 32 ∨ 126 < c.toNat) : hasB n c = true := by unfold hasB; rw [if_neg h, ctl_true hc]; rfl
theorem hasB_set {n : Nat} (h : ¬ (n = 0 ∨ 5 < n)) {c : UInt8} (hc : ¬ (c.toNat < 32 ∨ 126 < c.toNat)) : hasB n c = amongB (setL n) c := by unfold hasB; rw [if_neg h, ctl_false hc, Bool.false_or]; rfl
end Go.Proofs.YtcjjlmjamcmnpaaDoor
