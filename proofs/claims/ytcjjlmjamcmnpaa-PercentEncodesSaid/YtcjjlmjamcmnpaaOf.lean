/- Walks: percent's of and Has, the reference's Has. -/
import Derived.Test.YtcjjlmjamcmnpaaPct
namespace Go.Proofs.Ytcjjlmjamcmnpaa
open Go.RowKit Go.Lib Go.Proofs.Foot

/-- What 'of' answers at set n, and what it leaves: the function that says no, or the one that looks into the new block g. -/
def OfPost (n : Nat) (w : World) (v : Value) (w' : World) : Prop :=
  if n = 0 ∨ 5 < n then v = .func (.func 16) #[] #[] else v = .func (.func 17) #[] #[.pointer (some ⟨w.heap.size, 0, none⟩)] ∧ w'.heap[w.heap.size]? = some (.cells (setCells (setL n)) 42 (0, 0))

theorem add1 (l : List UInt8) (s : ByteArray) (g : Nat) (w0 w : World) (hs : s.size ≤ 1000) (hb : Below g w0 w) (h0 : w.heap[g]? = some (.cells (setCells l) 42 (0, 0))) :
    Calls Try.prog 15 #[.string s, .pointer (some ⟨g, 0, none⟩)] w fun e w' => e = .returned (.tuple #[]) ∧ w'.heap[g]? = some (.cells (setCells (l ++ s.data.toList)) 42 (0, 0)) ∧ Below g w0 w' := by
  refine (add_any l s g w hs h0).mono ?_
  rintro e w' ⟨rfl, rfl⟩
  exact ⟨rfl, setRow_heap w g _ _ _ _ h0, below_setRow hb (Nat.le_refl _) _⟩

theorem zero256 (w : World) : (zeroValue 42).run Try.prog w = .ok (.agg (Array.replicate 256 (.bool false))) w := by kernel_rfl

set_option maxRecDepth 100000 in
theorem of_any (n : Nat) (hn : n < 256) (w : World) :
    Calls Try.prog 10 #[.int .u8 n] w fun e w' => ∃ v, e = .returned v ∧ OfPost n w v w' ∧ Below w.heap.size w w' := by
  have hz := zero256
  have hr0 : (w.alloc (.cells (Array.replicate 256 (.bool false)) 42)).heap[w.heap.size]? = some (.cells (setCells []) 42 (0, 0)) := heap_alloc_new _ _
  have hb0 : Below w.heap.size w (w.alloc (.cells (Array.replicate 256 (.bool false)) 42)) := (Below.refl _ _).alloc (Nat.le_refl _) _
  have Hr0 := hid hr0
  have Hb0 := hid hb0
  clear hr0 hb0
  by_cases hno : n = 0 ∨ 5 < n
  · have HN : Hid (OfPost n w (.func (.func 16) #[] #[]) (w.alloc (.cells (Array.replicate 256 (.bool false)) 42))) := by
      show OfPost n w _ _
      unfold OfPost; rw [if_pos hno]
    have e1 : ((n : Int) == 1) = false := by rw [beq_eq_false_iff_ne]; omega
    have e2 : ((n : Int) == 2) = false := by rw [beq_eq_false_iff_ne]; omega
    have e3 : ((n : Int) == 3) = false := by rw [beq_eq_false_iff_ne]; omega
    have e4 : ((n : Int) == 4) = false := by rw [beq_eq_false_iff_ne]; omega
    have e5 : ((n : Int) == 5) = false := by rw [beq_eq_false_iff_ne]; omega
    go_enter Try.func10, Try.ntmps10
    go_wp2
    go_ret
    exact ⟨_, rfl, HN.out, Hb0.out⟩
  by_cases h1 : n = 1
  · subst h1
    go_enter Try.func10, Try.ntmps10
    go_wp2
    go_ret
    exact ⟨_, rfl, ⟨rfl, Hr0.out⟩, Hb0.out⟩
  by_cases h2 : n = 2
  · subst h2
    go_enter Try.func10, Try.ntmps10
    go_wp2_with (go_at_call 15; refine (add1 [] _ w.heap.size w _ (by decide) Hb0.out Hr0.out).mono ?_; rintro e w1 ⟨rfl, hrow, hbel⟩)
    go_ret
    exact ⟨_, rfl, ⟨rfl, hrow⟩, hbel⟩
  by_cases h3 : n = 3
  · subst h3
    go_enter Try.func10, Try.ntmps10
    go_wp2_with (go_at_call 15; refine (add1 [] _ w.heap.size w _ (by decide) Hb0.out Hr0.out).mono ?_; rintro e w1 ⟨rfl, hrow, hbel⟩)
    go_ret
    exact ⟨_, rfl, ⟨rfl, hrow⟩, hbel⟩
  by_cases h4 : n = 4
  · subst h4
    go_enter Try.func10, Try.ntmps10
    go_wp2_with (go_at_call 15; refine (add1 [] _ w.heap.size w _ (by decide) Hb0.out Hr0.out).mono ?_; rintro e w1 ⟨rfl, hrow, hbel⟩)
    go_ret
    exact ⟨_, rfl, ⟨rfl, hrow⟩, hbel⟩
  obtain rfl : n = 5 := by omega
  go_enter Try.func10, Try.ntmps10
  go_wp2_with fail
  refine (add1 [] _ w.heap.size w _ (by decide) Hb0.out Hr0.out).mono ?_
  rintro e w1 ⟨rfl, hrow, hbel⟩
  go_wp2_with fail
  refine (add1 _ _ w.heap.size w _ (by decide) hbel hrow).mono ?_
  rintro e w2 ⟨rfl, hrow2, hbel2⟩
  go_wp2_with fail
  go_ret
  exact ⟨_, rfl, ⟨rfl, hrow2⟩, hbel2⟩

theorem has_any (n : Nat) (hn : n < 256) (c : UInt8) (w : World) :
    Calls Try.prog 5 #[.int .u8 n, .int .u8 c.toNat] w fun e w' => e = .returned (.bool (hasB n c)) ∧ Below w.heap.size w w' := by
  go_enter Try.func5, Try.ntmps5
  go_wp2_with fail
  refine (of_any n hn w).mono ?_
  rintro e w1 ⟨v, rfl, hp, hb⟩
  unfold OfPost at hp
  by_cases hno : n = 0 ∨ 5 < n
  · rw [if_pos hno] at hp
    subst hp
    go_wp2_with (go_at_call 16; refine (of2_any _ _).mono ?_; rintro e w2 ⟨rfl, rfl⟩)
    go_ret
    exact ⟨ret_bool (by unfold hasB; rw [if_pos hno]), hb⟩
  · rw [if_neg hno] at hp
    obtain ⟨rfl, hrow⟩ := hp
    have hc : w1.cell? ⟨w.heap.size, c.toNat, none⟩ = some (.bool (amongB (setL n) c)) := by
      rw [cell_of_row _ _ _ _ _ _ hrow]; exact setCells_at _ _
    have Hrow := hid hrow
    clear hrow
    go_wp2_with (go_at_call 17; refine (of3_any _ _ _ _ hc).mono ?_; rintro e w2 ⟨rfl, rfl⟩)
    go_ret
    exact ⟨ret_bool (by unfold hasB; rw [if_neg hno]; rfl), hb⟩

theorem hasB_no {n : Nat} (h : n = 0 ∨ 5 < n) (c : UInt8) : hasB n c = false := by unfold hasB; rw [if_pos h]
theorem hasB_ctl {n : Nat} (h : ¬ (n = 0 ∨ 5 < n)) {c : UInt8} (hc : c.toNat < 32 ∨ 126 < c.toNat) : hasB n c = true := by unfold hasB; rw [if_neg h, ctl_true hc]; rfl
theorem hasB_set {n : Nat} (h : ¬ (n = 0 ∨ 5 < n)) {c : UInt8} (hc : ¬ (c.toNat < 32 ∨ 126 < c.toNat)) : hasB n c = amongB (setL n) c := by unfold hasB; rw [if_neg h, ctl_false hc, Bool.false_or]; rfl

set_option maxRecDepth 100000 in
theorem hasR_any (n : Nat) (hn : n < 256) (c : UInt8) (w : World) :
    Calls Try.prog 6 #[.int .u8 n, .int .u8 c.toNat] w fun e w' => e = .returned (.bool (hasB n c)) ∧ w = w' := by
  by_cases hno : n = 0 ∨ 5 < n
  · have H := hid (hasB_no hno c)
    by_cases h0 : n = 0
    · subst h0
      go_enter Try.func6, Try.ntmps6
      go_wp2
      go_ret
      exact ⟨ret_bool H.out.symm, rfl⟩
    · have e0 : ((n : Int) == 0) = false := by rw [beq_eq_false_iff_ne]; omega
      have e1 : (5 : Int) < (n : Int) := by omega
      go_enter Try.func6, Try.ntmps6
      go_wp2
      go_ret
      exact ⟨ret_bool H.out.symm, rfl⟩
  · have e0 : ((n : Int) == 0) = false := by rw [beq_eq_false_iff_ne]; omega
    have e1 : ¬ (5 : Int) < (n : Int) := by omega
    by_cases hc : c.toNat < 32 ∨ 126 < c.toNat
    · have H := hid (hasB_ctl hno hc)
      by_cases h1 : c.toNat < 32
      · go_enter Try.func6, Try.ntmps6
        go_wp2
        go_ret
        exact ⟨ret_bool H.out.symm, rfl⟩
      · have h2 : 126 < c.toNat := by omega
        go_enter Try.func6, Try.ntmps6
        go_wp2
        go_ret
        exact ⟨ret_bool H.out.symm, rfl⟩
    · have H := hid (hasB_set hno hc)
      have h1 : ¬ c.toNat < 32 := by omega
      have h2 : ¬ 126 < c.toNat := by omega
      have hn5 : n = 1 ∨ n = 2 ∨ n = 3 ∨ n = 4 ∨ n = 5 := by omega
      rcases hn5 with rfl | rfl | rfl | rfl | rfl
      all_goals
        go_enter Try.func6, Try.ntmps6
        go_wp2_with (go_at_call 11; refine (among_any _ _ _ (by decide)).mono ?_; rintro e w2 ⟨rfl, rfl⟩)
        go_ret
      all_goals refine ⟨ret_bool ?_, rfl⟩
      all_goals rw [H.out]
      · rfl
      · rfl
      · rfl
      · rfl
      · exact user_among c
end Go.Proofs.Ytcjjlmjamcmnpaa
