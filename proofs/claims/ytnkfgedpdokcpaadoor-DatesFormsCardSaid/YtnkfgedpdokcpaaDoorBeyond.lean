/- Walk: footmanlaw01's Beyond, at any short list of sizes: true just where their sum is above 1048576. -/
import Derived.Test.YtnkfgedpdokcpaaDoorProg
import Derived.Test.YtnkfgedpdokcpaaDoorBase
namespace Go.Proofs.YtnkfgedpdokcpaaDoor
open Go.RowKit Go.Lib

def beyond (zs : List Nat) : Bool := decide (1048576 < zs.sum)
theorem sum_take_succ {zs : List Nat} {k : Nat} (h : k < zs.length) : (zs.take (k + 1)).sum = (zs.take k).sum + zs[k] := by
  rw [List.take_add_one, List.getElem?_eq_getElem h, List.sum_append, Option.toList_some, List.sum_singleton]
theorem sum_take_le (zs : List Nat) (k : Nat) : (zs.take k).sum ≤ zs.sum := by
  have h := List.sum_append (l₁ := zs.take k) (l₂ := zs.drop k)
  rw [List.take_append_drop] at h; omega

theorem beyond_any (zs : List Nat) (b : Nat) (w : World) (hc : ∀ (k : Nat) (h : k < zs.length), w.cell? ⟨b, k, none⟩ = some (.int .i64 (zs[k] : Nat))) (hz : ∀ (k : Nat) (h : k < zs.length), zs[k] ≤ 1125899906842624) (hlen : zs.length ≤ 8) :
    Calls Tryd.prog 10 #[.slice (some ⟨b, 0, none⟩) zs.length zs.length] w fun e w' => e = .returned (.bool (beyond zs)) ∧ w = w' := by
  have Hc := hid hc
  have Hz := hid hz
  clear hc hz
  go_enter Tryd.func10, Tryd.ntmps10
  go_wp2
  go_loop [3, 4] (fun n i => ∃ k : Nat, k ≤ zs.length ∧ i = .int .i64 k ∧ n = .int .i64 (zs.take k).sum ∧ (zs.take k).sum ≤ 1048576) (fun _ i => zs.length - (intOf i).toNat)
  case atStart => exact ⟨0, Nat.zero_le _, rfl, rfl, by simp⟩
  case round =>
    obtain ⟨k, hk, rfl, rfl, hs⟩ := hrel
    by_cases hlt : k < zs.length
    · have hc1 := Hc.out k hlt
      have hz1 := Hz.out k hlt
      have Hsum := hid (sum_take_succ hlt)
      have hle := sum_take_le zs (k + 1)
      obtain ⟨z, hzk⟩ : ∃ z, z = zs[k] := ⟨_, rfl⟩
      rw [← hzk] at hc1 hz1
      have Hzk := hid hzk
      clear hzk
      obtain ⟨t, ht⟩ : ∃ t, t = (zs.take k).sum := ⟨_, rfl⟩
      rw [← ht] at hs
      rw [← ht]
      have Ht := hid ht
      clear ht
      obtain ⟨u, hu⟩ : ∃ u, u = (zs.take (k + 1)).sum := ⟨_, rfl⟩
      rw [← hu] at hle
      have Hu : Hid (u = t + z) := by rw [hu, Hsum.out, Ht.out, Hzk.out]; rfl
      have Hu2 := hid hu
      clear hu
      by_cases hb : t + z ≤ 1048576
      · have hb1 : ¬ ((t : Int) + (z : Int) > 1048576) := by omega
        go_wp2
        go_round
        case rel => exact ⟨k + 1, by omega, by go_num, by rw [← Hu2.out, Hu.out]; go_num, by rw [← Hu2.out, Hu.out]; exact hb⟩
        case measure => simp [intOf]; omega
      · have hb1 : (t : Int) + (z : Int) > 1048576 := by omega
        go_wp2
        go_ret
        exact ⟨ret_bool (by have := Hu.out; exact (decide_eq_true (by omega)).symm), rfl⟩
    · have e : zs.take k = zs := List.take_of_length_le (by omega)
      rw [e] at hs
      have Hs := hid hs
      go_wp2
      go_ret
      exact ⟨ret_bool (decide_eq_false (by omega)).symm, rfl⟩

theorem beyond1 (n : Nat) (w : World) (hn : n ≤ 140737488351232) :
    Calls Tryd.prog 10 #[.slice (some ⟨w.heap.size, 0, none⟩) 1 1] (w.alloc (.cells #[.int .i64 n] 3)) fun e w' => e = .returned (.bool (beyond [n])) ∧ w.alloc (.cells #[.int .i64 n] 3) = w' :=
  beyond_any [n] w.heap.size _ (fun k h => by
    obtain rfl : k = 0 := by simp at h; omega
    rw [World.cell?_alloc_at _ _ _ _ rfl]; rfl) (fun k h => by
    obtain rfl : k = 0 := by simp at h; omega
    exact Nat.le_trans hn (by decide)) (by simp)
theorem beyondW (n : Nat) (w : World) (hn : n ≤ 1125899906842624) :
    Calls Tryd.prog 10 #[.slice (some ⟨w.heap.size, 0, none⟩) 1 1] (w.alloc (.cells #[.int .i64 n] 3)) fun e w' => e = .returned (.bool (beyond [n])) ∧ w.alloc (.cells #[.int .i64 n] 3) = w' :=
  beyond_any [n] w.heap.size _ (fun k h => by
    obtain rfl : k = 0 := by simp at h; omega
    rw [World.cell?_alloc_at _ _ _ _ rfl]; rfl) (fun k h => by
    obtain rfl : k = 0 := by simp at h; omega
    exact hn) (by simp)
theorem beyond2 (n m : Nat) (w : World) (hn : n ≤ 140737488351232) (hm : m ≤ 140737488351232) :
    Calls Tryd.prog 10 #[.slice (some ⟨w.heap.size, 0, none⟩) 2 2] (w.alloc (.cells #[.int .i64 n, .int .i64 m] 3)) fun e w' => e = .returned (.bool (beyond [n, m])) ∧ w.alloc (.cells #[.int .i64 n, .int .i64 m] 3) = w' :=
  beyond_any [n, m] w.heap.size _ (fun k h => by
    match k, h with
    | 0, _ => rw [World.cell?_alloc_at _ _ _ _ rfl]; rfl
    | 1, _ => rw [World.cell?_alloc_at _ _ _ _ rfl]; rfl
    | k + 2, h => exact absurd h (by simp only [List.length_cons, List.length_nil]; omega)) (fun k h => by
    match k, h with
    | 0, _ => exact Nat.le_trans hn (by decide)
    | 1, _ => exact Nat.le_trans hm (by decide)
    | k + 2, h => exact absurd h (by simp only [List.length_cons, List.length_nil]; omega)) (by simp)
theorem beyond_le {zs : List Nat} (h : ¬ beyond zs = true) : zs.sum ≤ 1048576 := by
  unfold beyond at h; simp only [decide_eq_true_eq] at h; omega
end Go.Proofs.YtnkfgedpdokcpaaDoor
