/- Walk of the law AsciiTrimmed: a trimmed text has no blanks at its ends, stays as it is, and comes out again, whatever blanks stand around it. -/
import Derived.Test.YtalinfpakmcobaaDoorAlv1
import Derived.Test.YtalinfpakmcobaaDoorRows
namespace Go.Proofs.YtalinfpakmcobaaDoor
open Go.RowKit Go.Lib Go.Proofs.Foot

/-- So many blanks, by turns. -/
def bl : Nat → ByteArray
  | 0 => ⟨#[]⟩
  | k + 1 => bl k ++ if k % 2 = 0 then ⟨#[32]⟩ else ⟨#[9]⟩
theorem cat_list (s t : ByteArray) : (s ++ t).data.toList = s.data.toList ++ t.data.toList := by simp [ByteArray.data_append]
theorem cat_size (s t : ByteArray) : (s ++ t).size = s.size + t.size := by rw [Lib.size_eq, cat_list, List.length_append, ← Lib.size_eq, ← Lib.size_eq]
theorem bl_blank (k : Nat) : ∀ c ∈ (bl k).data.toList, blankB c = true := by
  induction k with
  | zero => intro c hc; simp [bl] at hc
  | succ k ih =>
    intro c hc
    rw [bl, cat_list, List.mem_append] at hc
    rcases hc with hc | hc
    · exact ih c hc
    · split at hc <;> simp at hc <;> subst hc <;> decide
theorem bl_size (k : Nat) : (bl k).size = k := by
  induction k with
  | zero => rfl
  | succ k ih => rw [bl, cat_size, ih]; split <;> rfl
theorem ne_of_nb {c : UInt8} (h : blankB c = false) : ((c.toNat : Int) == 32) = false ∧ ((c.toNat : Int) == 9) = false := by
  have := all_u8 (fun c => blankB c || (!((c.toNat : Int) == 32) && !((c.toNat : Int) == 9))) (by decide +kernel) c
  rw [h] at this
  simpa using this

set_option maxHeartbeats 2000000 in
set_option maxRecDepth 100000 in
theorem asciiTrimmed_walk (s : ByteArray) (_hs : s.size ≤ maxLen) (z : s.size ≤ 140737488351232) (x : Int) (wx : (Lit.int .u8 x).wf = true) (w : World) (_hL : laidMetH Tryd.prog Rows.asciiTrimmedRow.laid w) (hsh : w.ShapedOpen Tryd.prog) :
    Calls Tryd.prog 7 #[.string s, .int .u8 x] w fun e w' => e = .returned (.bool true) ∧ Below w.heap.size w w' := by
  obtain ⟨m, rfl⟩ := u8_of wx
  have G := hid hsh
  clear _hL hsh _hs wx
  cases hb : beyond [s.size] with
  | true =>
    go_enter Tryd.func7, Tryd.ntmps7
    go_wp2_with fail
    refine (alive_any _ G.out).mono ?_
    rintro e w1 ⟨rfl, hb1⟩
    have B1 := hid hb1
    clear hb1
    go_wp2_with (go_at_call 11; refine (beyond1 _ _ z).mono ?_; rintro e w2 ⟨rfl, rfl⟩)
    have hb2 : Below w1.heap.size w1 (w1.alloc (.cells #[.int .i64 s.size] 3)) := (Below.refl _ _).alloc (Nat.le_refl _) _
    have B2 := hid (below_chain B1.out hb2)
    clear hb2
    refine (alive_any _ (good_below G.out B2.out)).mono ?_
    rintro e w3 ⟨rfl, hb3⟩
    have B3 := hid (below_chain B2.out hb3)
    clear hb3
    go_wp2_with fail
    go_ret
    exact ⟨rfl, B3.out⟩
  | false =>
    have hle := beyond_le (zs := [s.size]) (by rw [hb]; decide)
    have hs : s.size ≤ 1048576 := by simpa using hle
    clear hle
    obtain ⟨T, hT⟩ : ∃ T : ByteArray, trim s.data.toList = T.data.toList := ⟨⟨(trim s.data.toList).toArray⟩, by simp⟩
    have hTz : T.size ≤ s.size := by rw [Lib.size_eq, ← hT, Lib.size_eq s]; exact trim_length _
    have hTs : T.size ≤ 16777216 := by omega
    have hgt : decide (s.size < T.size) = false := decide_eq_false (by omega)
    have HT := hid hT
    have Htt : Hid (trim T.data.toList = T.data.toList) := hid (by rw [← hT]; exact trim_trim _)
    have Hhd : Hid (∀ h : 0 < T.size, blankB (T[0]'h) = false) := hid (fun h => by
      have := trim_head s.data.toList
      rw [hT] at this
      refine this _ ?_
      have hl : 0 < T.data.toList.length := by rw [← Lib.size_eq]; exact h
      rw [List.head?_eq_getElem?, List.getElem?_eq_getElem hl]; rfl)
    have Hls : Hid (∀ h : T.size - 1 < T.size, blankB (T[T.size - 1]'h) = false) := hid (fun h => by
      have := trim_last s.data.toList
      rw [hT] at this
      refine this _ ?_
      have hl : T.size - 1 < T.data.toList.length := by rw [← Lib.size_eq]; exact h
      rw [List.getLast?_eq_getElem?, ← Lib.size_eq, List.getElem?_eq_getElem hl]; rfl)
    have Hah : Hid (∀ k, trim (bl k ++ s).data.toList = T.data.toList) := hid (fun k => by rw [cat_list, trim_ahead (bl_blank k), hT])
    have Hbe : Hid (∀ k, trim (s ++ bl k).data.toList = T.data.toList) := hid (fun k => by rw [cat_list, trim_behind (bl_blank k), hT])
    have m256 := m.toNat_lt
    clear hT
    go_enter Tryd.func7, Tryd.ntmps7
    go_wp2_with fail
    refine (alive_any _ G.out).mono ?_
    rintro e w1 ⟨rfl, hb1⟩
    have B1 := hid hb1
    clear hb1
    go_wp2_with (go_at_call 11; refine (beyond1 _ _ z).mono ?_; rintro e w2 ⟨rfl, rfl⟩)
    have hb2 : Below w1.heap.size w1 (w1.alloc (.cells #[.int .i64 s.size] 3)) := (Below.refl _ _).alloc (Nat.le_refl _) _
    have B2 := hid (below_chain B1.out hb2)
    clear hb2 hb
    generalize w1.alloc _ = w2 at *
    refine (trim_is _ s (by omega) T HT.out).mono ?_
    rintro e w3 ⟨rfl, hb3⟩
    have B3 := hid (below_chain B2.out hb3)
    clear hb3
    by_cases h0 : 0 < T.size
    · obtain ⟨c, hc⟩ : ∃ c, T[0]'h0 = c := ⟨_, rfl⟩
      have i1 : T.size - 1 < T.size := by omega
      obtain ⟨d, hd⟩ : ∃ d, T[T.size - 1]'i1 = d := ⟨_, rfl⟩
      obtain ⟨c1, c2⟩ := ne_of_nb (c := c) (by rw [← hc]; exact Hhd.out h0)
      obtain ⟨d1, d2⟩ := ne_of_nb (c := d) (by rw [← hd]; exact Hls.out i1)
      go_wp2
      go_loopw [7, 8] (fun a i wr => ∃ k : Nat, k ≤ m.toNat % 9 ∧ i = .int .i64 k ∧ a = .string (bl k) ∧ Hid (Below w.heap.size w wr)) (fun _ i _ => m.toNat % 9 - (RowKit.intOf i).toNat)
      case atStart => exact ⟨0, Nat.zero_le _, rfl, rfl, B3⟩
      case round =>
        obtain ⟨k, hk, rfl, rfl, hbel⟩ := hrel
        have q0 : (m.toNat : Int).tmod 9 = (m.toNat : Int) % 9 := Int.tmod_eq_emod_of_nonneg (by omega)
        by_cases hlt : (k : Int) < (m.toNat : Int) % 9
        · have hk9 : k = 0 ∨ k = 1 ∨ k = 2 ∨ k = 3 ∨ k = 4 ∨ k = 5 ∨ k = 6 ∨ k = 7 := by omega
          rcases hk9 with rfl | rfl | rfl | rfl | rfl | rfl | rfl | rfl
          all_goals go_wp2
          all_goals go_roundw
          all_goals first
            | exact ⟨1, by omega, rfl, rfl, hid (hbel.out.alloc hbel.out.size _)⟩
            | exact ⟨2, by omega, rfl, rfl, hid (hbel.out.alloc hbel.out.size _)⟩
            | exact ⟨3, by omega, rfl, rfl, hid (hbel.out.alloc hbel.out.size _)⟩
            | exact ⟨4, by omega, rfl, rfl, hid (hbel.out.alloc hbel.out.size _)⟩
            | exact ⟨5, by omega, rfl, rfl, hid (hbel.out.alloc hbel.out.size _)⟩
            | exact ⟨6, by omega, rfl, rfl, hid (hbel.out.alloc hbel.out.size _)⟩
            | exact ⟨7, by omega, rfl, rfl, hid (hbel.out.alloc hbel.out.size _)⟩
            | exact ⟨8, by omega, rfl, rfl, hid (hbel.out.alloc hbel.out.size _)⟩
            | (simp [RowKit.intOf]; omega)
        · have hbz := bl_size k
          have Hbz := hid hbz
          have hb9 : (bl k).size ≤ 9 := by omega
          clear hbz
          have B4 := hbel
          go_wp2_with fail
          refine (trim_is _ T (by omega) T Htt.out).mono ?_
          rintro e w5 ⟨rfl, hb5⟩
          have B5 := hid (below_chain B4.out hb5)
          clear hb5
          go_wp2_with fail
          refine (trim_is _ (bl k ++ s) (by rw [cat_size, Hbz.out]; omega) T (Hah.out k)).mono ?_
          rintro e w6 ⟨rfl, hb6⟩
          have B6 := hid (below_chain B5.out hb6)
          clear hb6
          go_wp2_with fail
          refine (trim_is _ (s ++ bl k) (by rw [cat_size, Hbz.out]; omega) T (Hbe.out k)).mono ?_
          rintro e w7 ⟨rfl, hb7⟩
          have B7 := hid (below_chain B6.out hb7)
          clear hb7
          go_wp2
          go_ret
          exact ⟨rfl, B7.out⟩
    · go_wp2
      go_loopw [7, 8] (fun a i wr => ∃ k : Nat, k ≤ m.toNat % 9 ∧ i = .int .i64 k ∧ a = .string (bl k) ∧ Hid (Below w.heap.size w wr)) (fun _ i _ => m.toNat % 9 - (RowKit.intOf i).toNat)
      case atStart => exact ⟨0, Nat.zero_le _, rfl, rfl, B3⟩
      case round =>
        obtain ⟨k, hk, rfl, rfl, hbel⟩ := hrel
        have q0 : (m.toNat : Int).tmod 9 = (m.toNat : Int) % 9 := Int.tmod_eq_emod_of_nonneg (by omega)
        by_cases hlt : (k : Int) < (m.toNat : Int) % 9
        · have hk9 : k = 0 ∨ k = 1 ∨ k = 2 ∨ k = 3 ∨ k = 4 ∨ k = 5 ∨ k = 6 ∨ k = 7 := by omega
          rcases hk9 with rfl | rfl | rfl | rfl | rfl | rfl | rfl | rfl
          all_goals go_wp2
          all_goals go_roundw
          all_goals first
            | exact ⟨1, by omega, rfl, rfl, hid (hbel.out.alloc hbel.out.size _)⟩
            | exact ⟨2, by omega, rfl, rfl, hid (hbel.out.alloc hbel.out.size _)⟩
            | exact ⟨3, by omega, rfl, rfl, hid (hbel.out.alloc hbel.out.size _)⟩
            | exact ⟨4, by omega, rfl, rfl, hid (hbel.out.alloc hbel.out.size _)⟩
            | exact ⟨5, by omega, rfl, rfl, hid (hbel.out.alloc hbel.out.size _)⟩
            | exact ⟨6, by omega, rfl, rfl, hid (hbel.out.alloc hbel.out.size _)⟩
            | exact ⟨7, by omega, rfl, rfl, hid (hbel.out.alloc hbel.out.size _)⟩
            | exact ⟨8, by omega, rfl, rfl, hid (hbel.out.alloc hbel.out.size _)⟩
            | (simp [RowKit.intOf]; omega)
        · have hbz := bl_size k
          have Hbz := hid hbz
          have hb9 : (bl k).size ≤ 9 := by omega
          clear hbz
          have B4 := hbel
          go_wp2_with fail
          refine (trim_is _ T (by omega) T Htt.out).mono ?_
          rintro e w5 ⟨rfl, hb5⟩
          have B5 := hid (below_chain B4.out hb5)
          clear hb5
          go_wp2_with fail
          refine (trim_is _ (bl k ++ s) (by rw [cat_size, Hbz.out]; omega) T (Hah.out k)).mono ?_
          rintro e w6 ⟨rfl, hb6⟩
          have B6 := hid (below_chain B5.out hb6)
          clear hb6
          go_wp2_with fail
          refine (trim_is _ (s ++ bl k) (by rw [cat_size, Hbz.out]; omega) T (Hbe.out k)).mono ?_
          rintro e w7 ⟨rfl, hb7⟩
          have B7 := hid (below_chain B6.out hb7)
          clear hb7
          go_wp2
          go_ret
          exact ⟨rfl, B7.out⟩
end Go.Proofs.YtalinfpakmcobaaDoor
