/- Walk: strings.IndexAny at the five signs = ; " blank tab, on any text of at most 8 bytes, ASCII or not. -/
import Derived.Test.YtnmdcbneoipllaaDoorSt2
import Derived.Shelf.Strings.IndexAny
import Derived.Laws.RangeAny
import Derived.Laws.Runes
import Derived.Lib.IndexBytes
import Derived.Lib.OthersKept
import Derived.Deep.RegionHeld3
import Derived.Deep.QuietTactic
import Derived.BigQuiet
import Derived.WalkMore
namespace Go.Proofs.YtnmdcbneoipllaaDoor
open Go.RowKit Go.Lib Go.Proofs.Foot

theorem below_drewN' {B : Nat} {w : World} (n : Nat) : Below B w (w.drewN n) := ⟨rfl, rfl, rfl, Nat.le_refl _, fun _ _ => rfl⟩
theorem below_iter (w : World) (s : ByteArray) (pos : Nat) : Below w.heap.size w (w.iter s pos) := (Below.refl _ _).alloc (Nat.le_refl _) _
theorem five_low (i : Nat) (h : i < 5) : ∃ x : UInt8, (⟨#[61, 59, 34, 32, 9]⟩ : ByteArray)[i]'h = x ∧ x.toNat < 128 := by
  match i, h with
  | 0, _ => exact ⟨61, rfl, by decide⟩
  | 1, _ => exact ⟨59, rfl, by decide⟩
  | 2, _ => exact ⟨34, rfl, by decide⟩
  | 3, _ => exact ⟨32, rfl, by decide⟩
  | 4, _ => exact ⟨9, rfl, by decide⟩
set_option maxHeartbeats 2000000 in
set_option maxRecDepth 100000 in
theorem rune_err (w : World) : Calls Tryd.prog 53 #[.string ⟨#[61, 59, 34, 32, 9]⟩, .int .i32 65533] w fun e w' => e = .returned (.int .i64 (-1)) ∧ Below w.heap.size w w' := by
  obtain ⟨S, hS⟩ : ∃ S : ByteArray, S = ⟨#[61, 59, 34, 32, 9]⟩ := ⟨_, rfl⟩
  have hz : S.size = 5 := by rw [hS]; rfl
  have HA : Hid (∀ i (h : i < S.size), (S[i]'h).toNat < 128) := hid (by
    subst hS
    intro i h
    obtain ⟨x, hx, h1⟩ := five_low i h
    rw [hx]; exact h1)
  rw [← hS]
  clear hS
  have HZ := hid hz
  clear hz
  go_enter Tryd.func53, Tryd.ntmps53
  go_wp2
  go_loopg [] S.size (fun g wx => ∃ i : Nat, i + g = S.size ∧ wx = w.iter S i)
  case atStart => exact ⟨0, by omega, rfl⟩
  case round =>
    obtain ⟨i, hig, rfl⟩ := hrel
    cases gk with
    | zero =>
      obtain rfl : i = S.size := by omega
      have hnx := run_next_end (P := Tryd.prog) w S S.size
      go_wp2
      go_ret
      exact ⟨rfl, below_iter _ _ _⟩
    | succ g =>
      have hi : i < S.size := by omega
      obtain ⟨x, hx⟩ : ∃ x : UInt8, S[i]'hi = x := ⟨_, rfl⟩
      have hx128 : x.toNat < 128 := by rw [← hx]; exact HA.out i hi
      have hnx := fun ty => run_next_ascii (P := Tryd.prog) w S i ty hi (by rw [hx]; exact hx128)
      rw [hx] at hnx
      clear hx
      have hne : ((x.toNat : Int) == 65533) = false := beq_eq_false_iff_ne.2 (by omega)
      go_wp2
      go_roundg g
      case measure => omega
      case rel => exact ⟨i + 1, by omega, rfl⟩
set_option maxHeartbeats 2000000 in
set_option maxRecDepth 100000 in
theorem rune_wrong (r : Int) (h0 : 128 ≤ r) (h1 : r ≠ 65533) (hv : Lib.validRune r = false) (w : World) : Calls Tryd.prog 53 #[.string ⟨#[61, 59, 34, 32, 9]⟩, .int .i32 r] w fun e w' => e = .returned (.int .i64 (-1)) ∧ Below w.heap.size w w' := by
  have hr : (r == 65533) = false := beq_eq_false_iff_ne.2 h1
  have HV := hid (fun w => Tryd.utf8_ValidRune r w)
  rw [hv] at HV
  clear hv
  go_enter Tryd.func53, Tryd.ntmps53
  go_wp2_with fail
  refine (HV.out _).mono ?_
  rintro e w' ⟨rfl, rfl⟩
  go_wp2
  go_ret
  exact ⟨rfl, Below.refl _ _⟩
theorem indexByte_low (c : UInt8) (hc : 128 ≤ c.toNat) : ∀ l : List UInt8, (∀ b ∈ l, b.toNat < 128) → Lib.indexByte l c = -1
  | [], _ => rfl
  | b :: l, h => by
    have hb : (b == c) = false := beq_eq_false_iff_ne.2 (fun e => by have := h b (by simp); rw [e] at this; omega)
    rw [Lib.indexByte, hb, indexByte_low c hc l (fun d hd => h d (List.mem_cons_of_mem _ hd))]; rfl
set_option maxHeartbeats 4000000 in
set_option maxRecDepth 100000 in
theorem rune_valid (r : Int) (h0 : 128 ≤ r) (h1 : r ≠ 65533) (hv : Lib.validRune r = true) (w : World) : Calls Tryd.prog 53 #[.string ⟨#[61, 59, 34, 32, 9]⟩, .int .i32 r] w fun e w' => e = .returned (.int .i64 (-1)) ∧ Below w.heap.size w w' := by
  have hr : (r == 65533) = false := beq_eq_false_iff_ne.2 h1
  obtain ⟨e2, e4, el⟩ := encode_facts r (by rw [Go.validRune_eq]; exact hv) h0
  have HV := hid (fun w => Tryd.utf8_ValidRune r w)
  rw [hv] at HV
  obtain ⟨T, hT⟩ : ∃ T, T = Utf8.encode r := ⟨_, rfl⟩
  rw [← hT] at e2 e4 el
  have cv : ∀ w, (convert 21 9 (.int .i32 r)).run Tryd.prog w = .ok (.string T) w := fun w => by rw [hT]; exact run_convert_int_string w _ _ _ _ (by kernel_rfl) Tryd.underlying9
  obtain ⟨n, hn⟩ : ∃ n : Nat, T.size = n + 1 := ⟨T.size - 1, by omega⟩
  have hnl : n < T.size := by omega
  obtain ⟨c, hc⟩ : ∃ c, T[n]'hnl = c := ⟨_, rfl⟩
  have hc128 : 128 ≤ c.toNat := by
    have := el (by omega)
    simp only [hn, Nat.add_sub_cancel] at this
    rw [← hc]; exact this
  obtain ⟨S, hS⟩ : ∃ S : ByteArray, S = ⟨#[61, 59, 34, 32, 9]⟩ := ⟨_, rfl⟩
  have hz : S.size = 5 := by rw [hS]; rfl
  have hSl : ∀ b ∈ S.data.toList, b.toNat < 128 := by rw [hS]; decide
  have hnS : n < S.size := by omega
  obtain ⟨x, hx⟩ : ∃ x, S[n]'hnS = x := ⟨_, rfl⟩
  have hx128 : x.toNat < 128 := by
    rw [← hx]
    exact hSl _ (List.mem_of_getElem? (Lib.data_getElem? S n hnS))
  have hne : ((x.toNat : Int) != (c.toNat : Int)) = true := by simp; omega
  obtain ⟨R, hR⟩ : ∃ R, R = S.extract (n + 1) S.size := ⟨_, rfl⟩
  have hRl : Lib.indexByte R.data.toList c = -1 := indexByte_low c hc128 _ (fun b hb => hSl b (by rw [hR] at hb; exact Go.mem_extract hb))
  have sl : ∀ W, (Instr.slice 9 (.string S) (some (.int .i64 ((n : Int) + 1))) none none).run Tryd.prog W = .ok (.string R) W := fun W => by
    have := run_slice_string_from_if (P := Tryd.prog) W 9 S .i64 ((n : Int) + 1) Tryd.underlying9
    rw [this, hR]
    rw [if_pos (by omega)]; rfl
  have HI := hid (fun w => Tryd.strings_IndexByte R (c.toNat : Int) w)
  have hback : ((c.toNat : Int)).toNat.toUInt8 = c := by simp
  rw [hback, hRl] at HI
  have hlt : (n : Int) < (S.size : Int) := by omega
  have hnT : (T.size : Int) = (n : Int) + 1 := by omega
  have hn3 : n ≤ 3 := by omega
  have v1 : IntKind.i64.wrap ((n : Int) + 1) = (n : Int) + 1 := IntWalk.i64_in _ (by omega)
  have hr128 : ¬ r < 128 := by omega
  rw [← hS]
  clear hv hT e2 e4 el hR hRl hback hSl hS hz hn
  go_enter Tryd.func53, Tryd.ntmps53
  go_wp2_with fail
  refine (HV.out _).mono ?_
  rintro e w' ⟨rfl, rfl⟩
  go_wp2
  go_step3
  go_wp2
  go_loopg [9] 0 (fun g s9 wx => s9 = .int .i64 n ∧ wx = w')
  case atStart => exact ⟨rfl, rfl⟩
  case round =>
    obtain ⟨rfl, rfl⟩ := hrel
    have hlT : (n : Int) < (T.size : Int) := by omega
    clear hnT
    go_wp2
    go_step3
    go_wp2
    go_quiet ((fail))
    have B1 := hid (below_drewN' (B := wr.heap.size) (w := wr) nq)
    generalize wr.drewN nq = w3 at *
    go_wp2
    go_quiet ((go_at_call 70; exact Calls.quiet_of_same (HI.out _)))
    go_wp2
    rw [Exit.noGoto_ret]
    go_wp2
    rw [Exit.noGoto_ret]
    go_ret
    exact ⟨rfl, B1.out.trans (below_drewN' _)⟩
/-- strings.IndexRune of a rune from 128 on among the five signs: none. -/
theorem rune_high (r : Int) (h0 : 128 ≤ r) (w : World) : Calls Tryd.prog 53 #[.string ⟨#[61, 59, 34, 32, 9]⟩, .int .i32 r] w fun e w' => e = .returned (.int .i64 (-1)) ∧ Below w.heap.size w w' := by
  by_cases h1 : r = 65533
  · subst h1; exact rune_err w
  · cases hv : Lib.validRune r with
    | true => exact rune_valid r h0 h1 hv w
    | false => exact rune_wrong r h0 h1 hv w
def fiveL : List UInt8 := [61, 59, 34, 32, 9]
theorem five_high {x : UInt8} (h : 128 ≤ x.toNat) : fiveL.contains x = false := by
  have := all_u8 (fun c => decide (c.toNat < 128) || !fiveL.contains c) (by decide +kernel) x
  simpa [show ¬ x.toNat < 128 from by omega] using this
theorem decode_span (s : ByteArray) (i : Nat) (h : i < s.size) (ha : 128 ≤ (s.get! (i + 0)).toNat) : ∀ d, d < (Utf8.decode s i).2 → i + d < s.size ∧ 128 ≤ (s.get! (i + d)).toNat := by
  have hn : ¬ (s.get! (i + 0)).toNat < 128 := by omega
  have key : ∀ (n : Nat), (Utf8.decode s i).2 ≤ n → (1 < n → i + 1 < s.size ∧ 128 ≤ (s.get! (i + 1)).toNat) → (2 < n → i + 2 < s.size ∧ 128 ≤ (s.get! (i + 2)).toNat) → (3 < n → i + 3 < s.size ∧ 128 ≤ (s.get! (i + 3)).toNat) → n ≤ 4 → ∀ d, d < (Utf8.decode s i).2 → i + d < s.size ∧ 128 ≤ (s.get! (i + d)).toNat := by
    intro n hle h1 h2 h3 h4 d hd
    match d with
    | 0 => exact ⟨h, ha⟩
    | 1 => exact h1 (by omega)
    | 2 => exact h2 (by omega)
    | 3 => exact h3 (by omega)
    | d + 4 => omega
  have cont : ∀ k, (decide (i + k < s.size) && (s.get! (i + k)).toNat / 64 == 2) = true → i + k < s.size ∧ 128 ≤ (s.get! (i + k)).toNat := fun k hk => by
    simp at hk
    exact ⟨hk.1, by omega⟩
  by_cases c1 : ((s.get! (i + 0)).toNat / 32 == 6 && (decide (i + 1 < s.size) && (s.get! (i + 1)).toNat / 64 == 2)) = true
  · refine key 2 ?_ (fun _ => cont 1 (by simp at c1 ⊢; exact c1.2)) (by omega) (by omega) (by omega)
    simp only [Utf8.decode, hn, if_false, c1, if_true]
    repeat' split
    all_goals first | contradiction | decide | simp_all
  · by_cases c2 : ((s.get! (i + 0)).toNat / 16 == 14 && (decide (i + 1 < s.size) && (s.get! (i + 1)).toNat / 64 == 2) && (decide (i + 2 < s.size) && (s.get! (i + 2)).toNat / 64 == 2)) = true
    · refine key 3 ?_ (fun _ => cont 1 (by simp at c2 ⊢; exact c2.1.2)) (fun _ => cont 2 (by simp at c2 ⊢; exact c2.2)) (by omega) (by omega)
      simp only [Utf8.decode, hn, if_false, c1, c2, if_true]
      repeat' split
      all_goals first | contradiction | decide | simp_all
    · by_cases c3 : ((s.get! (i + 0)).toNat / 8 == 30 && (decide (i + 1 < s.size) && (s.get! (i + 1)).toNat / 64 == 2) && (decide (i + 2 < s.size) && (s.get! (i + 2)).toNat / 64 == 2) && (decide (i + 3 < s.size) && (s.get! (i + 3)).toNat / 64 == 2)) = true
      · refine key 4 ?_ (fun _ => cont 1 (by simp at c3 ⊢; exact c3.1.1.2)) (fun _ => cont 2 (by simp at c3 ⊢; exact c3.1.2)) (fun _ => cont 3 (by simp at c3 ⊢; exact c3.2)) (by omega)
        simp only [Utf8.decode, hn, if_false, c1, c2, c3, if_true]
        repeat' split
        all_goals first | contradiction | decide | simp_all
      · refine key 1 ?_ (by omega) (by omega) (by omega) (by omega)
        simp only [Utf8.decode, hn, if_false, c1, c2, c3]
        simp
/-- Bytes from 128 on are no signs. -/
theorem noAny_rune {s : ByteArray} {i : Nat} (h : Lib.NoAny s.data.toList fiveL i) (hi : i < s.size) (hx : 128 ≤ (s[i]'hi).toNat) : Lib.NoAny s.data.toList fiveL (i + (Utf8.decode s i).2) ∧ i + (Utf8.decode s i).2 ≤ s.size ∧ 1 ≤ (Utf8.decode s i).2 := by
  have h1 := (Go.decode_high s i hi hx).2
  have hs := decode_span s i hi (by rw [Go.get_at s i hi]; exact hx)
  refine ⟨?_, ?_, h1⟩
  · intro j b hj hb
    by_cases hji : j < i
    · exact h j b hji hb
    · obtain ⟨h2, h3⟩ := hs (j - i) (by omega)
      have e : i + (j - i) = j := by omega
      rw [e] at h2 h3
      refine five_high ?_
      have := Lib.data_getElem? s j h2
      rw [this] at hb
      injection hb with hb
      rw [← hb]
      have hg := Go.get_at s j h2
      rw [Nat.add_zero] at hg
      rw [← hg]; exact h3
  · have := (hs ((Utf8.decode s i).2 - 1) (by omega)).1
    omega
/-- The iterator over s, made by the call, stands at i; of the old blocks none has turned. -/
def Iter (w : World) (s : ByteArray) (i : Nat) (wx : World) : Prop := wx.heap[w.heap.size]? = some (.stringIter s i) ∧ Below w.heap.size w wx
theorem Iter.step {w wx : World} {s : ByteArray} {i : Nat} (h : Iter w s i wx) (j : Nat) : Iter w s j (wx.iterAt w.heap.size s j) := by
  refine ⟨iterAt_heap wx _ s i j h.1, h.2.os, h.2.tape, h.2.output, by simpa [World.iterAt] using h.2.size, fun k hk => ?_⟩
  have := h.2.block k hk
  rw [← this]
  simp [World.iterAt, Array.getElem?_setIfInBounds]
  omega
theorem Iter.more {w wx w2 : World} {s : ByteArray} {i : Nat} (h : Iter w s i wx) (hb : Below wx.heap.size wx w2) : Iter w s i w2 :=
  ⟨(hb.block _ (Array.getElem?_eq_some_iff.1 h.1).1).trans h.1, below_chain h.2 hb⟩
set_option maxHeartbeats 8000000 in
set_option maxRecDepth 1000000 in
theorem index_short (s : ByteArray) (w : World) (h8 : s.size ≤ 8) :
    Calls Tryd.prog 39 #[.string s, .string ⟨#[61, 59, 34, 32, 9]⟩] w fun e w' => e = .returned (.int .i64 (Lib.indexAny s.data.toList fiveL)) ∧ Below w.heap.size w w' := by
  have HR := hid (fun r h w => rune_high r h w)
  have HS := hid (fun w => Tryd.strings_shouldUseASCIISet (s.size : Int) w)
  have h8z : decide ((8 : Int) < (s.size : Int)) = false := decide_eq_false (by omega)
  rw [h8z] at HS
  have hfl : (⟨#[61, 59, 34, 32, 9]⟩ : ByteArray).data.toList = fiveL := rfl
  have HF := hid hfl
  clear hfl
  go_enter Tryd.func39, Tryd.ntmps39
  go_wp2_with fail
  refine (HS.out _).mono ?_
  rintro e w' ⟨rfl, hw⟩
  rw [hw]
  clear hw
  go_wp2
  have hb0 : Below w.heap.size w (w.iter s 0) := below_iter _ _ _
  have hi0 : (w.iter s 0).heap[w.heap.size]? = some (.stringIter s 0) := World.iter_heap _ _ _
  have B0 := hid hb0
  have I0 := hid hi0
  clear hb0 hi0
  generalize w.iter s 0 = w0 at *
  go_loopg [9, 10] s.size (fun g _ _ wx => ∃ i : Nat, i + g = s.size ∧ Iter w s i wx ∧ Lib.NoAny s.data.toList fiveL i)
  case atStart => exact ⟨0, by omega, ⟨I0.out, B0.out⟩, Lib.NoAny.zero _ _⟩
  case round =>
    obtain ⟨i, hig, hit, hno⟩ := hrel
    have HN := hid hno
    have HT := hid hit
    have hk : wr.heap[w.heap.size]? = some (.stringIter s i) := hit.1
    clear hno hit
    by_cases hi : i < s.size
    · obtain ⟨x, hx⟩ : ∃ x : UInt8, s[i]'hi = x := ⟨_, rfl⟩
      have hxl : s.data.toList[i]? = some x := by rw [← hx]; exact Lib.data_getElem? s i hi
      by_cases hx128 : x.toNat < 128
      · have hnx := fun ty => run_next_ascii_at (P := Tryd.prog) wr w.heap.size s i ty hk hi (by rw [hx]; exact hx128)
        rw [hx] at hnx
        have Hx := hid hxl
        have H2 := hid (HT.out.step (i + 1))
        have hk2 := hid (iterAt_heap wr w.heap.size s i (i + 1) hk)
        have hback : ((x.toNat : Int)).toNat.toUInt8 = x := by simp
        have hcon := Lib.contains_iff_indexByte fiveL x
        have HRA := hid (fun w => (Tryd.strings_IndexRune_ascii ⟨#[61, 59, 34, 32, 9]⟩ (x.toNat : Int) w (by omega) (by omega)))
        rw [hback, HF.out] at HRA
        clear hxl hx hback hk
        generalize wr.iterAt w.heap.size s (i + 1) = w1 at *
        cases hin : fiveL.contains x
        · rw [hin] at hcon
          have hlt : ¬ ((0 : Int) ≤ Lib.indexByte fiveL x) := of_decide_eq_false hcon.symm
          have Hin := hid hin
          clear hcon hin
          go_wp2_with fail
          refine (HRA.out _).mono ?_
          rintro e w2 ⟨rfl, hw⟩
          rw [hw]
          clear hw
          go_wp2
          go_roundg (s.size - (i + 1))
          case measure => omega
          case rel => exact ⟨i + 1, by omega, H2.out, HN.out.succ Hx.out Hin.out⟩
        · rw [hin] at hcon
          have hge : (0 : Int) ≤ Lib.indexByte fiveL x := of_decide_eq_true hcon.symm
          have Hin := hid hin
          clear hcon hin
          go_wp2_with fail
          refine (HRA.out _).mono ?_
          rintro e w2 ⟨rfl, hw⟩
          rw [hw]
          clear hw
          go_wp2
          go_ret
          exact ⟨by rw [Lib.indexAny_hit HN.out Hx.out Hin.out]; rfl, H2.out.2⟩
      · have hr := noAny_rune HN.out hi (by rw [hx]; omega)
        obtain ⟨n1, n2, n3⟩ := hr
        have hrn := (Go.decode_high s i hi (by rw [hx]; omega)).1
        have hnx := fun ty => run_next_any_at (P := Tryd.prog) wr w.heap.size s i ty hk hi
        obtain ⟨q, hq⟩ : ∃ q : Nat, q = (Utf8.decode s i).1 := ⟨_, rfl⟩
        obtain ⟨j, hj⟩ : ∃ j : Nat, j = i + (Utf8.decode s i).2 := ⟨_, rfl⟩
        rw [← hq] at hrn hnx
        rw [← hj] at hnx n1 n2
        have hij : i + 1 ≤ j := by omega
        have H2 := hid (HT.out.step j)
        have N1 := hid n1
        have HRq := hid (fun w => HR.out (q : Int) (by omega) w)
        clear hxl hx hk n1 hq hj n3 hx128
        generalize wr.iterAt w.heap.size s j = w1 at *
        go_wp2_with fail
        refine (HRq.out _).mono ?_
        rintro e w2 ⟨rfl, hb2⟩
        have H3 := hid (H2.out.more hb2)
        clear hb2
        go_wp2
        go_roundg (s.size - j)
        case measure => omega
        case rel => exact ⟨j, by omega, H3.out, N1.out⟩
    · obtain rfl : i = s.size := by omega
      have hnx := fun ty => run_next_end_at (P := Tryd.prog) wr w.heap.size s s.size ty hk (by omega)
      clear hk
      go_wp2
      go_ret
      exact ⟨by rw [Lib.indexAny_none (by rw [← Lib.size_eq]; exact HN.out)]; rfl, HT.out.2⟩
theorem index_five (s : ByteArray) (hs : s.size ≤ 16777216) (w : World) :
    Calls Tryd.prog 39 #[.string s, .string ⟨#[61, 59, 34, 32, 9]⟩] w fun e w' => e = .returned (.int .i64 (Lib.indexAny s.data.toList fiveL)) ∧ Below w.heap.size w w' := by
  by_cases h8 : s.size ≤ 8
  · exact index_short s w h8
  · have h116 : (Tryd.prog.info? (Tryd.lays153_ren.t 116)).map (fun i => (i.zero, i.size)) = some (some (.agg (Array.replicate 256 (.bool false))), 256) := by kernel_rfl
    refine (Any.strings_IndexAny_long Tryd.lays153 (zero_of_info h116).1 (zero_of_info h116).2 s ⟨#[61, 59, 34, 32, 9]⟩ w (by decide) (by omega) (by omega) (by decide) (fun j b h => ?_)).mono ?_
    · have hm : b ∈ fiveL := List.mem_of_getElem? h
      have : ∀ b ∈ fiveL, b.toNat < 128 := by decide
      exact this b hm
    · rintro e w' ⟨he, rfl⟩
      exact ⟨he, ((Below.refl _ _).alloc (Nat.le_refl _) _).alloc (by simp) _⟩
end Go.Proofs.YtnmdcbneoipllaaDoor
