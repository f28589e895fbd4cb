/- Walk: percent's Encode. -/
import Derived.Test.YtcjjlmjamcmnpaaDoorOf
import Derived.Test.YtcjjlmjamcmnpaaDoorBld
import Derived.Deep.RegionWith
namespace Go.Proofs.YtcjjlmjamcmnpaaDoor
open Go.RowKit Go.Lib Go.Proofs.Foot

theorem shr4 (c : UInt8) : ((c.toNat : Int) / 2 ^ 4) = ((c.toNat / 16 : Nat) : Int) := by omega
theorem and15 (c : UInt8) : bits .and .u8 (c.toNat : Int) 15 = ((c.toNat % 16 : Nat) : Int) := by
  have := all_u8' (fun c => decide (bits .and .u8 (c.toNat : Int) 15 = ((c.toNat % 16 : Nat) : Int))) (by decide +kernel) c
  simpa using this

/-- What the loop of Encode keeps, k bytes having been read: the builder b, the row r of the text's bytes. -/
def EncRel (n : Nat) (l : List UInt8) (w0 : World) (b r : Nat) (k : Nat) (w : World) : Prop :=
  ∃ v, Bld b (encode n (l.take k)) v w ∧ BRow w r 5 l ∧ Below b w0 w ∧ ∀ j, v.ownBlock = some j → r < j

theorem EncRel.step {n : Nat} {l : List UInt8} {w0 w w' : World} {b r k : Nat} {c : UInt8} (hk : k < l.length) (hc : l[k] = c) (hbr : b < r) (hb0 : b ≤ w0.heap.size) {v : Value} (hrow : BRow w r 5 l) (hbel : Below b w0 w) (hv : ∀ j, v.ownBlock = some j → r < j)
    (h : Wrote b (encode n (l.take k) ++ encB n c) v w w') : EncRel n l w0 b r (k + 1) w' := by
  obtain ⟨v', hB, hT, hP⟩ := h
  refine ⟨v', ?_, hT.brow hrow ?_, hbel.trans (hT.below ?_ (by have := hbel.size; omega)), ?_⟩
  · rw [encode_snoc n hk, hc]; exact hB
  · rintro (e | e)
    · omega
    · have := hv r e; omega
  · rintro j (e | e)
    · omega
    · have := hv j e; omega
  · intro j hj
    rcases hP j hj with h | h
    · exact hv j h
    · have := hrow.lt; omega

theorem Wrote.before {b : Nat} {l : List UInt8} {v : Value} {w : World} {o : Obj} {w' : World} (h : Wrote b l v (w.alloc o).drew w') : Wrote b l v w w' := by
  obtain ⟨v', hB, hT, hP⟩ := h
  refine ⟨v', hB, (((Touch.refl (fun k => k = b ∨ v.ownBlock = some k) w).alloc o).drew).trans hT (fun k _ h => h), fun j hj => ?_⟩
  rcases hP j hj with h | h
  · exact .inl h
  · right
    have e : (w.alloc o).drew.heap.size = w.heap.size + 1 := by simp
    omega

theorem write3 (b : Nat) (l : List UInt8) (v : Value) (x y : UInt8) (w : World) (h : Bld b l v w) (hlen : l.length + 3 ≤ 140737488355328) :
    Calls Tryd.prog 22 #[.pointer (some ⟨b, 0, none⟩), .slice (some ⟨w.heap.size, 0, none⟩) 3 3] (w.alloc (.cells #[.int .u8 37, .int .u8 x.toNat, .int .u8 y.toNat] 5)).drew fun e w' => ∃ val, e = .returned val ∧ Wrote b (l ++ [37, x, y]) v w w' := by
  have hB : Bld b l v (w.alloc (.cells #[.int .u8 37, .int .u8 x.toNat, .int .u8 y.toNat] 5)).drew := h.touch (((Touch.refl (fun _ => False) w).alloc _).drew) (fun h => h) (fun _ _ h => h)
  refine (write_any b l v w.heap.size 3 [37, x, y] _ hB hlen (by have := h.lt; omega) ?_ (by simp)).mono ?_
  · intro j c hj
    have e : (w.alloc (.cells #[.int .u8 37, .int .u8 x.toNat, .int .u8 y.toNat] 5)).drew.cell? ⟨w.heap.size, j, none⟩ = (#[Value.int .u8 37, .int .u8 x.toNat, .int .u8 y.toNat] : Array Value)[j]? := World.cell?_alloc_at _ _ _ _ rfl
    rw [e]
    match j, hj with
    | 0, hj => simp only [List.getElem?_cons_zero, Option.some.injEq] at hj; subst hj; rfl
    | 1, hj => simp only [List.getElem?_cons_succ, List.getElem?_cons_zero, Option.some.injEq] at hj; subst hj; rfl
    | 2, hj => simp only [List.getElem?_cons_succ, List.getElem?_cons_zero, Option.some.injEq] at hj; subst hj; rfl
    | j + 3, hj => simp at hj
  · rintro e w' ⟨rfl, hw⟩
    exact ⟨_, rfl, hw.before⟩

theorem digits_at (j : Nat) (h : j < (⟨#[48, 49, 50, 51, 52, 53, 54, 55, 56, 57, 65, 66, 67, 68, 69, 70]⟩ : ByteArray).size) : (⟨#[48, 49, 50, 51, 52, 53, 54, 55, 56, 57, 65, 66, 67, 68, 69, 70]⟩ : ByteArray)[j] = upHex j := by
  have h1 : j < upDigits.length := h
  unfold upHex
  rw [List.getD, List.getElem?_eq_getElem h1]
  rfl

set_option maxHeartbeats 1000000 in
set_option maxRecDepth 100000 in
theorem encodeA_any (s : ByteArray) (n : Nat) (hn : n < 256) (w : World) (hs : s.size ≤ 16777216) :
    Calls Tryd.prog 13 #[.string s, .int .u8 n] w fun e w' => e = .returned (.string ⟨(encode n s.data.toList).toArray⟩) ∧ Below w.heap.size w w' := by
  go_enter Tryd.func13, Tryd.ntmps13
  go_wp2_with fail
  refine (of_any n hn w).mono ?_
  rintro e w1 ⟨v, rfl, hp, hb1⟩
  go_wp2_with (refine wpList_string_bytes rfl 9 32 5 _ rfl s rfl Tryd.underlying9 Tryd.underlying32 Tryd.underlying5 (w1.heap.size + 1) (by simp) ?_; intro w2 cap hrow hb2 hz2 hcap)
  have hR0 : EncRel n s.data.toList w1 w1.heap.size (w1.heap.size + 1) 0 w2 := by
    refine ⟨.slice none 0 0, ?_, hrow, ((Below.refl _ _).alloc (Nat.le_refl _) _).trans (hb2.mono (by omega)), by simp [Value.ownBlock]⟩
    rw [List.take_zero]
    exact (Bld.fresh w1).touch (Touch.of_below (S := fun _ => False) (hb2.mono (by simp))) (fun h => h) (fun _ _ h => h)
  have HR0 := hid hR0
  have Hb1 := hid hb1
  clear hR0 hb1 hb2 hz2 hcap hrow
  unfold OfPost at hp
  by_cases hno : n = 0 ∨ 5 < n
  · rw [if_pos hno] at hp
    subst hp
    go_loopw [14, 8] (fun i _ wr => ∃ k : Nat, k ≤ s.size ∧ i = .int .i64 k ∧ Hid (EncRel n s.data.toList w1 w1.heap.size (w1.heap.size + 1) k wr)) (fun i _ _ => s.size - (intOf i).toNat)
    case atStart => exact ⟨0, Nat.zero_le _, rfl, HR0.out⟩
    case round =>
      obtain ⟨k, hk, rfl, hr⟩ := hrel
      obtain ⟨v, hB, hrow, hbel, hv⟩ := hr.out
      clear hr
      by_cases hlt : k < s.size
      · have hl : k < s.data.toList.length := by simpa using hlt
        obtain ⟨c, hc⟩ : ∃ c : UInt8, s.data.toList[k] = c := ⟨_, rfl⟩
        have hc1 := hrow.cell hl
        rw [hc] at hc1
        have hlenE : (encode n (s.data.toList.take k)).length ≤ 50331648 := by
          have h1 := encode_length n (s.data.toList.take k)
          have h2 : (s.data.toList.take k).length ≤ 16777216 := by simp; omega
          omega
        have HC := hid hc
        have HB := hid hB
        have Hrow := hid hrow
        have Hv := hid hv
        have Hbel := hid hbel
        clear hc hB hrow hv hbel
        have Hh : Hid (hasB n c = false) := hasB_no hno c
        have hw := writeByte_any w1.heap.size (encode n (s.data.toList.take k)) v c wr HB.out (by omega)
        have Hw := hid hw
        clear hw
        go_wp2_with (first
          | (go_at_call 28; refine (of2_any _ _).mono ?_; rintro e w4 ⟨rfl, rfl⟩)
          | (go_at_call 19; refine Hw.out.mono ?_; rintro e w5 ⟨rfl, hwr⟩))
        go_roundw
        case rel => exact ⟨k + 1, by omega, by go_num, EncRel.step hl HC.out (by omega) (Nat.le_refl _) Hrow.out Hbel.out Hv.out (by rw [encB_no Hh.out]; exact hwr)⟩
        case measure => simp [intOf]; omega
      · have e : s.data.toList.take k = s.data.toList := List.take_of_length_le (by simp; omega)
        rw [e] at hB
        have hst := bldString_any w1.heap.size _ v wr hB
        have Hst := hid hst
        have Hfin : Hid (∀ w', Touch (fun k => v.ownBlock = some k) wr w' → Below w.heap.size w w') := fun w' ht =>
          below_chain Hb1.out (hbel.trans (ht.below (fun j hj => by have := hv j hj; omega) hbel.size))
        clear hst hB hrow hv hbel e
        go_wp2_with (go_at_call 17; refine Hst.out.mono ?_; rintro e w4 ⟨rfl, ht⟩)
        go_ret
        exact ⟨rfl, Hfin.out _ ht⟩
  · rw [if_neg hno] at hp
    obtain ⟨rfl, hg⟩ := hp
    have Hg := hid hg
    clear hg
    go_loopw [14, 8] (fun i _ wr => ∃ k : Nat, k ≤ s.size ∧ i = .int .i64 k ∧ Hid (EncRel n s.data.toList w1 w1.heap.size (w1.heap.size + 1) k wr)) (fun i _ _ => s.size - (intOf i).toNat)
    case atStart => exact ⟨0, Nat.zero_le _, rfl, HR0.out⟩
    case round =>
      obtain ⟨k, hk, rfl, hr⟩ := hrel
      obtain ⟨v, hB, hrow, hbel, hv⟩ := hr.out
      clear hr
      by_cases hlt : k < s.size
      · have hl : k < s.data.toList.length := by simpa using hlt
        obtain ⟨c, hc⟩ : ∃ c : UInt8, s.data.toList[k] = c := ⟨_, rfl⟩
        have hc1 := hrow.cell hl
        rw [hc] at hc1
        have hlenE : (encode n (s.data.toList.take k)).length ≤ 50331648 := by
          have h1 := encode_length n (s.data.toList.take k)
          have h2 : (s.data.toList.take k).length ≤ 16777216 := by simp; omega
          omega
        have hga : wr.cell? ⟨w.heap.size, c.toNat, none⟩ = some (.bool (amongB (setL n) c)) := by
          rw [cell_of_row _ _ _ _ _ _ ((hbel.block w.heap.size (Array.getElem?_eq_some_iff.1 Hg.out).1).trans Hg.out)]; exact setCells_at _ _
        have hf3 := of3_any c w.heap.size (amongB (setL n) c) wr hga
        have e3 : (ctl c || amongB (setL n) c) = hasB n c := by unfold hasB; rw [if_neg hno]; rfl
        rw [e3] at hf3
        have Hf3 := hid hf3
        clear hga e3 hf3
        have HC := hid hc
        have HB := hid hB
        have Hrow := hid hrow
        have Hv := hid hv
        have Hbel := hid hbel
        clear hc hB hrow hv hbel
        cases hh : hasB n c with
        | true =>
          rw [hh] at Hf3
          have Hh := hid hh
          clear hh
          have hsh : (c.toNat : Int) < 256 := by have := c.toNat_lt; omega
          have ha := and15 c
          have hw := fun x y => write3 w1.heap.size (encode n (s.data.toList.take k)) v x y wr HB.out (by omega)
          have Hw := hid hw
          clear hw
          go_wp2_with (go_at_call 29; refine Hf3.out.mono ?_; rintro e w4 ⟨rfl, rfl⟩)
          go_region_with (go_at_call 22; refine (Hw.out _ _).mono ?_; rintro e w5 ⟨val, rfl, hwr⟩)
          all_goals go_wp2
          all_goals go_roundw
          all_goals
            have e1 : ((c.toNat : Int) / 16).toNat = c.toNat / 16 := by omega
            have e2 : ((c.toNat : Int) % 16).toNat = c.toNat % 16 := by omega
            rw [digits_at, digits_at, e1, e2, ← encB_yes Hh.out] at hwr
            first
              | exact ⟨k + 1, by omega, by go_num, EncRel.step hl HC.out (by omega) (Nat.le_refl _) Hrow.out Hbel.out Hv.out hwr⟩
              | (simp [intOf]; omega)
        | false =>
          rw [hh] at Hf3
          have Hh := hid hh
          clear hh
          have hw := writeByte_any w1.heap.size (encode n (s.data.toList.take k)) v c wr HB.out (by omega)
          have Hw := hid hw
          clear hw
          go_wp2_with (first
            | (go_at_call 29; refine Hf3.out.mono ?_; rintro e w4 ⟨rfl, rfl⟩)
            | (go_at_call 19; refine Hw.out.mono ?_; rintro e w5 ⟨rfl, hwr⟩))
          go_roundw
          case rel => exact ⟨k + 1, by omega, by go_num, EncRel.step hl HC.out (by omega) (Nat.le_refl _) Hrow.out Hbel.out Hv.out (by rw [encB_no Hh.out]; exact hwr)⟩
          case measure => simp [intOf]; omega
      · have e : s.data.toList.take k = s.data.toList := List.take_of_length_le (by simp; omega)
        rw [e] at hB
        have hst := bldString_any w1.heap.size _ v wr hB
        have Hst := hid hst
        have Hfin : Hid (∀ w', Touch (fun k => v.ownBlock = some k) wr w' → Below w.heap.size w w') := fun w' ht =>
          below_chain Hb1.out (hbel.trans (ht.below (fun j hj => by have := hv j hj; omega) hbel.size))
        clear hst hB hrow hv hbel e
        go_wp2_with (go_at_call 17; refine Hst.out.mono ?_; rintro e w4 ⟨rfl, ht⟩)
        go_ret
        exact ⟨rfl, Hfin.out _ ht⟩
end Go.Proofs.YtcjjlmjamcmnpaaDoor
