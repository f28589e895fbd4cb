/- Walks: strconv.ParseUint at base 16 and 8, 64 bits, of digits alone. Printed by wip/gen_pu64.py. -/
import Derived.Test.YtiookngmgednjaaDoorShelf
import Derived.Test.YtiookngmgednjaaDoorBase
import Derived.Test.YtiookngmgednjaaDoorSpec04b
import Derived.Lib.ParseIntBMem
import Derived.Laws.Strings3
import Derived.Laws.Closers25
import Derived.Laws.Closers25b
namespace Go.Proofs.YtiookngmgednjaaDoor
open Go.RowKit Go.Lib Go.Proofs.Foot

/-- What ParseUint reckons of digits by base b, below M, a number having been read. -/
def puF (M b : Nat) (acc : Nat) : List UInt8 → NumEnd Nat
  | [] => .ok acc
  | c :: r => if M ≤ acc * b + (hexI c).toNat then .range else puF M b (acc * b + (hexI c).toNat) r
theorem puF_eq {M b : Nat} (hb : 1 ≤ b) (l : List UInt8) : ∀ acc, acc < M → puF M b acc l = if valB b acc l < M then .ok (valB b acc l) else .range := by
  induction l with
  | nil => intro acc h; rw [valB_nil, if_pos h]; rfl
  | cons c l ih =>
    intro acc h
    rw [puF, valB_cons]
    by_cases h1 : M ≤ acc * b + (hexI c).toNat
    · rw [if_pos h1, if_neg (by have := valB_ge hb l (acc * b + (hexI c).toNat); omega)]
    · rw [if_neg h1]; exact ih _ (by omega)
/-- The letters, in small: a digit of base 16 that is no digit of base 10. -/
theorem hexI_let4 (c : UInt8) (h : ¬ (48 ≤ c.toNat ∧ c.toNat ≤ 57)) (ho : okB 16 c = true) : 97 ≤ bits .or .u8 (c.toNat : Int) 32 ∧ bits .or .u8 (c.toNat : Int) 32 ≤ 102 ∧ hexI c = bits .or .u8 (c.toNat : Int) 32 - 87 ∧ ((c.toNat : Int) == 95) = false := by
  have := all_u8 (fun c => decide ((48 ≤ c.toNat ∧ c.toNat ≤ 57) ∨ ¬ okB 16 c = true ∨ (97 ≤ bits .or .u8 (c.toNat : Int) 32 ∧ bits .or .u8 (c.toNat : Int) 32 ≤ 102 ∧ hexI c = bits .or .u8 (c.toNat : Int) 32 - 87 ∧ ((c.toNat : Int) == 95) = false))) (by decide +kernel) c
  simp only [decide_eq_true_eq] at this
  rcases this with h' | h' | h'
  · exact absurd h' h
  · exact absurd ho h'
  · exact h'
theorem ok8 {c : UInt8} (h : okB 8 c = true) : 48 ≤ c.toNat ∧ c.toNat ≤ 55 := by
  have := all_u8 (fun c => decide (¬ okB 8 c = true ∨ (48 ≤ c.toNat ∧ c.toNat ≤ 55))) (by decide +kernel) c
  simp only [decide_eq_true_eq] at this
  rcases this with h' | h'
  · exact absurd h h'
  · exact h'
theorem hexI_dig4 {c : UInt8} (h : 48 ≤ c.toNat ∧ c.toNat ≤ 57) : hexI c = (c.toNat : Int) - 48 := if_pos h
set_option maxHeartbeats 8000000 in
set_option maxRecDepth 100000 in
theorem parseIn16 (t : ByteArray) (hne : t.size ≠ 0) (hmax : t.size ≤ 9223372036854775806) (hok : ∀ c ∈ t.data.toList, okB 16 c = true) (w : World) :
    Calls Tryd.prog 84 #[.string t, .int .i64 16, .int .i64 64] w fun e w' => e = .returned (Lib.uintTupleM 119 18446744073709551615 (puF 18446744073709551616 16 0 t.data.toList)) ∧ w' = Lib.bytesWorld w 5 t := by
  have hemp : t.toList.isEmpty = false := by
    rw [← decide_eq_emptyBytes]
    exact decide_eq_false (fun h => hne (by rw [h]; rfl))
  have hcv := Lib.run_convert_string_bytes (P := Tryd.prog) w 9 42 5 t (u := .string) Tryd.underlying9 Tryd.underlying42 Tryd.underlying5
  have hB : ∀ j, j < t.size → (Lib.bytesWorld w 5 t).cell? ⟨w.heap.size, j, none⟩ = some (.int .u8 (t.data.toList.getD j 0).toNat) := fun j hj => Lib.bytesWorld_cell w 5 t j hj
  obtain ⟨W1, hW1⟩ : ∃ W1, W1 = Lib.bytesWorld w 5 t := ⟨_, rfl⟩
  rw [← hW1] at hcv hB ⊢
  clear hW1
  obtain ⟨bs, hL⟩ : ∃ bs, bs = t.data.toList := ⟨_, rfl⟩
  have hLn : bs.length = t.size := by rw [hL, Lib.size_eq]
  rw [← hL] at hB hok ⊢
  clear hL
  have Hok := hid hok
  clear hok
  have hmv : IntKind.u64.wrap (IntKind.u64.wrap 18446744073709551616 - 1) = 18446744073709551615 := by
    rw [IntKind.wrap_u64, IntKind.wrap_u64]
    decide
  go_enter Tryd.func84, Tryd.ntmps84
  go_wp2
  go_loop [12, 13, 101] (fun vu vn vi => ∃ (k acc : Nat) (a : Int), vu = .bool false ∧ vn = .int .u64 a ∧ vi = .int .i64 k ∧ k ≤ t.size ∧ Hid (a = (acc : Int) ∧ acc < 18446744073709551616 ∧ puF 18446744073709551616 16 0 bs = puF 18446744073709551616 16 acc (bs.drop k)))
    (fun _ _ vi => t.size - (RowKit.intOf vi).toNat)
  case atStart => exact ⟨0, 0, 0, rfl, rfl, rfl, by omega, hid ⟨rfl, by omega, rfl⟩⟩
  case round =>
    obtain ⟨k, acc, a, rfl, rfl, rfl, hk, hh⟩ := hrel
    obtain ⟨ha, hacc, hdec⟩ := hh.out
    clear hh
    have a0 : 0 ≤ a := by omega
    have a1 : a < 18446744073709551616 := by omega
    by_cases hkn : k < t.size
    · have hc := hB k hkn
      have hdrop : bs.drop k = bs[k]'(by omega) :: bs.drop (k + 1) := List.drop_eq_getElem_cons (by omega)
      have hget : bs.getD k 0 = bs[k]'(by omega) := by simp [List.getD, List.getElem?_eq_getElem (show k < bs.length by omega)]
      have hoc := Hok.out (bs[k]'(by omega)) (List.getElem_mem _)
      rw [hdrop] at hdec
      rw [hget] at hc
      generalize bs[k]'(by omega) = c at hc hdec hoc
      have hc256 : c.toNat < 256 := c.toNat_lt
      clear hB hdrop hget
      by_cases hdig : 48 ≤ c.toNat ∧ c.toNat ≤ 57
      · have hx := hexI_dig4 hdig
        obtain ⟨hd0, hd1⟩ := hdig
        have h95 : ((c.toNat : Int) == 95) = false := by rw [beq_eq_false_iff_ne]; omega
        have hxn : (hexI c).toNat = c.toNat - 48 := by rw [hx]; omega
        by_cases hov : 1152921504606846976 ≤ acc
        · have hF : puF 18446744073709551616 16 acc (c :: bs.drop (k + 1)) = .range := by rw [puF, if_pos (by omega)]
          rw [hF] at hdec
          have icut : 1152921504606846976 ≤ a := by omega
          clear hacc hF hov ha hx hxn
          go_wp2
          go_ret2
          first | exact ⟨rfl, rfl⟩ | exact ⟨by rw [hdec]; rfl, rfl⟩
        · have hF : puF 18446744073709551616 16 acc (c :: bs.drop (k + 1)) = puF 18446744073709551616 16 (acc * 16 + (c.toNat - 48)) (bs.drop (k + 1)) := by rw [puF, if_neg (by omega), hxn]
          have HN : Hid (a * 16 + ((c.toNat : Int) - 48) = ((acc * 16 + (c.toNat - 48) : Nat) : Int) ∧ acc * 16 + (c.toNat - 48) < 18446744073709551616 ∧ puF 18446744073709551616 16 0 bs = puF 18446744073709551616 16 (acc * 16 + (c.toNat - 48)) (bs.drop (k + 1))) := Lib.hid ⟨by omega, by omega, hdec.trans hF⟩
          have icut : a < 1152921504606846976 := by omega
          have iov : a * 16 + ((c.toNat : Int) - 48) < 18446744073709551616 := by omega
          clear hacc hF hov hdec ha hx hxn
          go_wp2
          refine ⟨⟨k + 1, acc * 16 + (c.toNat - 48), a * 16 + ((c.toNat : Int) - 48), rfl, (by first | rfl | (congr 1; omega)), (by first | rfl | (congr 1; omega)), by omega, HN⟩, by simp [RowKit.intOf]; omega⟩
      · obtain ⟨l0, l1, hx, h95⟩ := hexI_let4 c hdig hoc
        have hlow := fun w => Tryd.internal_strconv_lower (c.toNat : Int) w
        have hv0 := bits_lo_u8 .or (c.toNat : Int) 32
        have hv1 := bits_hi_u8 .or (c.toNat : Int) 32
        generalize bits .or .u8 (c.toNat : Int) 32 = v at l0 l1 hx hlow hv0 hv1
        have Hlow := hid hlow
        have hxn : (hexI c).toNat = (v - 87).toNat := by rw [hx]
        have hnd : ¬ (48 ≤ (c.toNat : Int) ∧ (c.toNat : Int) ≤ 57) := by omega
        clear hlow
        by_cases hov : 1152921504606846976 ≤ acc
        · have hF : puF 18446744073709551616 16 acc (c :: bs.drop (k + 1)) = .range := by rw [puF, if_pos (by omega)]
          rw [hF] at hdec
          have icut : 1152921504606846976 ≤ a := by omega
          clear hacc hF hov ha hx hxn hdig
          go_wp2_with (go_at_call 96; refine (Hlow.out _).mono ?_; rintro e w' ⟨rfl, rfl⟩)
          all_goals go_ret2
          all_goals first | exact ⟨rfl, rfl⟩ | exact ⟨by rw [hdec]; rfl, rfl⟩
        · have hF : puF 18446744073709551616 16 acc (c :: bs.drop (k + 1)) = puF 18446744073709551616 16 (acc * 16 + (v - 87).toNat) (bs.drop (k + 1)) := by rw [puF, if_neg (by omega), hxn]
          have HN : Hid (a * 16 + (v - 97 + 10) = ((acc * 16 + (v - 87).toNat : Nat) : Int) ∧ acc * 16 + (v - 87).toNat < 18446744073709551616 ∧ puF 18446744073709551616 16 0 bs = puF 18446744073709551616 16 (acc * 16 + (v - 87).toNat) (bs.drop (k + 1))) := Lib.hid ⟨by omega, by omega, hdec.trans hF⟩
          have icut : a < 1152921504606846976 := by omega
          have iov : a * 16 + (v - 97 + 10) < 18446744073709551616 := by omega
          clear hacc hF hov hdec ha hx hxn hdig
          go_wp2_with (go_at_call 96; refine (Hlow.out _).mono ?_; rintro e w' ⟨rfl, rfl⟩)
          all_goals refine ⟨⟨k + 1, acc * 16 + (v - 87).toNat, a * 16 + (v - 97 + 10), rfl, (by first | rfl | (congr 1; omega)), (by first | rfl | (congr 1; omega)), by omega, HN⟩, by simp [RowKit.intOf]; omega⟩
    · have hkk : k = t.size := by omega
      subst hkk
      have hF : puF 18446744073709551616 16 acc (bs.drop t.size) = .ok acc := by rw [List.drop_eq_nil_of_le (by omega)]; rfl
      rw [hF] at hdec
      subst ha
      clear hacc hF a0 a1
      go_wp2
      go_ret2
      exact ⟨rfl, rfl⟩
set_option maxHeartbeats 8000000 in
set_option maxRecDepth 100000 in
theorem parseIn8 (t : ByteArray) (hne : t.size ≠ 0) (hmax : t.size ≤ 9223372036854775806) (hok : ∀ c ∈ t.data.toList, okB 8 c = true) (w : World) :
    Calls Tryd.prog 84 #[.string t, .int .i64 8, .int .i64 64] w fun e w' => e = .returned (Lib.uintTupleM 119 18446744073709551615 (puF 18446744073709551616 8 0 t.data.toList)) ∧ w' = Lib.bytesWorld w 5 t := by
  have hemp : t.toList.isEmpty = false := by
    rw [← decide_eq_emptyBytes]
    exact decide_eq_false (fun h => hne (by rw [h]; rfl))
  have hcv := Lib.run_convert_string_bytes (P := Tryd.prog) w 9 42 5 t (u := .string) Tryd.underlying9 Tryd.underlying42 Tryd.underlying5
  have hB : ∀ j, j < t.size → (Lib.bytesWorld w 5 t).cell? ⟨w.heap.size, j, none⟩ = some (.int .u8 (t.data.toList.getD j 0).toNat) := fun j hj => Lib.bytesWorld_cell w 5 t j hj
  obtain ⟨W1, hW1⟩ : ∃ W1, W1 = Lib.bytesWorld w 5 t := ⟨_, rfl⟩
  rw [← hW1] at hcv hB ⊢
  clear hW1
  obtain ⟨bs, hL⟩ : ∃ bs, bs = t.data.toList := ⟨_, rfl⟩
  have hLn : bs.length = t.size := by rw [hL, Lib.size_eq]
  rw [← hL] at hB hok ⊢
  clear hL
  have Hok := hid hok
  clear hok
  have hmv : IntKind.u64.wrap (IntKind.u64.wrap 18446744073709551616 - 1) = 18446744073709551615 := by
    rw [IntKind.wrap_u64, IntKind.wrap_u64]
    decide
  go_enter Tryd.func84, Tryd.ntmps84
  go_wp2
  go_loop [12, 13, 101] (fun vu vn vi => ∃ (k acc : Nat) (a : Int), vu = .bool false ∧ vn = .int .u64 a ∧ vi = .int .i64 k ∧ k ≤ t.size ∧ Hid (a = (acc : Int) ∧ acc < 18446744073709551616 ∧ puF 18446744073709551616 8 0 bs = puF 18446744073709551616 8 acc (bs.drop k)))
    (fun _ _ vi => t.size - (RowKit.intOf vi).toNat)
  case atStart => exact ⟨0, 0, 0, rfl, rfl, rfl, by omega, hid ⟨rfl, by omega, rfl⟩⟩
  case round =>
    obtain ⟨k, acc, a, rfl, rfl, rfl, hk, hh⟩ := hrel
    obtain ⟨ha, hacc, hdec⟩ := hh.out
    clear hh
    have a0 : 0 ≤ a := by omega
    have a1 : a < 18446744073709551616 := by omega
    by_cases hkn : k < t.size
    · have hc := hB k hkn
      have hdrop : bs.drop k = bs[k]'(by omega) :: bs.drop (k + 1) := List.drop_eq_getElem_cons (by omega)
      have hget : bs.getD k 0 = bs[k]'(by omega) := by simp [List.getD, List.getElem?_eq_getElem (show k < bs.length by omega)]
      have hoc := Hok.out (bs[k]'(by omega)) (List.getElem_mem _)
      rw [hdrop] at hdec
      rw [hget] at hc
      generalize bs[k]'(by omega) = c at hc hdec hoc
      have hc256 : c.toNat < 256 := c.toNat_lt
      clear hB hdrop hget
      have hdig8 := ok8 hoc
      have hdig : 48 ≤ c.toNat ∧ c.toNat ≤ 57 := by omega
      have hx := hexI_dig4 hdig
      obtain ⟨hd0, hd1⟩ := hdig8
      have h95 : ((c.toNat : Int) == 95) = false := by rw [beq_eq_false_iff_ne]; omega
      have hxn : (hexI c).toNat = c.toNat - 48 := by rw [hx]; omega
      by_cases hov : 2305843009213693952 ≤ acc
      · have hF : puF 18446744073709551616 8 acc (c :: bs.drop (k + 1)) = .range := by rw [puF, if_pos (by omega)]
        rw [hF] at hdec
        have icut : 2305843009213693952 ≤ a := by omega
        clear hacc hF hov ha hx hxn
        go_wp2
        go_ret2
        first | exact ⟨rfl, rfl⟩ | exact ⟨by rw [hdec]; rfl, rfl⟩
      · have hF : puF 18446744073709551616 8 acc (c :: bs.drop (k + 1)) = puF 18446744073709551616 8 (acc * 8 + (c.toNat - 48)) (bs.drop (k + 1)) := by rw [puF, if_neg (by omega), hxn]
        have HN : Hid (a * 8 + ((c.toNat : Int) - 48) = ((acc * 8 + (c.toNat - 48) : Nat) : Int) ∧ acc * 8 + (c.toNat - 48) < 18446744073709551616 ∧ puF 18446744073709551616 8 0 bs = puF 18446744073709551616 8 (acc * 8 + (c.toNat - 48)) (bs.drop (k + 1))) := Lib.hid ⟨by omega, by omega, hdec.trans hF⟩
        have icut : a < 2305843009213693952 := by omega
        have iov : a * 8 + ((c.toNat : Int) - 48) < 18446744073709551616 := by omega
        clear hacc hF hov hdec ha hx hxn
        go_wp2
        refine ⟨⟨k + 1, acc * 8 + (c.toNat - 48), a * 8 + ((c.toNat : Int) - 48), rfl, (by first | rfl | (congr 1; omega)), (by first | rfl | (congr 1; omega)), by omega, HN⟩, by simp [RowKit.intOf]; omega⟩
    · have hkk : k = t.size := by omega
      subst hkk
      have hF : puF 18446744073709551616 8 acc (bs.drop t.size) = .ok acc := by rw [List.drop_eq_nil_of_le (by omega)]; rfl
      rw [hF] at hdec
      subst ha
      clear hacc hF a0 a1
      go_wp2
      go_ret2
      exact ⟨rfl, rfl⟩
set_option maxRecDepth 100000 in
theorem parse16_ok (t : ByteArray) (hne : t.size ≠ 0) (hmax : t.size ≤ 281474976710656) (hok : ∀ c ∈ t.data.toList, okB 16 c = true) (n : Nat) (hn : valB 16 0 t.data.toList = n) (h : n < 18446744073709551616) (w : World) :
    Calls Tryd.prog 67 #[.string t, .int .i64 16, .int .i64 64] w fun e w' => e = .returned (.tuple #[.int .u64 n, .nilIface]) ∧ Below w.heap.size w w' := by
  have hI := parseIn16 t hne (by omega) hok w
  rw [puF_eq (by decide) _ 0 (by decide), hn, if_pos h] at hI
  have HI : Hid (Calls Tryd.prog 84 #[.string t, .int .i64 16, .int .i64 64] w fun e w' => e = .returned (.tuple #[.int .u64 n, .nilIface]) ∧ w' = Lib.bytesWorld w 5 t) := hid hI
  clear hI hn hok h hne
  go_enter Tryd.func67, Tryd.ntmps67
  go_wp2_with (go_at_call 84; refine HI.out.mono ?_; rintro e w1 ⟨rfl, rfl⟩)
  go_ret2
  exact ⟨rfl, Lib.bytesWorld_below w _ t⟩
set_option maxRecDepth 100000 in
theorem parse16_great (t : ByteArray) (hne : t.size ≠ 0) (hmax : t.size ≤ 281474976710656) (hok : ∀ c ∈ t.data.toList, okB 16 c = true) (h : ¬ valB 16 0 t.data.toList < 18446744073709551616) (w : World) (ev : Value) (hv : w.cell? ⟨7, 0, none⟩ = some ev) (hev : ev = .nilIface ∨ ∃ te pe, ev = .iface te pe) :
    Calls Tryd.prog 67 #[.string t, .int .i64 16, .int .i64 64] w fun e w' => ∃ N, e = .returned (.tuple #[.int .u64 18446744073709551615, .iface 121 (.pointer (some ⟨N, 0, none⟩))]) ∧ Below w.heap.size w w' := by
  have hI := parseIn16 t hne (by omega) hok w
  rw [puF_eq (by decide) _ 0 (by decide), if_neg h] at hI
  have HI : Hid (Calls Tryd.prog 84 #[.string t, .int .i64 16, .int .i64 64] w fun e w' => e = .returned (.tuple #[.int .u64 18446744073709551615, .iface 119 (.int .i64 1)]) ∧ w' = Lib.bytesWorld w 5 t) := hid hI
  have hb := Lib.bytesWorld_below w 5 t
  have HT := hid (Tryd.strconv_toError_range ⟨#[80, 97, 114, 115, 101, 85, 105, 110, 116]⟩ t 16 64 ev (Lib.bytesWorld w 5 t) hmax ((hb.cell (Lib.lt_of_cell hv)).trans hv) hev)
  have Hb := hid hb
  clear hI hok h hne hb hv hev
  go_enter Tryd.func67, Tryd.ntmps67
  go_wp2_with (first
    | (go_at_call 84; refine HI.out.mono ?_; rintro e w1 ⟨rfl, rfl⟩)
    | (go_at_call 85; refine HT.out.mono ?_; rintro e w2 ⟨N, rfl, -, -, hb2⟩))
  go_ret2
  exact ⟨N, rfl, below_chain Hb.out hb2⟩
set_option maxRecDepth 100000 in
theorem parse8_ok (t : ByteArray) (hne : t.size ≠ 0) (hmax : t.size ≤ 281474976710656) (hok : ∀ c ∈ t.data.toList, okB 8 c = true) (n : Nat) (hn : valB 8 0 t.data.toList = n) (h : n < 18446744073709551616) (w : World) :
    Calls Tryd.prog 67 #[.string t, .int .i64 8, .int .i64 64] w fun e w' => e = .returned (.tuple #[.int .u64 n, .nilIface]) ∧ Below w.heap.size w w' := by
  have hI := parseIn8 t hne (by omega) hok w
  rw [puF_eq (by decide) _ 0 (by decide), hn, if_pos h] at hI
  have HI : Hid (Calls Tryd.prog 84 #[.string t, .int .i64 8, .int .i64 64] w fun e w' => e = .returned (.tuple #[.int .u64 n, .nilIface]) ∧ w' = Lib.bytesWorld w 5 t) := hid hI
  clear hI hn hok h hne
  go_enter Tryd.func67, Tryd.ntmps67
  go_wp2_with (go_at_call 84; refine HI.out.mono ?_; rintro e w1 ⟨rfl, rfl⟩)
  go_ret2
  exact ⟨rfl, Lib.bytesWorld_below w _ t⟩
set_option maxRecDepth 100000 in
theorem parse8_great (t : ByteArray) (hne : t.size ≠ 0) (hmax : t.size ≤ 281474976710656) (hok : ∀ c ∈ t.data.toList, okB 8 c = true) (h : ¬ valB 8 0 t.data.toList < 18446744073709551616) (w : World) (ev : Value) (hv : w.cell? ⟨7, 0, none⟩ = some ev) (hev : ev = .nilIface ∨ ∃ te pe, ev = .iface te pe) :
    Calls Tryd.prog 67 #[.string t, .int .i64 8, .int .i64 64] w fun e w' => ∃ N, e = .returned (.tuple #[.int .u64 18446744073709551615, .iface 121 (.pointer (some ⟨N, 0, none⟩))]) ∧ Below w.heap.size w w' := by
  have hI := parseIn8 t hne (by omega) hok w
  rw [puF_eq (by decide) _ 0 (by decide), if_neg h] at hI
  have HI : Hid (Calls Tryd.prog 84 #[.string t, .int .i64 8, .int .i64 64] w fun e w' => e = .returned (.tuple #[.int .u64 18446744073709551615, .iface 119 (.int .i64 1)]) ∧ w' = Lib.bytesWorld w 5 t) := hid hI
  have hb := Lib.bytesWorld_below w 5 t
  have HT := hid (Tryd.strconv_toError_range ⟨#[80, 97, 114, 115, 101, 85, 105, 110, 116]⟩ t 8 64 ev (Lib.bytesWorld w 5 t) hmax ((hb.cell (Lib.lt_of_cell hv)).trans hv) hev)
  have Hb := hid hb
  clear hI hok h hne hb hv hev
  go_enter Tryd.func67, Tryd.ntmps67
  go_wp2_with (first
    | (go_at_call 84; refine HI.out.mono ?_; rintro e w1 ⟨rfl, rfl⟩)
    | (go_at_call 85; refine HT.out.mono ?_; rintro e w2 ⟨N, rfl, -, -, hb2⟩))
  go_ret2
  exact ⟨N, rfl, below_chain Hb.out hb2⟩
end Go.Proofs.YtiookngmgednjaaDoor
