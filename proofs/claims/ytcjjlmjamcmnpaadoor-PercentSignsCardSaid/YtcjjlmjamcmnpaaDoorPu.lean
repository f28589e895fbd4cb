/- Walks: strconv.ParseUint at base 16, 8 bits, of two bytes. -/
import Derived.Test.YtcjjlmjamcmnpaaDoorProg
import Derived.Test.YtcjjlmjamcmnpaaDoorShelf
import Derived.Test.YtcjjlmjamcmnpaaDoorBase
import Derived.Test.YtcjjlmjamcmnpaaDoorSpec03b
import Derived.Lib.ParseIntBMem
import Derived.Laws.Strings3
import Derived.Laws.Closers25
import Derived.Laws.Closers25b
namespace Go.Proofs.YtcjjlmjamcmnpaaDoor
open Go.RowKit Go.Lib Go.Proofs.Foot

/-- What ParseUint(s, 16, 8) reckons of bytes, a number having been read. -/
def puHex (acc : Nat) : List UInt8 → NumEnd Nat
  | [] => .ok acc
  | c :: r => if hexI c < 0 then parseMag [] else if 255 < acc * 16 + (hexI c).toNat then .range else puHex (acc * 16 + (hexI c).toNat) r
theorem puHex_two (a b : UInt8) : puHex 0 [a, b] = if pairB a b = true then .ok (pairV a b).toNat else parseMag [] := by
  have ha := hexI_bd a
  have hb := hexI_bd b
  unfold pairB
  by_cases h1 : hexI a < 0
  · have e : decide (0 ≤ hexI a) = false := decide_eq_false (by omega)
    rw [e]; simp [puHex, h1]
  · by_cases h2 : hexI b < 0
    · have e : decide (0 ≤ hexI b) = false := decide_eq_false (by omega)
      rw [e, if_neg (by simp), puHex, if_neg h1, if_neg (by omega), puHex, if_pos h2]
    · rw [if_pos (by simp; omega), puHex, if_neg h1, if_neg (by omega), puHex, if_neg h2, if_neg (by omega), puHex]
      unfold pairV
      rw [UInt8.toNat_ofNat']
      congr 1; omega

theorem hexI_dig {c : UInt8} (h : 48 ≤ c.toNat ∧ c.toNat ≤ 57) : hexI c = (c.toNat : Int) - 48 := if_pos h
/-- The letters, in small. -/
theorem hexI_let (c : UInt8) (h : ¬ (48 ≤ c.toNat ∧ c.toNat ≤ 57)) : (97 ≤ bits .or .u8 (c.toNat : Int) 32 ∧ bits .or .u8 (c.toNat : Int) 32 ≤ 102 ∧ hexI c = bits .or .u8 (c.toNat : Int) 32 - 87) ∨ (hexI c = -1 ∧ ¬ (97 ≤ bits .or .u8 (c.toNat : Int) 32 ∧ bits .or .u8 (c.toNat : Int) 32 ≤ 102)) := by
  have := all_u8' (fun c => decide ((48 ≤ c.toNat ∧ c.toNat ≤ 57) ∨ (97 ≤ bits .or .u8 (c.toNat : Int) 32 ∧ bits .or .u8 (c.toNat : Int) 32 ≤ 102 ∧ hexI c = bits .or .u8 (c.toNat : Int) 32 - 87) ∨ (hexI c = -1 ∧ ¬ (97 ≤ bits .or .u8 (c.toNat : Int) 32 ∧ bits .or .u8 (c.toNat : Int) 32 ≤ 102)))) (by decide +kernel) c
  simp only [decide_eq_true_eq] at this
  rcases this with h' | h' | h'
  · exact absurd h' h
  · exact .inl h'
  · exact .inr h'

set_option maxHeartbeats 8000000 in
set_option maxRecDepth 100000 in
theorem parseIn_any (t : ByteArray) (hne : t.size ≠ 0) (hmax : t.size ≤ 9223372036854775806) (w : World) :
    Calls Tryd.prog 25 #[.string t, .int .i64 16, .int .i64 8] w fun e w' => e = .returned (Lib.uintTupleM 61 255 (puHex 0 t.data.toList)) ∧ w' = Lib.bytesWorld w 5 t := by
  have hemp : t.toList.isEmpty = false := by
    rw [← decide_eq_emptyBytes]
    exact decide_eq_false (fun h => hne (by rw [h]; rfl))
  have hcv := Lib.run_convert_string_bytes (P := Tryd.prog) w 9 32 5 t (u := .string) Tryd.underlying9 Tryd.underlying32 Tryd.underlying5
  have hB : ∀ j, j < t.size → (Lib.bytesWorld w 5 t).cell? ⟨w.heap.size, j, none⟩ = some (.int .u8 (t.data.toList.getD j 0).toNat) := fun j hj => Lib.bytesWorld_cell w 5 t j hj
  obtain ⟨W1, hW1⟩ : ∃ W1, W1 = Lib.bytesWorld w 5 t := ⟨_, rfl⟩
  rw [← hW1] at hcv hB ⊢
  clear hW1
  obtain ⟨bs, hL⟩ : ∃ bs, bs = t.data.toList := ⟨_, rfl⟩
  have hLn : bs.length = t.size := by rw [hL, Lib.size_eq]
  rw [← hL] at hB ⊢
  clear hL
  have hmv : IntKind.u64.wrap (IntKind.u64.wrap 256 - 1) = 255 := by
    rw [IntKind.wrap_u64, IntKind.wrap_u64]
    decide
  go_enter Tryd.func25, Tryd.ntmps25
  go_wp2
  go_loop [12, 13, 101] (fun vu vn vi => ∃ (k acc : Nat) (a : Int), vu = .bool false ∧ vn = .int .u64 a ∧ vi = .int .i64 k ∧ k ≤ t.size ∧ Hid (a = (acc : Int) ∧ acc ≤ 255 ∧ puHex 0 bs = puHex acc (bs.drop k)))
    (fun _ _ vi => t.size - (RowKit.intOf vi).toNat)
  case atStart => exact ⟨0, 0, 0, rfl, rfl, rfl, by omega, hid ⟨rfl, by omega, rfl⟩⟩
  case round =>
    obtain ⟨k, acc, a, rfl, rfl, rfl, hk, hh⟩ := hrel
    obtain ⟨ha, hacc, hdec⟩ := hh.out
    clear hh
    have a0 : 0 ≤ a := by omega
    have a1 : a ≤ 255 := by omega
    by_cases hkn : k < t.size
    · have hc := hB k hkn
      have hdrop : bs.drop k = bs[k]'(by omega) :: bs.drop (k + 1) := List.drop_eq_getElem_cons (by omega)
      have hget : bs.getD k 0 = bs[k]'(by omega) := by simp [List.getD, List.getElem?_eq_getElem (show k < bs.length by omega)]
      rw [hdrop] at hdec
      rw [hget] at hc
      generalize bs[k]'(by omega) = c at hc hdec
      have hc256 : c.toNat < 256 := c.toNat_lt
      clear hB hdrop hget
      by_cases hdig : 48 ≤ c.toNat ∧ c.toNat ≤ 57
      · have hx := hexI_dig hdig
        obtain ⟨hd0, hd1⟩ := hdig
        have h95 : ((c.toNat : Int) == 95) = false := by rw [beq_eq_false_iff_ne]; omega
        by_cases hov : 255 < acc * 16 + (c.toNat - 48)
        · have hF : puHex acc (c :: bs.drop (k + 1)) = .range := by rw [puHex, if_neg (by omega), if_pos (by omega)]
          rw [hF] at hdec
          have iov : 255 < a * 16 + ((c.toNat : Int) - 48) := by omega
          clear hacc hF hov ha hx
          go_wp2
          go_ret2
          exact ⟨rfl, rfl⟩
        · have hF : puHex acc (c :: bs.drop (k + 1)) = puHex (acc * 16 + (c.toNat - 48)) (bs.drop (k + 1)) := by rw [puHex, if_neg (by omega), if_neg (by omega), show (hexI c).toNat = c.toNat - 48 from by omega]
          have HN : Hid (a * 16 + ((c.toNat : Int) - 48) = ((acc * 16 + (c.toNat - 48) : Nat) : Int) ∧ acc * 16 + (c.toNat - 48) ≤ 255 ∧ puHex 0 bs = puHex (acc * 16 + (c.toNat - 48)) (bs.drop (k + 1))) := Lib.hid ⟨by omega, by omega, hdec.trans hF⟩
          have iov : a * 16 + ((c.toNat : Int) - 48) ≤ 255 := by omega
          clear hacc hF hov hdec ha hx
          go_wp2
          refine ⟨⟨k + 1, acc * 16 + (c.toNat - 48), a * 16 + ((c.toNat : Int) - 48), rfl, (by first | rfl | (congr 1; omega)), (by first | rfl | (congr 1; omega)), by omega, HN⟩, by simp [RowKit.intOf]; omega⟩
      · have hlet := hexI_let c hdig
        have hlow := fun w => Tryd.internal_strconv_lower (c.toNat : Int) w
        have hv0 := bits_lo_u8 .or (c.toNat : Int) 32
        have hv1 := bits_hi_u8 .or (c.toNat : Int) 32
        generalize bits .or .u8 (c.toNat : Int) 32 = v at hlet hlow hv0 hv1
        have Hlow := hid hlow
        clear hlow
        rcases hlet with ⟨l0, l1, hx⟩ | ⟨hx, hl⟩
        · by_cases hov : 255 < acc * 16 + (v - 87).toNat
          · have hF : puHex acc (c :: bs.drop (k + 1)) = .range := by rw [puHex, hx, if_neg (by omega), if_pos hov]
            rw [hF] at hdec
            have iov : 255 < a * 16 + (v - 97 + 10) := by omega
            clear hacc hF hov ha hx
            cases h95 : ((c.toNat : Int) == 95)
            all_goals
              go_wp2_with (go_at_call 32; refine (Hlow.out _).mono ?_; rintro e w' ⟨rfl, rfl⟩)
              all_goals go_ret2
              all_goals first | exact ⟨rfl, rfl⟩ | exact ⟨by rw [hdec]; rfl, rfl⟩
          · have hF : puHex acc (c :: bs.drop (k + 1)) = puHex (acc * 16 + (v - 87).toNat) (bs.drop (k + 1)) := by rw [puHex, hx, if_neg (by omega), if_neg hov]
            have HN : Hid (a * 16 + (v - 97 + 10) = ((acc * 16 + (v - 87).toNat : Nat) : Int) ∧ acc * 16 + (v - 87).toNat ≤ 255 ∧ puHex 0 bs = puHex (acc * 16 + (v - 87).toNat) (bs.drop (k + 1))) := Lib.hid ⟨by omega, by omega, hdec.trans hF⟩
            have iov : a * 16 + (v - 97 + 10) ≤ 255 := by omega
            clear hacc hF hov hdec ha hx
            cases h95 : ((c.toNat : Int) == 95)
            all_goals
              go_wp2_with (go_at_call 32; refine (Hlow.out _).mono ?_; rintro e w' ⟨rfl, rfl⟩)
              all_goals refine ⟨⟨k + 1, acc * 16 + (v - 87).toNat, a * 16 + (v - 97 + 10), rfl, (by first | rfl | (congr 1; omega)), (by first | rfl | (congr 1; omega)), by omega, HN⟩, by simp [RowKit.intOf]; omega⟩
        · have hF : puHex acc (c :: bs.drop (k + 1)) = parseMag [] := by rw [puHex, if_pos (by omega)]
          rw [hF] at hdec
          clear hacc hF ha hx
          by_cases hv : 97 ≤ v
          · cases h95 : ((c.toNat : Int) == 95)
            all_goals
              go_wp2_with (go_at_call 32; refine (Hlow.out _).mono ?_; rintro e w' ⟨rfl, rfl⟩)
            all_goals go_ret2
            all_goals first | exact ⟨rfl, rfl⟩ | exact ⟨by rw [hdec]; rfl, rfl⟩
          · cases h95 : ((c.toNat : Int) == 95)
            all_goals
              go_wp2_with (go_at_call 32; refine (Hlow.out _).mono ?_; rintro e w' ⟨rfl, rfl⟩)
            all_goals go_ret2
            all_goals first | exact ⟨rfl, rfl⟩ | exact ⟨by rw [hdec]; rfl, rfl⟩
    · have hkk : k = t.size := by omega
      subst hkk
      have hF : puHex acc (bs.drop t.size) = .ok acc := by rw [List.drop_eq_nil_of_le (by omega)]; rfl
      rw [hF] at hdec
      subst ha
      clear hacc hF a0 a1
      go_wp2
      go_ret2
      exact ⟨rfl, rfl⟩
end Go.Proofs.YtcjjlmjamcmnpaaDoor
