/- Walks: strconv.FormatInt at base 16, of numbers below 65536. -/
import Derived.Test.YtiookngmgednjaaDoorShelf
import Derived.Test.YtiookngmgednjaaDoorBase
import Derived.Test.YtiookngmgednjaaDoorLaid
import Derived.Test.YtiookngmgednjaaDoorOwn
import Derived.Laws.BitsLemmas
import Derived.Laws.Bits64
import Derived.Conc.WgArith
import Derived.IntWalk
namespace Go.Proofs.YtiookngmgednjaaDoor
open Go.RowKit Go.Lib

theorem ret_val {a b : Value} (h : a = b) : Ending.returned a = .returned b := by rw [h]
theorem bytes_ext {a b : ByteArray} (h : a.data.toList = b.data.toList) : a = b := by
  cases a; cases b; simp at h; rw [h]
theorem cat_l (s t : ByteArray) : (s ++ t).data.toList = s.data.toList ++ t.data.toList := by simp [ByteArray.data_append]
theorem cat_z (s t : ByteArray) : (s ++ t).size = s.size + t.size := by rw [Lib.size_eq, cat_l, List.length_append, ← Lib.size_eq, ← Lib.size_eq]
/-- One digit by a base up to 16. -/
def hx (d : Nat) : UInt8 := UInt8.ofNat (if d < 10 then 48 + d else 87 + d)
/-- A number in hexadecimal. -/
def hexD (n : Nat) : List UInt8 := if _h : n < 16 then [hx n] else hexD (n / 16) ++ [hx (n % 16)]
theorem hexD_lt {n : Nat} (h : n < 16) : hexD n = [hx n] := by rw [hexD, dif_pos h]
theorem hexD_ge {n : Nat} (h : ¬ n < 16) : hexD n = hexD (n / 16) ++ [hx (n % 16)] := by rw [hexD, dif_neg h]
theorem pow2_16 (w : World) : Calls Tryd.prog 76 #[.int .i64 16] w fun e w' => e = .returned (.bool true) ∧ w = w' := by
  have hb : bits .and .i64 16 15 = 0 := by decide
  go_enter Tryd.func76, Tryd.ntmps76
  go_wp2
  go_ret
  exact ⟨rfl, rfl⟩
theorem tz64_16 (w : World) (hc : w.cell? ⟨3, 15, none⟩ = some (.int .u8 4)) : Calls Tryd.prog 92 #[.int .u64 16] w fun e w' => e = .returned (.int .i64 4) ∧ w = w' := by
  have hb : bits .and .u64 16 (IntKind.u64.wrap (-16)) = 16 := by decide
  have h2 : IntKind.u64.wrap (16 * 285870213051353865) = 4573923408821661840 := by decide
  have h3 : IntKind.u64.wrap 4573923408821661840 = 4573923408821661840 := by decide
  go_enter Tryd.func92, Tryd.ntmps92
  go_wp2
  go_ret
  exact ⟨rfl, rfl⟩
theorem tz_16 (w : World) (hc : w.cell? ⟨3, 15, none⟩ = some (.int .u8 4)) : Calls Tryd.prog 77 #[.int .u64 16] w fun e w' => e = .returned (.int .i64 4) ∧ w = w' := by
  have H := hid (tz64_16 w hc)
  clear hc
  go_enter Tryd.func77, Tryd.ntmps77
  go_wp2_with fail
  refine H.out.mono ?_
  rintro e w' ⟨rfl, rfl⟩
  go_wp2
  go_ret
  exact ⟨rfl, rfl⟩
/-- The array's block: from cell i on it holds t. -/
def HRow (w : World) (g i : Nat) (t : List UInt8) : Prop := ∃ C : Array Value, w.heap[g]? = some (.cells C 108 (0, 0)) ∧ C.size = 65 ∧ ∀ (j : Nat) c, t[j]? = some c → C[i + j]? = some (.int .u8 c.toNat)
theorem HRow.free {w : World} {g i : Nat} {t : List UInt8} (h : HRow w g i t) (k : Nat) : w.frozen? ⟨g, k, none⟩ = false := by
  obtain ⟨C, hC, _⟩ := h
  exact frozen_of_heap hC k
theorem HRow.cell {w : World} {g i : Nat} {t : List UInt8} (h : HRow w g i t) {j : Nat} {c : UInt8} (hj : t[j]? = some c) : w.cell? ⟨g, i + j, none⟩ = some (.int .u8 c.toNat) := by
  obtain ⟨C, hC, _, hc⟩ := h
  rw [cell_of_row _ _ _ _ _ _ hC]; exact hc j c hj
theorem HRow.some {w : World} {g i : Nat} {t : List UInt8} (h : HRow w g i t) {k : Nat} (hk : k < 65) : ∃ v, w.cell? ⟨g, k, none⟩ = some v := by
  obtain ⟨C, hC, hz, _⟩ := h
  exact ⟨C[k]'(by omega), by rw [cell_of_row _ _ _ _ _ _ hC]; exact Array.getElem?_eq_getElem (by omega)⟩
theorem HRow.put {w : World} {g i : Nat} {t : List UInt8} (h : HRow w g (i + 1) t) (hi : i < 65) (c : UInt8) : HRow (w.setCell ⟨g, i, none⟩ (.int .u8 c.toNat)) g i (c :: t) := by
  obtain ⟨C, hC, hz, hc⟩ := h
  refine ⟨C.setIfInBounds i (.int .u8 c.toNat), Go.heap_setCell_same w g i C _ _ hC, by simpa using hz, fun j d hj => ?_⟩
  cases j with
  | zero =>
    simp at hj
    subst hj
    rw [Nat.add_zero, Array.getElem?_setIfInBounds_self_of_lt (by omega)]
  | succ j =>
    rw [Array.getElem?_setIfInBounds_ne (by omega)]
    have := hc j d (by simpa using hj)
    rw [← this]; congr 1; omega
def digT36 : ByteArray := ⟨#[48, 49, 50, 51, 52, 53, 54, 55, 56, 57, 97, 98, 99, 100, 101, 102, 103, 104, 105, 106, 107, 108, 109, 110, 111, 112, 113, 114, 115, 116, 117, 118, 119, 120, 121, 122]⟩
theorem dig36_at (d : Nat) (h : d < 16) (h' : d < digT36.size) : (digT36[d]'h').toNat = (hx d).toNat := by
  have : ∀ d < 16, ∀ h' : d < digT36.size, (digT36[d]'h').toNat = (hx d).toNat := by decide +kernel
  exact this d h h'
/-- What FormatInt answers. -/
def hexT (n : Nat) : ByteArray := ⟨(hexD n).toArray⟩
theorem hexT_l (n : Nat) : (hexT n).data.toList = hexD n := by simp [hexT]
/-- How much is left to be told. -/
def Left (u k : Nat) : Prop := (k = 0 ∧ u < 65536) ∨ (k = 1 ∧ u < 4096) ∨ (k = 2 ∧ u < 256) ∨ (k = 3 ∧ u < 16)
theorem and15 (u : Nat) (h : u < 65536) : bits .and .u64 (u : Int) 15 = ((u % 16 : Nat) : Int) := by
  have h1 := bits_mask .u64 63 (by decide) Go.ConcN.wraps_u64_63 4 (by decide) (u : Int) (by omega) (by omega)
  have e : ((2 : Int) ^ 4 - 1) = 15 := by decide
  have e2 : ((2 : Int) ^ 4) = 16 := by decide
  rw [e, e2] at h1
  rw [h1]; omega
theorem sizeU8 (w : World) : (sizeOf (Tryd.prog.elem 108)).run Tryd.prog w = .ok 1 w := by kernel_rfl
theorem slice65 (g i : Nat) (hi : i < 65) (W : World) : (Instr.sliceAt 108 (.pointer (some ⟨g, 0, none⟩)) (some (.int .i64 (i : Int))) none none).run Tryd.prog W = .ok (.slice (some ⟨g, i, none⟩) (65 - i) (65 - i)) W := by
  have e : Tryd.prog.arrayLen 108 = 65 := by kernel_rfl
  rw [run_sliceAt_array_l W 108 ⟨g, 0, none⟩ (by kernel_rfl) .i64 (i : Int) (by omega) (by rw [e]; omega), sizeU8, e]
  have hne : ¬ (65 = i) := by omega
  show Result.ok (slicedAt ⟨g, 0, none⟩ (i : Int).toNat 65 65 1) W = _
  simp [slicedAt, hne, Addr.add]
  omega
theorem conv65 {W : World} {g i : Nat} {t : List UInt8} (h : HRow W g i t) (hl : i + t.length = 65) : (convert 42 9 (.slice (some ⟨g, i, none⟩) (65 - i) (65 - i))).run Tryd.prog W = .ok (.string ⟨t.toArray⟩) W := by
  have e : 65 - i = t.length := by omega
  rw [e]
  refine run_convert_bytes_back W 42 9 5 ⟨g, i, none⟩ _ t (by kernel_rfl) (by kernel_rfl) (by kernel_rfl) (fun j hj => ?_)
  have := h.cell (List.getElem?_eq_getElem hj)
  cases j <;> simpa [Addr.add] using this
set_option maxHeartbeats 2000000 in
set_option maxRecDepth 100000 in
theorem formatBits_16 (n : Nat) (hn : n < 65536) (w : World) (hc : w.cell? ⟨3, 15, none⟩ = some (.int .u8 4)) :
    Calls Tryd.prog 55 #[.slice none 0 0, .int .u64 n, .int .i64 16, .bool false, .bool false] w fun e w' => e = .returned (.tuple #[.slice none 0 0, .string (hexT n)]) ∧ Below w.heap.size w w' := by
  obtain ⟨Z, hZ⟩ : ∃ Z : Array Value, Z = Array.replicate 65 (.int .u8 0) := ⟨_, rfl⟩
  have hz : ∀ w, (zeroValue 108).run Tryd.prog w = .ok (.agg Z) w := fun _ => by rw [hZ]; kernel_rfl
  have hZz : Z.size = 65 := by rw [hZ]; simp
  have hr0 : (w.alloc (.cells Z 108)).heap[w.heap.size]? = some (.cells Z 108 (0, 0)) := heap_alloc_new _ _
  have R0 : Hid (HRow (w.alloc (.cells Z 108)) w.heap.size 65 []) := hid ⟨Z, hr0, hZz, fun j c h => by simp at h⟩
  have B0 : Hid (Below w.heap.size w (w.alloc (.cells Z 108))) := hid ((Below.refl _ _).alloc (Nat.le_refl _) _)
  have HP := hid (fun w => pow2_16 w)
  have HT := hid (fun w hc => tz_16 w hc)
  have Hc := hid hc
  clear hZ hr0 hc
  go_enter Tryd.func55, Tryd.ntmps55
  go_wp2_with fail
  refine (HP.out _).mono ?_
  rintro e w' ⟨rfl, rfl⟩
  generalize w.alloc _ = w0 at *
  go_wp2_with fail
  refine (HT.out _ ((B0.out.cell (Lib.lt_of_cell Hc.out)).trans Hc.out)).mono ?_
  rintro e w' ⟨rfl, rfl⟩
  go_wp2
  clear hZz
  go_loopw [1, 13] (fun us is wr => ∃ (u i : Nat) (t : List UInt8), us = .int .u64 u ∧ is = .int .i64 i ∧ i + t.length = 65 ∧ Left u t.length ∧ Hid (HRow wr w.heap.size i t ∧ Below w.heap.size w wr ∧ hexD n = hexD u ++ t)) (fun us _ _ => (RowKit.intOf us).toNat)
  case atStart => exact ⟨n, 65, [], rfl, rfl, rfl, .inl ⟨rfl, hn⟩, hid ⟨R0.out, B0.out, by simp⟩⟩
  case round =>
    obtain ⟨u, i, t, rfl, rfl, hit, hleft, hh⟩ := hrel
    obtain ⟨hrow, hbel, hdig⟩ := hh.out
    have hu : u < 65536 := by unfold Left at hleft; omega
    have HL := hid hleft
    have HR := hid hrow
    have HB := hid hbel
    have HD := hid hdig
    obtain ⟨d, hd⟩ : ∃ d : Nat, d = u % 16 := ⟨_, rfl⟩
    have hd16 : d < 16 := by omega
    have ha := and15 u hu
    rw [← hd] at ha
    by_cases h16 : u < 16
    · have hui : ¬ (u : Int) ≥ 16 := by omega
      have hdu : d = u := by omega
      obtain ⟨i', hi'⟩ : ∃ i' : Nat, i = i' + 1 := ⟨i - 1, by unfold Left at hleft; omega⟩
      subst hi'
      have hi65 : i' < 65 := by omega
      have hi62 : 61 ≤ i' := by unfold Left at hleft; omega
      have hfr := hrow.free i'
      obtain ⟨v0, hv0⟩ := hrow.some hi65
      have HR2 := hid (hrow.put hi65 (hx u))
      have hdg : ∀ h : u < digT36.size, (digT36[u]'h).toNat = (hx u).toNat := fun h => dig36_at u h16 h
      unfold digT36 at hdg
      clear hh hrow hbel hdig hleft hd ha
      have hsl := slice65 w.heap.size i' hi65
      go_wp2_with fail
      rw [conv65 HR2.out (by simp; omega)]
      go_wp2_with fail
      go_ret2
      refine ⟨by rw [hexT, HD.out, hexD_lt h16]; rfl, (HB.out.setCell (Nat.le_refl _) _)⟩
    · have hui : (u : Int) ≥ 16 := by omega
      obtain ⟨i', hi'⟩ : ∃ i' : Nat, i = i' + 1 := ⟨i - 1, by unfold Left at hleft; omega⟩
      subst hi'
      have hi65 : i' < 65 := by omega
      have hi62 : 61 ≤ i' := by unfold Left at hleft; omega
      have hfr := hrow.free i'
      obtain ⟨v0, hv0⟩ := hrow.some hi65
      have HR2 := hid (hrow.put hi65 (hx d))
      have hdg : ∀ h : d < digT36.size, (digT36[d]'h).toNat = (hx d).toNat := fun h => dig36_at d hd16 h
      unfold digT36 at hdg
      have HU := hid hd
      clear hh hrow hbel hdig hleft hd
      go_wp2_with fail
      refine ⟨⟨u / 16, i', hx d :: t, by norm_cast, rfl, by simp; omega, ?_, hid ⟨HR2.out, HB.out.setCell (Nat.le_refl _) _, ?_⟩⟩, ?_⟩
      · have := HL.out
        unfold Left at this ⊢
        simp only [List.length_cons]
        omega
      · have hge : ¬ u < 16 := h16
        rw [HD.out, hexD_ge hge, HU.out]; simp
      · simp only [RowKit.intOf]; omega
theorem fmtI_16 (n : Nat) (hn : n < 65536) (w : World) (hc : w.cell? ⟨3, 15, none⟩ = some (.int .u8 4)) :
    Calls Tryd.prog 38 #[.int .i64 n, .int .i64 16] w fun e w' => e = .returned (.string (hexT n)) ∧ Below w.heap.size w w' := by
  have H := hid (formatBits_16 n hn w hc)
  have hneg : ¬ (n : Int) < 0 := by omega
  clear hc
  go_enter Tryd.func38, Tryd.ntmps38
  go_wp2_with fail
  refine H.out.mono ?_
  rintro e w' ⟨rfl, hB⟩
  go_wp2
  go_ret
  exact ⟨rfl, hB⟩
theorem fmt_16 (n : Nat) (hn : n < 65536) (w : World) (hc : w.cell? ⟨3, 15, none⟩ = some (.int .u8 4)) :
    Calls Tryd.prog 23 #[.int .i64 n, .int .i64 16] w fun e w' => e = .returned (.string (hexT n)) ∧ Below w.heap.size w w' := by
  have H := hid (fmtI_16 n hn w hc)
  clear hc
  go_enter Tryd.func23, Tryd.ntmps23
  go_wp2_with fail
  refine H.out.mono ?_
  rintro e w' ⟨rfl, hB⟩
  go_wp2
  go_ret
  exact ⟨rfl, hB⟩
end Go.Proofs.YtiookngmgednjaaDoor
