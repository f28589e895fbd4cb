/- Walk: strconv.FormatUint at base 10. -/
import Derived.Test.YtiookngmgednjaaDoorAd3
namespace Go.Proofs.YtiookngmgednjaaDoor
open Go.RowKit Go.Lib Go.Sort

set_option maxHeartbeats 1000000 in
set_option maxRecDepth 100000 in
theorem fmtUI (u : Nat) (hu : u < 65536) (w : World) (htab : Lib.TabIs Tryd.prog w "internal/strconv.uint64pow10" .u64 Lib.pow10Tab) :
    Calls Tryd.prog 90 #[.int .u64 u, .int .i64 10] w fun e w' => e = .returned (.string ⟨(Lib.decDigits u).toArray⟩) ∧ Below w.heap.size w w' := by
  by_cases hs : u < 100
  · have hlt : (u : Int) < 100 := by omega
    have HS := hid (fun w => Tryd.internal_strconv_small u hs w)
    clear hs
    go_enter Tryd.func90, Tryd.ntmps90
    go_wp2_with (go_at_call 52; refine (HS.out _).mono ?_; rintro e w' ⟨rfl, rfl⟩)
    go_ret
    exact ⟨rfl, Below.refl _ _⟩
  · have hlt : ¬ (u : Int) < 100 := by omega
    have hd := Lib.numDigits_eq u (by omega) (by omega)
    have hnd : Lib.nDigits u ≤ 20 := by split at hd <;> omega
    have hH := Lib.holds_zero0 w 83 (Lib.nDigits u) (by omega)
    have hfmt := Tryd.internal_strconv_formatBase10 w.heap.size 0 24 u (Array.replicate (Lib.nDigits u) 0) (w.alloc (.cells Lib.zeros24 83)) hH (by rw [Array.size_replicate]; exact Lib.lt_pow_nDigits u) (by omega) (by rw [Array.size_replicate]; omega)
    rw [Array.size_replicate] at hfmt
    have hal : Tryd.prog.arrayLen 83 = 24 := by kernel_rfl
    have hsl : ∀ W, (Instr.sliceAt 83 (.pointer (some ⟨w.heap.size, 0, none⟩)) none (some (.int .i64 (Lib.nDigits u : Int))) none).run Tryd.prog W = .ok (.slice (some ⟨w.heap.size, 0, none⟩) (Lib.nDigits u) 24) W := fun W => by
      rw [run_sliceAt_array_h W 83 ⟨w.heap.size, 0, none⟩ (by kernel_rfl) .i64 (Lib.nDigits u : Int) (by omega) (by rw [hal]; omega)]
      have hz : (sizeOf (Tryd.prog.elem 83)).run Tryd.prog W = .ok 1 W := by kernel_rfl
      rw [hz, hal]
      show Result.ok (slicedAt ⟨w.heap.size, 0, none⟩ 0 (Lib.nDigits u : Int).toNat 24 1) W = _
      simp [slicedAt, Addr.add]
    have HN := hid (Tryd.internal_strconv_numDigits u (by omega) (by omega) (w.alloc (.cells Lib.zeros24 83)) (Lib.tabIs_alloc htab _))
    have HF := hid hfmt
    have HH := hid hH
    clear hd hH hfmt hal htab hs
    go_enter Tryd.func90, Tryd.ntmps90
    go_wp2_with (go_at_call 53; refine HN.out.mono ?_; rintro e w' ⟨rfl, rfl⟩)
    refine HF.out.mono ?_
    rintro e w' ⟨rfl, k, v', dk, rfl, hF⟩
    have hcv : (convert 42 9 (.slice (some ⟨w.heap.size, 0, none⟩) (Lib.nDigits u) 24)).run Tryd.prog ((putRow (fun (b : UInt8) => Value.int .u8 (b.toNat : Int)) (w.alloc (.cells Lib.zeros24 83)) w.heap.size 0 dk).drewN k) = .ok (.string ⟨(Lib.decDigits u).toArray⟩) ((putRow (fun (b : UInt8) => Value.int .u8 (b.toNat : Int)) (w.alloc (.cells Lib.zeros24 83)) w.heap.size 0 dk).drewN k) := by
      have h := run_convert_bytes_back (P := Tryd.prog) ((putRow (fun (b : UInt8) => Value.int .u8 (b.toNat : Int)) (w.alloc (.cells Lib.zeros24 83)) w.heap.size 0 dk).drewN k) 42 9 5 ⟨w.heap.size, 0, none⟩ 24 (Lib.decDigits u) Tryd.underlying42 Tryd.underlying5 Tryd.underlying9 (fun j hj => by
        rw [Lib.row_is_numeral hF j hj, Lib.add_plain, World.cell?_drewN]
        exact cell?_putRow (fun (b : UInt8) => Value.int .u8 (b.toNat : Int)) _ w.heap.size 0 _ dk HH.out (by rw [hF.size, Array.size_replicate]) j (by rw [hF.size]; rw [Lib.decDigits_length] at hj; exact hj))
      rw [Lib.decDigits_length] at h
      exact h
    obtain ⟨os, eo⟩ := Lib.fin_at w (.cells Lib.zeros24 83) dk k 0
    have hbel : Below w.heap.size w ((putRow (fun (b : UInt8) => Value.int .u8 (b.toNat : Int)) (w.alloc (.cells Lib.zeros24 83)) w.heap.size 0 dk).drewN k) := by
      rw [eo]; exact Lib.below_grow _ _ (Nat.le_refl _) k os
    have Hb := hid hbel
    clear hbel eo
    go_wp2
    go_ret
    exact ⟨rfl, Hb.out⟩
theorem fmtU (u : Nat) (hu : u < 65536) (w : World) (htab : Lib.TabIs Tryd.prog w "internal/strconv.uint64pow10" .u64 Lib.pow10Tab) :
    Calls Tryd.prog 70 #[.int .u64 u, .int .i64 10] w fun e w' => e = .returned (.string (baseT 10 u)) ∧ Below w.heap.size w w' := by
  have e : (⟨(Lib.decDigits u).toArray⟩ : ByteArray) = baseT 10 u := by rw [baseT, baseD_10]
  have H := fmtUI u hu w htab
  rw [e] at H
  have HI := hid H
  clear H e htab
  go_enter Tryd.func70, Tryd.ntmps70
  go_wp2_with (go_at_call 90; refine HI.out.mono ?_; rintro e w' ⟨rfl, hb⟩)
  go_ret
  exact ⟨rfl, hb⟩
end Go.Proofs.YtiookngmgednjaaDoor
