/- Walk: footmanref04.Text of four bytes. -/
import Derived.Test.YtiookngmgednjaaDoorAd3
import Derived.Deep.RegionHeld3
import Derived.IntWalk
namespace Go.Proofs.YtiookngmgednjaaDoor
open Go.RowKit Go.Lib

theorem add_is {s t r : ByteArray} (hr : r = s ++ t) (hs : s.size ≤ 8388608) (ht : t.size ≤ 8388608) : ∀ V, (Op.stringOp .add s t).run Tryd.prog V = .ok (.string r) V := fun V => by rw [hr]; exact run_string_add V _ _ (by omega) (by omega)
theorem digB (c : UInt8) (w : World) : Calls Tryd.prog 24 #[.int .i64 c.toNat, .int .i64 10] w fun e w' => e = .returned (.string (baseT 10 c.toNat)) ∧ Below w.heap.size w w' := refDigits10 c.toNat (by have := c.toNat_lt; omega) w
theorem baseT_byte (b : Nat) (c : UInt8) : (baseT b c.toNat).size ≤ 256 := by have := baseT_size b c.toNat; have := c.toNat_lt; omega
/-- The first four bytes lie there. -/
def FourAt (w : World) (g : Nat) (a b c d : UInt8) (w' : World) : Prop :=
  (w'.cell? ⟨g, 1, none⟩ = some (.int .u8 a.toNat) ∧ w'.cell? ⟨g, 2, none⟩ = some (.int .u8 b.toNat) ∧ w'.cell? ⟨g, 3, none⟩ = some (.int .u8 c.toNat) ∧ w'.cell? ⟨g, 4, none⟩ = some (.int .u8 d.toNat)) ∧ Below w.heap.size w w' ∧ g < w'.heap.size ∧ w.heap.size ≤ w'.heap.size
theorem FourAt.go {w u v : World} {g : Nat} {a b c d : UInt8} (h : FourAt w g a b c d u) (hb : Below u.heap.size u v) : FourAt w g a b c d v := by
  obtain ⟨⟨h1, h2, h3, h4⟩, hbel, hg, hz⟩ := h
  refine ⟨⟨?_, ?_, ?_, ?_⟩, below_chain hbel hb, Nat.lt_of_lt_of_le hg hb.size, Nat.le_trans hz hb.size⟩
  all_goals (rw [hb.cell (by exact hg)]; assumption)
set_option maxHeartbeats 4000000 in
set_option maxRecDepth 100000 in
theorem refText_four (B : List UInt8) (hB : B.length = 16) (w : World) :
    Calls Tryd.prog 12 #[.agg (adrC false B)] w fun e w' => e = .returned (.string ⟨(Lib.join ((B.take 4).map fun c => baseD 10 c.toNat) [46]).toArray⟩) ∧ Below w.heap.size w w' := by
  obtain ⟨b0, b1, b2, b3, R, rfl⟩ : ∃ b0 b1 b2 b3 R, B = b0 :: b1 :: b2 :: b3 :: R := by
    match B, hB with
    | b0 :: b1 :: b2 :: b3 :: R, _ => exact ⟨_, _, _, _, _, rfl⟩
  have A0 := AdrAt.of_alloc w false (b0 :: b1 :: b2 :: b3 :: R)
  have hsix := A0.six
  have h1 := A0.byte 0 b0 rfl
  have h2 := A0.byte 1 b1 rfl
  have h3 := A0.byte 2 b2 rfl
  have h4 := A0.byte 3 b3 rfl
  simp only [Nat.add_zero, Nat.reduceAdd] at h1 h2 h3 h4
  have hbel : Below w.heap.size w (w.alloc (.cells (adrC false (b0 :: b1 :: b2 :: b3 :: R)) 24)) := (Below.refl _ _).alloc (Nat.le_refl _) _
  have hlt : w.heap.size < (w.alloc (.cells (adrC false (b0 :: b1 :: b2 :: b3 :: R)) 24)).heap.size := by simp
  have hle : w.heap.size ≤ (w.alloc (.cells (adrC false (b0 :: b1 :: b2 :: b3 :: R)) 24)).heap.size := Nat.le_of_lt hlt
  generalize adrC false (b0 :: b1 :: b2 :: b3 :: R) = C at *
  have z0 := baseT_byte 10 b0
  have z1 := baseT_byte 10 b1
  have z2 := baseT_byte 10 b2
  have z3 := baseT_byte 10 b3
  have hT : ∃ T1 T2 T3 T4 T5 T6 : ByteArray, T1 = baseT 10 b0.toNat ++ ⟨#[46]⟩ ∧ T2 = T1 ++ baseT 10 b1.toNat ∧ T3 = T2 ++ ⟨#[46]⟩ ∧ T4 = T3 ++ baseT 10 b2.toNat ∧ T5 = T4 ++ ⟨#[46]⟩ ∧ T6 = T5 ++ baseT 10 b3.toNat := ⟨_, _, _, _, _, _, rfl, rfl, rfl, rfl, rfl, rfl⟩
  obtain ⟨T1, T2, T3, T4, T5, T6, e1, e2, e3, e4, e5, e6⟩ := hT
  have hfin : T6 = ⟨(Lib.join (((b0 :: b1 :: b2 :: b3 :: R).take 4).map fun c => baseD 10 c.toNat) [46]).toArray⟩ := by
    apply bytes_ext
    rw [e6, e5, e4, e3, e2, e1]
    simp [baseT, Lib.join, List.intercalate]
  rw [← hfin]
  have p1 : (⟨#[46]⟩ : ByteArray).size = 1 := rfl
  have s1 : T1.size ≤ 2000 := by rw [e1, cat_z, p1]; omega
  have s1' : T1.size ≤ 257 := by rw [e1, cat_z, p1]; omega
  have s2 : T2.size ≤ 513 := by rw [e2, cat_z]; omega
  have s3 : T3.size ≤ 514 := by rw [e3, cat_z, p1]; omega
  have s4 : T4.size ≤ 770 := by rw [e4, cat_z]; omega
  have s5 : T5.size ≤ 771 := by rw [e5, cat_z, p1]; omega
  have a1 := add_is e1 (by omega) (by rw [p1]; omega)
  have a2 := add_is e2 (by omega) (by omega)
  have a3 := add_is e3 (by omega) (by rw [p1]; omega)
  have a4 := add_is e4 (by omega) (by omega)
  have a5 := add_is e5 (by omega) (by rw [p1]; omega)
  have a6 := add_is e6 (by omega) (by omega)
  clear hfin e1 e2 e3 e4 e5 e6 s1 s1' s2 s3 s4 s5 z0 z1 z2 z3 p1 A0 hB
  have q0 : IntKind.i64.wrap (b0.toNat : Int) = (b0.toNat : Int) := IntWalk.i64_in _ (by have := b0.toNat_lt; omega)
  have q1 : IntKind.i64.wrap (b1.toNat : Int) = (b1.toNat : Int) := IntWalk.i64_in _ (by have := b1.toNat_lt; omega)
  have q2 : IntKind.i64.wrap (b2.toNat : Int) = (b2.toNat : Int) := IntWalk.i64_in _ (by have := b2.toNat_lt; omega)
  have q3 : IntKind.i64.wrap (b3.toNat : Int) = (b3.toNat : Int) := IntWalk.i64_in _ (by have := b3.toNat_lt; omega)
  go_enter Tryd.func12, Tryd.ntmps12
  go_wp2_with fail
  generalize w.alloc _ = w1 at *
  go_region_held3 (fun w' => (w'.cell? ⟨w.heap.size, 1, none⟩ = some (.int .u8 b0.toNat) ∧ w'.cell? ⟨w.heap.size, 2, none⟩ = some (.int .u8 b1.toNat) ∧ w'.cell? ⟨w.heap.size, 3, none⟩ = some (.int .u8 b2.toNat) ∧ w'.cell? ⟨w.heap.size, 4, none⟩ = some (.int .u8 b3.toNat)) ∧ Below w.heap.size w w' ∧ w.heap.size < w'.heap.size ∧ w.heap.size ≤ w'.heap.size)
    (first
      | exact FourAt.go ‹_› ‹_›
      | exact ⟨⟨h1, h2, h3, h4⟩, hbel.drew, hlt, hle⟩)
    (first
      | (go_at_call 24; refine (digB _ _).mono ?_; rintro e w1 ⟨rfl, hb1⟩))
  rename_i hH
  obtain ⟨-, hBB, -⟩ := hH
  go_wp2
  go_ret
  exact ⟨rfl, hBB⟩
end Go.Proofs.YtiookngmgednjaaDoor
