/- Walks: setcookie's two maps: the sites by their names, and what attributes do. -/
import Derived.Test.YthfndlphhgchnaaGreatDoorSc0
namespace Go.Proofs.YthfndlphhgchnaaGreatDoor
open Go.RowKit Go.Lib Go.Maps Go.Proofs.Foot

/-- The sites by their names. -/
def siteF (l : List UInt8) : Option Value :=
  if l = [110, 111, 110, 101] then some (.int .u8 3) else if l = [108, 97, 120] then some (.int .u8 2) else if l = [115, 116, 114, 105, 99, 116] then some (.int .u8 1) else none
set_option maxHeartbeats 1000000 in
set_option maxRecDepth 100000 in
theorem siteF_any (w : World) :
    Calls Tryz.prog 71 #[] w fun e w' => e = .returned (.map (some w.heap.size)) ∧ MapF w' w.heap.size 3 siteF ∧ Below w.heap.size w w' := by
  have hmm := @run_makeMap Tryz.prog
  have M0 := MapF.made w
  have B0 : Below w.heap.size w (w.alloc (.map #[] 0)) := (Below.refl _ _).alloc (Nat.le_refl _) _
  have L0 : w.heap.size ≤ (w.alloc (.map #[] 0)).heap.size := B0.size
  obtain ⟨w1, r1, M1, g1⟩ := M0.update (e := 22) Tryz.underlying92 (by decide) ⟨#[115, 116, 114, 105, 99, 116]⟩ (by decide) (.int .u8 1)
  have B1 := below_grown B0 g1 L0
  have L1 : w.heap.size ≤ w1.heap.size := B1.size
  obtain ⟨w2, r2, M2, g2⟩ := M1.update (e := 22) Tryz.underlying92 (by decide) ⟨#[108, 97, 120]⟩ (by decide) (.int .u8 2)
  have B2 := below_grown B1 g2 L1
  have L2 : w.heap.size ≤ w2.heap.size := B2.size
  obtain ⟨w3, r3, M3, g3⟩ := M2.update (e := 22) Tryz.underlying92 (by decide) ⟨#[110, 111, 110, 101]⟩ (by decide) (.int .u8 3)
  have B3 := below_grown B2 g3 L2
  have L3 : w.heap.size ≤ w3.heap.size := B3.size
  have MM := hid M3
  have BB := hid B3
  clear M0 B0 L0 M1 B1 L1 M2 B2 L2 M3 B3 L3 g1 g2 g3
  go_enter Tryz.func71, Tryz.ntmps71
  go_wp2
  go_ret
  exact ⟨rfl, MM.out, BB.out⟩
/-- What attributes do, by their names. -/
def attrF (l : List UInt8) : Option Value :=
  if l = siteL then some (.func (.func 45) #[] #[]) else if l = hidL then some (.func (.func 44) #[] #[]) else if l = secL then some (.func (.func 43) #[] #[]) else if l = pathL then some (.func (.func 42) #[] #[]) else if l = domL then some (.func (.func 41) #[] #[]) else if l = ageL then some (.func (.func 40) #[] #[]) else if l = expL then some (.func (.func 39) #[] #[]) else none
set_option maxHeartbeats 1000000 in
set_option maxRecDepth 100000 in
theorem attrF_any (w : World) :
    Calls Tryz.prog 27 #[] w fun e w' => e = .returned (.map (some w.heap.size)) ∧ MapF w' w.heap.size 7 attrF ∧ Below w.heap.size w w' := by
  have hmm := @run_makeMap Tryz.prog
  have M0 := MapF.made w
  have B0 : Below w.heap.size w (w.alloc (.map #[] 0)) := (Below.refl _ _).alloc (Nat.le_refl _) _
  have L0 : w.heap.size ≤ (w.alloc (.map #[] 0)).heap.size := B0.size
  obtain ⟨w1, r1, M1, g1⟩ := M0.update (e := 60) Tryz.underlying58 (by decide) ⟨#[101, 120, 112, 105, 114, 101, 115]⟩ (by decide) (.func (.func 39) #[] #[])
  have B1 := below_grown B0 g1 L0
  have L1 : w.heap.size ≤ w1.heap.size := B1.size
  obtain ⟨w2, r2, M2, g2⟩ := M1.update (e := 60) Tryz.underlying58 (by decide) ⟨#[109, 97, 120, 45, 97, 103, 101]⟩ (by decide) (.func (.func 40) #[] #[])
  have B2 := below_grown B1 g2 L1
  have L2 : w.heap.size ≤ w2.heap.size := B2.size
  obtain ⟨w3, r3, M3, g3⟩ := M2.update (e := 60) Tryz.underlying58 (by decide) ⟨#[100, 111, 109, 97, 105, 110]⟩ (by decide) (.func (.func 41) #[] #[])
  have B3 := below_grown B2 g3 L2
  have L3 : w.heap.size ≤ w3.heap.size := B3.size
  obtain ⟨w4, r4, M4, g4⟩ := M3.update (e := 60) Tryz.underlying58 (by decide) ⟨#[112, 97, 116, 104]⟩ (by decide) (.func (.func 42) #[] #[])
  have B4 := below_grown B3 g4 L3
  have L4 : w.heap.size ≤ w4.heap.size := B4.size
  obtain ⟨w5, r5, M5, g5⟩ := M4.update (e := 60) Tryz.underlying58 (by decide) ⟨#[115, 101, 99, 117, 114, 101]⟩ (by decide) (.func (.func 43) #[] #[])
  have B5 := below_grown B4 g5 L4
  have L5 : w.heap.size ≤ w5.heap.size := B5.size
  obtain ⟨w6, r6, M6, g6⟩ := M5.update (e := 60) Tryz.underlying58 (by decide) ⟨#[104, 116, 116, 112, 111, 110, 108, 121]⟩ (by decide) (.func (.func 44) #[] #[])
  have B6 := below_grown B5 g6 L5
  have L6 : w.heap.size ≤ w6.heap.size := B6.size
  obtain ⟨w7, r7, M7, g7⟩ := M6.update (e := 60) Tryz.underlying58 (by decide) ⟨#[115, 97, 109, 101, 115, 105, 116, 101]⟩ (by decide) (.func (.func 45) #[] #[])
  have B7 := below_grown B6 g7 L6
  have L7 : w.heap.size ≤ w7.heap.size := B7.size
  have MM := hid M7
  have BB := hid B7
  clear M0 B0 L0 M1 B1 L1 M2 B2 L2 M3 B3 L3 M4 B4 L4 M5 B5 L5 M6 B6 L6 M7 B7 L7 g1 g2 g3 g4 g5 g6 g7
  go_enter Tryz.func27, Tryz.ntmps27
  go_wp2
  go_ret
  exact ⟨rfl, MM.out, BB.out⟩
end Go.Proofs.YthfndlphhgchnaaGreatDoor
