/- Walk: dates' time. -/
import Derived.Test.YtnkfgedpdokcpaaDoorCk2
namespace Go.Proofs.YtnkfgedpdokcpaaDoor
open Go.RowKit Go.Lib Go.Proofs.Foot

theorem cutA (s : ByteArray) (w : World) (T : ByteArray) (p : Bool) (hT : Lib.trimPrefix s.data.toList [58] = T.data.toList) (hp : Lib.hasPrefix s.data.toList [58] = p) :
    Calls Tryd.prog 44 #[.string s, .string ⟨#[58]⟩] w fun e w' => e = .returned (.tuple #[.string T, .bool p]) ∧ w = w' := by
  refine (Tryd.strings_CutPrefix s ⟨#[58]⟩ w).mono ?_
  rintro e w' ⟨he, rfl⟩
  refine ⟨he.trans ?_, rfl⟩
  have e1 : Lib.trimPrefix s.data.toList (⟨#[58]⟩ : ByteArray).data.toList = T.data.toList := hT
  have e2 : Lib.hasPrefix s.data.toList (⟨#[58]⟩ : ByteArray).data.toList = p := hp
  rw [e1, e2]
theorem trimPrefix_le (l p : List UInt8) : (Lib.trimPrefix l p).length ≤ l.length := by
  unfold Lib.trimPrefix; split
  · simp
  · exact Nat.le_refl _
theorem restP_le (l : List UInt8) : (restP l).length ≤ l.length := by have := restP_length l; omega
theorem bytes_of (l : List UInt8) : ∃ R : ByteArray, l = R.data.toList := ⟨⟨l.toArray⟩, by simp⟩

set_option maxHeartbeats 2000000 in
set_option maxRecDepth 100000 in
theorem time_any (B g : Nat) (h i x k m y : Nat) (t0 t1 t2 t3 : Bool) (s : ByteArray) (hs : s.size ≤ 16777216) (w : World) (hB : B ≤ g) (hg : Blk w g 44 (row10 h i x k m y t0 t1 t2 t3)) (G : Good w) (o : Option (Nat × Nat × Nat)) (ho : clockP s.data.toList = o) :
    Calls Tryd.prog 32 #[.pointer (some ⟨g, 0, none⟩), .string s] w (RuleR B g o.isSome (row10 (o.getD (h, i, x)).1 (o.getD (h, i, x)).2.1 (o.getD (h, i, x)).2.2 k m y t0 t1 t2 t3) w) := by
  have hcase := clock_cases s.data.toList
  obtain ⟨R1, hR1⟩ := bytes_of (restP s.data.toList)
  have z1 := restP_le s.data.toList
  rw [hR1] at hcase z1
  obtain ⟨R2, hR2⟩ := bytes_of (Lib.trimPrefix R1.data.toList [58])
  have z2 := trimPrefix_le R1.data.toList [58]
  rw [hR2] at hcase z2
  obtain ⟨R3, hR3⟩ := bytes_of (restP R2.data.toList)
  have z3 := restP_le R2.data.toList
  rw [hR3] at hcase z3
  obtain ⟨R4, hR4⟩ := bytes_of (Lib.trimPrefix R3.data.toList [58])
  have z4 := trimPrefix_le R3.data.toList [58]
  rw [hR4] at hcase z4
  obtain ⟨R5, hR5⟩ := bytes_of (restP R4.data.toList)
  simp only [← Lib.size_eq] at z1 z2 z3 z4
  obtain ⟨p1, hp1⟩ : ∃ p, p = Lib.hasPrefix R1.data.toList [58] := ⟨_, rfl⟩
  obtain ⟨p2, hp2⟩ : ∃ p, p = Lib.hasPrefix R3.data.toList [58] := ⟨_, rfl⟩
  obtain ⟨o1, ho1⟩ : ∃ o, o = (numP s.data.toList 1 2).isSome := ⟨_, rfl⟩
  obtain ⟨o2, ho2⟩ : ∃ o, o = (numP R2.data.toList 1 2).isSome := ⟨_, rfl⟩
  obtain ⟨o3, ho3⟩ : ∃ o, o = (numP R4.data.toList 1 2).isSome := ⟨_, rfl⟩
  have N1 := hid (fun w G => number_any s 1 2 1 2 rfl rfl (by omega) (by omega) hs R1 hR1 o1 ho1.symm w G)
  have N2 := hid (fun w G => number_any R2 1 2 1 2 rfl rfl (by omega) (by omega) (by omega) R3 hR3 o2 ho2.symm w G)
  have N3 := hid (fun w G => number_any R4 1 2 1 2 rfl rfl (by omega) (by omega) (by omega) R5 hR5 o3 ho3.symm w G)
  have C1 := hid (fun w => cutA R1 w R2 p1 hR2 hp1.symm)
  have C2 := hid (fun w => cutA R3 w R4 p2 hR4 hp2.symm)
  have hlt := hg.lt
  have Hg := hid hg
  have HG := hid G
  clear hR1 hR2 hR3 hR4 hR5 z1 z2 z3 z4 hg G
  rcases hcase with ⟨a, b, c, q1, q2, q3, q4, q5, q6⟩ | ⟨q6, q⟩
  · rw [q6] at ho
    rw [q2] at hp1
    rw [q4] at hp2
    rw [q1] at ho1 N1
    rw [q3] at ho2 N2
    rw [q5] at ho3 N3
    obtain rfl := hp1
    obtain rfl := hp2
    obtain rfl := ho1
    obtain rfl := ho2
    obtain rfl := ho3
    obtain rfl := ho
    clear q1 q2 q3 q4 q5 q6
    go_enter Tryd.func32, Tryd.ntmps32
    go_wp2_with fail
    refine (N1.out _ HG.out).mono ?_
    rintro e w1 ⟨v1, rfl, hv1, hb1⟩
    obtain rfl := hv1 a rfl
    have B1 := hid hb1
    clear hv1 hb1
    go_wp2_with fail
    refine (C1.out _).mono ?_
    rintro e w' ⟨rfl, rfl⟩
    go_wp2_with fail
    refine (N2.out _ (HG.out.below B1.out)).mono ?_
    rintro e w2 ⟨v2, rfl, hv2, hb2⟩
    obtain rfl := hv2 b rfl
    have B2 := hid (below_chain B1.out hb2)
    clear hv2 hb2
    go_wp2_with fail
    refine (C2.out _).mono ?_
    rintro e w' ⟨rfl, rfl⟩
    go_wp2_with fail
    refine (N3.out _ (HG.out.below B2.out)).mono ?_
    rintro e w3 ⟨v3, rfl, hv3, hb3⟩
    obtain rfl := hv3 c rfl
    have B3 := hid (below_chain B2.out hb3)
    clear hv3 hb3
    have Hg3 := hid (Hg.out.keep B3.out)
    have c0 : w3.cell? ⟨g, 0, none⟩ = some (.int .i64 h) := Hg3.out.cell rfl
    have c1 : w3.cell? ⟨g, 1, none⟩ = some (.int .i64 i) := Hg3.out.cell rfl
    have c2 : w3.cell? ⟨g, 2, none⟩ = some (.int .i64 x) := Hg3.out.cell rfl
    have f0 := Hg3.out.free 0
    have f1 := Hg3.out.free 1
    have f2 := Hg3.out.free 2
    have Hfin : Hid (Below B w w3) := hid (B3.out.mono (Nat.le_trans hB (Nat.le_of_lt hlt)))
    go_wp2
    go_ret
    exact ⟨rfl, (((Hg3.out.put 0 _).put 1 _).put 2 _).eq rfl, ((Hfin.out.setCell hB _).setCell hB _).setCell hB _⟩
  · rw [q6] at ho
    obtain rfl := ho
    rw [← hp1, ← hp2, ← ho1, ← ho2, ← ho3] at q
    have Q := hid q
    clear q q6 ho1 ho2 ho3 hp1 hp2
    go_enter Tryd.func32, Tryd.ntmps32
    go_wp2_with fail
    refine (N1.out _ HG.out).mono ?_
    rintro e w1 ⟨v1, rfl, _, hb1⟩
    have B1 := hid hb1
    clear hb1
    go_wp2_with fail
    refine (C1.out _).mono ?_
    rintro e w' ⟨rfl, rfl⟩
    go_wp2_with fail
    refine (N2.out _ (HG.out.below B1.out)).mono ?_
    rintro e w2 ⟨v2, rfl, _, hb2⟩
    have B2 := hid (below_chain B1.out hb2)
    clear hb2
    go_wp2_with fail
    refine (C2.out _).mono ?_
    rintro e w' ⟨rfl, rfl⟩
    go_wp2_with fail
    refine (N3.out _ (HG.out.below B2.out)).mono ?_
    rintro e w3 ⟨v3, rfl, _, hb3⟩
    have B3 := hid (below_chain B2.out hb3)
    clear hb3
    have Hfin : Hid (RuleR B g false (row10 h i x k m y t0 t1 t2 t3) w (.returned (.bool false)) w3) := hid ⟨rfl, Hg.out.keep B3.out, B3.out.mono (Nat.le_trans hB (Nat.le_of_lt hlt))⟩
    cases o1
    case false => (go_wp2; go_ret; exact Hfin.out)
    cases o2
    case false => (go_wp2; go_ret; exact Hfin.out)
    cases o3
    case false => (go_wp2; go_ret; exact Hfin.out)
    cases p1
    case false => (go_wp2; go_ret; exact Hfin.out)
    cases p2
    case false => (go_wp2; go_ret; exact Hfin.out)
    exact absurd Q.out (by decide)
end Go.Proofs.YtnkfgedpdokcpaaDoor
