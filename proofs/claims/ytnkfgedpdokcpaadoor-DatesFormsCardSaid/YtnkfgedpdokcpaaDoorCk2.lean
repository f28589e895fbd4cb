/- Walks: dates' time, dayed, yeared: what a word may be. -/
import Derived.Test.YtnkfgedpdokcpaaDoorCk1
import Derived.Test.YtnkfgedpdokcpaaDoorBlk
import Derived.BigRegion
namespace Go.Proofs.YtnkfgedpdokcpaaDoor
open Go.RowKit Go.Lib Go.Proofs.Foot

/-- The program's cells of what was told. -/
def row10 (h i x k m y : Nat) (t0 t1 t2 t3 : Bool) : Array Value :=
  #[.int .i64 h, .int .i64 i, .int .i64 x, .int .i64 k, .int .i64 m, .int .i64 y, .bool t0, .bool t1, .bool t2, .bool t3]
/-- What a rule answers: whether it holds, and the cells behind it. -/
def RuleR (B g : Nat) (o : Bool) (cs : Array Value) (w : World) (e : Ending) (w' : World) : Prop :=
  e = .returned (.bool o) ∧ Blk w' g 44 cs ∧ Below B w w'

theorem dayed_any (B g : Nat) (h i x k m y : Nat) (t0 t1 t2 t3 : Bool) (s : ByteArray) (hs : s.size ≤ 16777216) (w : World) (hB : B ≤ g) (hg : Blk w g 44 (row10 h i x k m y t0 t1 t2 t3)) (G : Good w) (n : Option Nat) (hn : numP s.data.toList 1 2 = n) :
    Calls Tryd.prog 33 #[.pointer (some ⟨g, 0, none⟩), .string s] w (RuleR B g n.isSome (row10 h i x (n.getD k) m y t0 t1 t2 t3) w) := by
  obtain ⟨R, hR⟩ : ∃ R : ByteArray, restP s.data.toList = R.data.toList := ⟨⟨(restP s.data.toList).toArray⟩, by simp⟩
  have HN := hid (number_any s 1 2 1 2 rfl rfl (by omega) (by omega) hs R hR n.isSome (by rw [hn]) w G)
  have Hn := hid hn
  have Hg := hid hg
  have hlt := hg.lt
  have f3 := hg.free 3
  clear hR hn hg G
  go_enter Tryd.func33, Tryd.ntmps33
  go_wp2_with fail
  refine HN.out.mono ?_
  rintro e w1 ⟨v, rfl, hv, hb1⟩
  rw [Hn.out] at hv
  have Hg1 := hid (Hg.out.keep hb1)
  have c3 : w1.cell? ⟨g, 3, none⟩ = some (.int .i64 k) := Hg1.out.cell rfl
  have f3' := Hg1.out.free 3
  have Hb1 := hid (hb1.mono (Nat.le_trans hB (Nat.le_of_lt hlt)))
  clear hb1 f3
  cases n with
  | none =>
    clear hv c3 f3'
    go_wp2
    go_ret
    exact ⟨rfl, Hg1.out, Hb1.out⟩
  | some n =>
    obtain rfl := hv n rfl
    clear hv
    go_wp2
    go_ret
    exact ⟨rfl, (Hg1.out.put 3 _).eq rfl, Hb1.out.setCell hB _⟩

theorem fixY_le {n : Nat} (h : n ≤ 9999) : fixY n ≤ 9999 := by unfold fixY; split <;> (try split) <;> omega
theorem yeared_any (B g : Nat) (h i x k m y : Nat) (t0 t1 t2 t3 : Bool) (s : ByteArray) (hs : s.size ≤ 16777216) (w : World) (hB : B ≤ g) (hg : Blk w g 44 (row10 h i x k m y t0 t1 t2 t3)) (G : Good w) (n : Option Nat) (hn : numP s.data.toList 2 4 = n) :
    Calls Tryd.prog 35 #[.pointer (some ⟨g, 0, none⟩), .string s] w (RuleR B g n.isSome (row10 h i x k m ((n.map fixY).getD y) t0 t1 t2 t3) w) := by
  obtain ⟨R, hR⟩ : ∃ R : ByteArray, restP s.data.toList = R.data.toList := ⟨⟨(restP s.data.toList).toArray⟩, by simp⟩
  have HN := hid (number_any s 2 4 2 4 rfl rfl (by omega) (by omega) hs R hR n.isSome (by rw [hn]) w G)
  have Hn := hid hn
  have Hg := hid hg
  have hlt := hg.lt
  clear hR hn hg G
  go_enter Tryd.func35, Tryd.ntmps35
  go_wp2_with fail
  refine HN.out.mono ?_
  rintro e w1 ⟨v, rfl, hv, hb1⟩
  rw [Hn.out] at hv
  have Hg1 := hid (Hg.out.keep hb1)
  have c3 : w1.cell? ⟨g, 5, none⟩ = some (.int .i64 y) := Hg1.out.cell rfl
  have f3' := Hg1.out.free 5
  have Hb1 := hid (hb1.mono (Nat.le_trans hB (Nat.le_of_lt hlt)))
  clear hb1
  cases n with
  | none =>
    clear hv c3 f3'
    go_wp2
    go_ret
    exact ⟨rfl, Hg1.out, Hb1.out⟩
  | some n =>
    obtain rfl := hv n rfl
    have hle := numP_bd4 Hn.out
    clear hv
    by_cases h70 : n < 70
    · have e : fixY n = n + 2000 := if_pos h70
      have He := hid e
      clear e
      go_wp2
      go_ret
      exact ⟨rfl, (Hg1.out.put 5 _).eq (by show _ = row10 h i x k m (fixY n) t0 t1 t2 t3; rw [He.out]; rfl), Hb1.out.setCell hB _⟩
    · by_cases h100 : n < 100
      · have e : fixY n = n + 1900 := by unfold fixY; rw [if_neg h70, if_pos h100]
        have He := hid e
        clear e
        go_wp2
        go_ret
        exact ⟨rfl, (Hg1.out.put 5 _).eq (by show _ = row10 h i x k m (fixY n) t0 t1 t2 t3; rw [He.out]; rfl), Hb1.out.setCell hB _⟩
      · have e : fixY n = n := by unfold fixY; rw [if_neg h70, if_neg h100]
        have He := hid e
        clear e
        go_wp2
        go_ret
        exact ⟨rfl, (Hg1.out.put 5 _).eq (by show _ = row10 h i x k m (fixY n) t0 t1 t2 t3; rw [He.out]; rfl), Hb1.out.setCell hB _⟩
end Go.Proofs.YtnkfgedpdokcpaaDoor
