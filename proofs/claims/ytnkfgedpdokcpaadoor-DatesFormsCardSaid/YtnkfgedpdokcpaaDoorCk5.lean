/- Walk: dates' word. -/
import Derived.Test.YtnkfgedpdokcpaaDoorCk3
import Derived.Test.YtnkfgedpdokcpaaDoorCk4
namespace Go.Proofs.YtnkfgedpdokcpaaDoor
open Go.RowKit Go.Lib Go.Proofs.Foot

/-- The program's cells of what the words told. -/
def rowD (d : Dt) : Array Value :=
  row10 (d.clock.getD (0, 0, 0)).1 (d.clock.getD (0, 0, 0)).2.1 (d.clock.getD (0, 0, 0)).2.2 (d.day.getD 0) d.month ((d.year.map fixY).getD 0) d.clock.isSome d.day.isSome (decide (d.month ≠ 0)) d.year.isSome
/-- What word leaves. -/
def WordR (B g : Nat) (cs : Array Value) (w : World) (e : Ending) (w' : World) : Prop := e = .returned (.tuple #[]) ∧ Blk w' g 44 cs ∧ Below B w w'
/-- A world that is good below B, whatever was done from B on. -/
def Under (B : Nat) (w : World) : Prop := ∃ w0, Good w0 ∧ w0.heap.size = B ∧ Below B w0 w
theorem Under.good {B : Nat} {w : World} (h : Under B w) : Good w := by
  obtain ⟨w0, g, rfl, hb⟩ := h
  exact g.below hb
theorem Under.below {B : Nat} {w w' : World} (h : Under B w) (hb : Below B w w') : Under B w' := by
  obtain ⟨w0, g, e, hb0⟩ := h
  exact ⟨w0, g, e, hb0.trans hb⟩
/-- The rules from the k-th on. -/
def wordK : Nat → Dt → List UInt8 → Dt
  | 0 => word0
  | 1 => word1
  | 2 => word2
  | 3 => word3
  | _ => fun d _ => d

set_option maxHeartbeats 4000000 in
set_option maxRecDepth 100000 in
theorem wordA_any (B g : Nat) (d : Dt) (s : ByteArray) (hs : s.size ≤ 16777216) (w : World) (hB : B ≤ g) (hg : Blk w g 44 (rowD d)) (U : Under B w) :
    Calls Tryd.prog 22 #[.pointer (some ⟨g, 0, none⟩), .string s] w (WordR B g (rowD (word0 d s.data.toList)) w) := by
  have hmf : ∀ (fn : Fn) (first cap : Array Value) (w : World), (Instr.makeFunc fn first cap).run Tryd.prog w = .ok (.func fn first cap) w := fun _ _ _ _ => rfl
  have HU := hid U
  have Hg := hid hg
  clear U hg
  go_enter Tryd.func22, Tryd.ntmps22
  go_wp2_with fail
  go_loopw [4, 5, 15] (fun _ _ i wr => ∃ k : Nat, k ≤ 4 ∧ i = .int .i64 k ∧ Hid (Blk wr g 44 (rowD d) ∧ Below B w wr ∧ wordK k d s.data.toList = word0 d s.data.toList)) (fun _ _ i _ => 4 - (RowKit.intOf i).toNat)
  case atStart => exact ⟨0, by omega, rfl, hid ⟨Hg.out, Below.refl _ _, rfl⟩⟩
  case round =>
    obtain ⟨k, hk, rfl, hh⟩ := hrel
    obtain ⟨hb, hbel, hword⟩ := hh.out
    have hG := (HU.out.below hbel).good
    have Hb := hid hb
    have Hbel := hid hbel
    have Hword := hid hword
    have HG := hid hG
    clear hh hb hbel hword hG
    have hk5 : k = 0 ∨ k = 1 ∨ k = 2 ∨ k = 3 ∨ k = 4 := by omega
    rcases hk5 with rfl | rfl | rfl | rfl | rfl
    · have i0 : ∀ w, (Instr.index 53 (.agg #[Value.func (.func 32) #[.pointer (some ⟨g, 0, none⟩)] #[], .func (.func 33) #[.pointer (some ⟨g, 0, none⟩)] #[], .func (.func 34) #[.pointer (some ⟨g, 0, none⟩)] #[], .func (.func 35) #[.pointer (some ⟨g, 0, none⟩)] #[]]) (.int .i64 0)).run Tryd.prog w = .ok (.func (.func 32) #[.pointer (some ⟨g, 0, none⟩)] #[]) w := fun _ => by kernel_rfl
      cases hc : d.clock with
      | some c =>
        have c6 : wr.cell? ⟨g, 6, none⟩ = some (.bool true) := Hb.out.cell (by rw [rowD, hc]; rfl)
        have Hk := hid ((word0_told hc s.data.toList).symm.trans Hword.out)
        clear hc
        go_wp2
        go_roundw
        case rel => exact ⟨1, by omega, rfl, hid ⟨Hb.out, Hbel.out, Hk.out⟩⟩
        case measure => simp [RowKit.intOf]
      | none =>
        have hb0 : Blk wr g 44 (row10 0 0 0 (d.day.getD 0) d.month ((d.year.map fixY).getD 0) false d.day.isSome (decide (d.month ≠ 0)) d.year.isSome) := Hb.out.eq (by rw [rowD, hc]; rfl)
        have c6 : wr.cell? ⟨g, 6, none⟩ = some (.bool false) := hb0.cell rfl
        cases hp : clockP s.data.toList with
        | none =>
          have HC := hid (time_any B g 0 0 0 (d.day.getD 0) d.month ((d.year.map fixY).getD 0) false d.day.isSome (decide (d.month ≠ 0)) d.year.isSome s hs wr hB hb0 HG.out none hp)
          have Hk := hid ((word0_no (d := d) hp).symm.trans Hword.out)
          have Hc := hid hc
          clear hb0 hp hc
          go_wp2_with fail
          refine HC.out.mono ?_
          rintro e w4 ⟨rfl, hb4, hbel4⟩
          have Hb4 := hid (hb4.eq (cs' := rowD d) (by rw [rowD, Hc.out]; rfl))
          have Hbel4 := hid (Hbel.out.trans hbel4)
          clear hb4 hbel4
          go_wp2
          go_roundw
          case rel => exact ⟨1, by omega, rfl, hid ⟨Hb4.out, Hbel4.out, Hk.out⟩⟩
          case measure => simp [RowKit.intOf]
        | some c =>
          have HC := hid (time_any B g 0 0 0 (d.day.getD 0) d.month ((d.year.map fixY).getD 0) false d.day.isSome (decide (d.month ≠ 0)) d.year.isSome s hs wr hB hb0 HG.out (some c) hp)
          have Hk := hid ((word0_yes hc hp).symm.trans Hword.out)
          have Hc := hid hc
          have Hp := hid hp
          clear hb0 hp hc
          go_wp2_with fail
          refine HC.out.mono ?_
          rintro e w4 ⟨rfl, hb4, hbel4⟩
          have c6' : w4.cell? ⟨g, 6, none⟩ = some (.bool false) := hb4.cell rfl
          have f6' := hb4.free 6
          have Hb4 := hid hb4
          have Hbel4 := hid (Hbel.out.trans hbel4)
          clear hb4 hbel4
          go_wp2
          refine bodyPost_ret (results_none rfl _ _ _) rfl ?_
          refine ⟨rfl, (Hb4.out.put 6 _).eq ?_, Hbel4.out.setCell hB _⟩
          rw [← Hk.out]
          first | rfl | (simp [rowD, row10, Hp.out])
    · have i0 : ∀ w, (Instr.index 53 (.agg #[Value.func (.func 32) #[.pointer (some ⟨g, 0, none⟩)] #[], .func (.func 33) #[.pointer (some ⟨g, 0, none⟩)] #[], .func (.func 34) #[.pointer (some ⟨g, 0, none⟩)] #[], .func (.func 35) #[.pointer (some ⟨g, 0, none⟩)] #[]]) (.int .i64 1)).run Tryd.prog w = .ok (.func (.func 33) #[.pointer (some ⟨g, 0, none⟩)] #[]) w := fun _ => by kernel_rfl
      cases hc : d.day with
      | some c =>
        have c6 : wr.cell? ⟨g, 7, none⟩ = some (.bool true) := Hb.out.cell (by rw [rowD, hc]; rfl)
        have Hk := hid ((word1_told hc s.data.toList).symm.trans Hword.out)
        clear hc
        go_wp2
        go_roundw
        case rel => exact ⟨2, by omega, rfl, hid ⟨Hb.out, Hbel.out, Hk.out⟩⟩
        case measure => simp [RowKit.intOf]
      | none =>
        have hb0 : Blk wr g 44 (row10 (d.clock.getD (0, 0, 0)).1 (d.clock.getD (0, 0, 0)).2.1 (d.clock.getD (0, 0, 0)).2.2 0 d.month ((d.year.map fixY).getD 0) d.clock.isSome false (decide (d.month ≠ 0)) d.year.isSome) := Hb.out.eq (by rw [rowD, hc]; rfl)
        have c6 : wr.cell? ⟨g, 7, none⟩ = some (.bool false) := hb0.cell rfl
        cases hp : numP s.data.toList 1 2 with
        | none =>
          have HC := hid (dayed_any B g (d.clock.getD (0, 0, 0)).1 (d.clock.getD (0, 0, 0)).2.1 (d.clock.getD (0, 0, 0)).2.2 0 d.month ((d.year.map fixY).getD 0) d.clock.isSome false (decide (d.month ≠ 0)) d.year.isSome s hs wr hB hb0 HG.out none hp)
          have Hk := hid ((word1_no (d := d) hp).symm.trans Hword.out)
          have Hc := hid hc
          clear hb0 hp hc
          go_wp2_with fail
          refine HC.out.mono ?_
          rintro e w4 ⟨rfl, hb4, hbel4⟩
          have Hb4 := hid (hb4.eq (cs' := rowD d) (by rw [rowD, Hc.out]; rfl))
          have Hbel4 := hid (Hbel.out.trans hbel4)
          clear hb4 hbel4
          go_wp2
          go_roundw
          case rel => exact ⟨2, by omega, rfl, hid ⟨Hb4.out, Hbel4.out, Hk.out⟩⟩
          case measure => simp [RowKit.intOf]
        | some c =>
          have HC := hid (dayed_any B g (d.clock.getD (0, 0, 0)).1 (d.clock.getD (0, 0, 0)).2.1 (d.clock.getD (0, 0, 0)).2.2 0 d.month ((d.year.map fixY).getD 0) d.clock.isSome false (decide (d.month ≠ 0)) d.year.isSome s hs wr hB hb0 HG.out (some c) hp)
          have Hk := hid ((word1_yes hc hp).symm.trans Hword.out)
          have Hc := hid hc
          have Hp := hid hp
          clear hb0 hp hc
          go_wp2_with fail
          refine HC.out.mono ?_
          rintro e w4 ⟨rfl, hb4, hbel4⟩
          have c6' : w4.cell? ⟨g, 7, none⟩ = some (.bool false) := hb4.cell rfl
          have f6' := hb4.free 7
          have Hb4 := hid hb4
          have Hbel4 := hid (Hbel.out.trans hbel4)
          clear hb4 hbel4
          go_wp2
          refine bodyPost_ret (results_none rfl _ _ _) rfl ?_
          refine ⟨rfl, (Hb4.out.put 7 _).eq ?_, Hbel4.out.setCell hB _⟩
          rw [← Hk.out]
          first | rfl | (simp [rowD, row10, Hp.out])
    · have i0 : ∀ w, (Instr.index 53 (.agg #[Value.func (.func 32) #[.pointer (some ⟨g, 0, none⟩)] #[], .func (.func 33) #[.pointer (some ⟨g, 0, none⟩)] #[], .func (.func 34) #[.pointer (some ⟨g, 0, none⟩)] #[], .func (.func 35) #[.pointer (some ⟨g, 0, none⟩)] #[]]) (.int .i64 2)).run Tryd.prog w = .ok (.func (.func 34) #[.pointer (some ⟨g, 0, none⟩)] #[]) w := fun _ => by kernel_rfl
      by_cases hc : d.month = 0
      case neg =>
        have c6 : wr.cell? ⟨g, 8, none⟩ = some (.bool true) := Hb.out.cell (by rw [rowD, decide_eq_true hc]; rfl)
        have Hk := hid ((word2_told hc s.data.toList).symm.trans Hword.out)
        clear hc
        go_wp2
        go_roundw
        case rel => exact ⟨3, by omega, rfl, hid ⟨Hb.out, Hbel.out, Hk.out⟩⟩
        case measure => simp [RowKit.intOf]
      case pos =>
        have hb0 : Blk wr g 44 (row10 (d.clock.getD (0, 0, 0)).1 (d.clock.getD (0, 0, 0)).2.1 (d.clock.getD (0, 0, 0)).2.2 (d.day.getD 0) 0 ((d.year.map fixY).getD 0) d.clock.isSome d.day.isSome false d.year.isSome) := Hb.out.eq (by rw [rowD, hc]; rfl)
        have c6 : wr.cell? ⟨g, 8, none⟩ = some (.bool false) := hb0.cell rfl
        by_cases hp : monthP s.data.toList = 0
        case pos =>
          have HC := hid (named_any B g (d.clock.getD (0, 0, 0)).1 (d.clock.getD (0, 0, 0)).2.1 (d.clock.getD (0, 0, 0)).2.2 (d.day.getD 0) 0 ((d.year.map fixY).getD 0) d.clock.isSome d.day.isSome false d.year.isSome s hs wr hB hb0 HG.out false 0 (.inr ⟨rfl, rfl, hp⟩))
          have Hk := hid ((word2_no (d := d) hp).symm.trans Hword.out)
          have Hc := hid hc
          clear hb0 hp hc
          go_wp2_with fail
          refine HC.out.mono ?_
          rintro e w4 ⟨rfl, hb4, hbel4⟩
          have Hb4 := hid (hb4.eq (cs' := rowD d) (by rw [rowD, Hc.out]; rfl))
          have Hbel4 := hid (Hbel.out.trans hbel4)
          clear hb4 hbel4
          go_wp2
          go_roundw
          case rel => exact ⟨3, by omega, rfl, hid ⟨Hb4.out, Hbel4.out, Hk.out⟩⟩
          case measure => simp [RowKit.intOf]
        case neg =>
          have HC := hid (named_any B g (d.clock.getD (0, 0, 0)).1 (d.clock.getD (0, 0, 0)).2.1 (d.clock.getD (0, 0, 0)).2.2 (d.day.getD 0) 0 ((d.year.map fixY).getD 0) d.clock.isSome d.day.isSome false d.year.isSome s hs wr hB hb0 HG.out true _ (.inl ⟨rfl, rfl, hp⟩))
          have Hk := hid ((word2_yes hc hp).symm.trans Hword.out)
          have Hc := hid hc
          have Hp := hid hp
          clear hb0 hp hc
          go_wp2_with fail
          refine HC.out.mono ?_
          rintro e w4 ⟨rfl, hb4, hbel4⟩
          have c6' : w4.cell? ⟨g, 8, none⟩ = some (.bool false) := hb4.cell rfl
          have f6' := hb4.free 8
          have Hb4 := hid hb4
          have Hbel4 := hid (Hbel.out.trans hbel4)
          clear hb4 hbel4
          go_wp2
          refine bodyPost_ret (results_none rfl _ _ _) rfl ?_
          refine ⟨rfl, (Hb4.out.put 8 _).eq ?_, Hbel4.out.setCell hB _⟩
          rw [← Hk.out]
          first | rfl | (simp [rowD, row10, Hp.out])
    · have i0 : ∀ w, (Instr.index 53 (.agg #[Value.func (.func 32) #[.pointer (some ⟨g, 0, none⟩)] #[], .func (.func 33) #[.pointer (some ⟨g, 0, none⟩)] #[], .func (.func 34) #[.pointer (some ⟨g, 0, none⟩)] #[], .func (.func 35) #[.pointer (some ⟨g, 0, none⟩)] #[]]) (.int .i64 3)).run Tryd.prog w = .ok (.func (.func 35) #[.pointer (some ⟨g, 0, none⟩)] #[]) w := fun _ => by kernel_rfl
      cases hc : d.year with
      | some c =>
        have c6 : wr.cell? ⟨g, 9, none⟩ = some (.bool true) := Hb.out.cell (by rw [rowD, hc]; rfl)
        have Hk := hid ((word3_told hc s.data.toList).symm.trans Hword.out)
        clear hc
        go_wp2
        go_roundw
        case rel => exact ⟨4, by omega, rfl, hid ⟨Hb.out, Hbel.out, Hk.out⟩⟩
        case measure => simp [RowKit.intOf]
      | none =>
        have hb0 : Blk wr g 44 (row10 (d.clock.getD (0, 0, 0)).1 (d.clock.getD (0, 0, 0)).2.1 (d.clock.getD (0, 0, 0)).2.2 (d.day.getD 0) d.month 0 d.clock.isSome d.day.isSome (decide (d.month ≠ 0)) false) := Hb.out.eq (by rw [rowD, hc]; rfl)
        have c6 : wr.cell? ⟨g, 9, none⟩ = some (.bool false) := hb0.cell rfl
        cases hp : numP s.data.toList 2 4 with
        | none =>
          have HC := hid (yeared_any B g (d.clock.getD (0, 0, 0)).1 (d.clock.getD (0, 0, 0)).2.1 (d.clock.getD (0, 0, 0)).2.2 (d.day.getD 0) d.month 0 d.clock.isSome d.day.isSome (decide (d.month ≠ 0)) false s hs wr hB hb0 HG.out none hp)
          have Hk := hid ((word3_no (d := d) hp).symm.trans Hword.out)
          have Hc := hid hc
          clear hb0 hp hc
          go_wp2_with fail
          refine HC.out.mono ?_
          rintro e w4 ⟨rfl, hb4, hbel4⟩
          have Hb4 := hid (hb4.eq (cs' := rowD d) (by rw [rowD, Hc.out]; rfl))
          have Hbel4 := hid (Hbel.out.trans hbel4)
          clear hb4 hbel4
          go_wp2
          go_roundw
          case rel => exact ⟨4, by omega, rfl, hid ⟨Hb4.out, Hbel4.out, Hk.out⟩⟩
          case measure => simp [RowKit.intOf]
        | some c =>
          have HC := hid (yeared_any B g (d.clock.getD (0, 0, 0)).1 (d.clock.getD (0, 0, 0)).2.1 (d.clock.getD (0, 0, 0)).2.2 (d.day.getD 0) d.month 0 d.clock.isSome d.day.isSome (decide (d.month ≠ 0)) false s hs wr hB hb0 HG.out (some c) hp)
          have Hk := hid ((word3_yes hc hp).symm.trans Hword.out)
          have Hc := hid hc
          have Hp := hid hp
          clear hb0 hp hc
          go_wp2_with fail
          refine HC.out.mono ?_
          rintro e w4 ⟨rfl, hb4, hbel4⟩
          have c6' : w4.cell? ⟨g, 9, none⟩ = some (.bool false) := hb4.cell rfl
          have f6' := hb4.free 9
          have Hb4 := hid hb4
          have Hbel4 := hid (Hbel.out.trans hbel4)
          clear hb4 hbel4
          go_wp2
          refine bodyPost_ret (results_none rfl _ _ _) rfl ?_
          refine ⟨rfl, (Hb4.out.put 9 _).eq ?_, Hbel4.out.setCell hB _⟩
          rw [← Hk.out]
          first | rfl | (simp [rowD, row10, Hp.out])
    · go_wp2
      go_end0
      exact ⟨rfl, Hword.out ▸ Hb.out, Hbel.out⟩
end Go.Proofs.YtnkfgedpdokcpaaDoor
