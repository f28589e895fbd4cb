/- Walks: the reference's between and word. -/
import Derived.Test.YthfndlphhgchnaaGreatDoorRk3
import Derived.Test.YthfndlphhgchnaaGreatDoorBlk
import Derived.Deep.DeepCutAuto
namespace Go.Proofs.YthfndlphhgchnaaGreatDoor
open Go.RowKit Go.Lib Go.Proofs.Foot

set_option maxRecDepth 100000 in
theorem betR_any (c : UInt8) (w : World) :
    Calls Tryz.prog 73 #[.int .u8 c.toNat] w fun e w' => e = .returned (.bool (betB c)) ∧ w = w' := by
  have hc := c.toNat_lt
  have hc256 : (c.toNat : Int) < 256 := by omega
  by_cases h9 : c.toNat = 9
  · have e9 : ((c.toNat : Int) == 9) = true := by rw [h9]; rfl
    have H := hid ((betB_iff c).2 (.inl h9))
    clear h9
    go_enter Tryz.func73, Tryz.ntmps73
    go_wp2
    go_ret
    exact ⟨ret_bool H.out.symm, rfl⟩
  have e9 : ((c.toNat : Int) == 9) = false := by rw [beq_eq_false_iff_ne]; omega
  have hiff := betB_iff c
  have Hiff := hid hiff
  clear hiff h9
  go_enter Tryz.func73, Tryz.ntmps73
  go_wp2
  all_goals go_ret
  all_goals refine ⟨ret_bool ?_, rfl⟩
  all_goals rw [Bool.eq_iff_iff, Hiff.out]
  all_goals have e9' := e9
  all_goals rw [beq_eq_false_iff_ne] at e9'
  all_goals first
    | (simp only [true_iff]; omega)
    | (simp only [Bool.false_eq_true, false_iff]; omega)
    | (simp only [Bool.or_eq_true, decide_eq_true_eq]; omega)
    | (rw [decide_eq_true_eq]; omega)

/-- The reference's cells of what was told. -/
def row9 (h i x k m y : Nat) (t0 t1 t2 : Bool) : Array Value :=
  #[.int .i64 h, .int .i64 i, .int .i64 x, .int .i64 k, .int .i64 m, .int .i64 y, .bool t0, .bool t1, .bool t2]
def rowR (d : Dt) : Array Value :=
  row9 (d.clock.getD (0, 0, 0)).1 (d.clock.getD (0, 0, 0)).2.1 (d.clock.getD (0, 0, 0)).2.2 (d.day.getD 0) d.month (d.year.getD 0) d.clock.isSome d.day.isSome d.year.isSome
def WordRR (B g : Nat) (cs : Array Value) (w : World) (e : Ending) (w' : World) : Prop := e = .returned (.tuple #[]) ∧ Blk w' g 96 cs ∧ Below B w w'

/-- What told answers, in one form. -/
theorem told_one (s : ByteArray) (a b : Nat) (A B : Int) (hA : A = a) (hB : B = b) (hb4 : b ≤ 4) (ha1 : 1 ≤ a) (hs : s.size ≤ 16777216) : ∃ kk : Nat, (0 < kk ↔ (numP s.data.toList a b).isSome = true) ∧
    ∀ w, Calls Tryz.prog 98 #[.string s, .int .i64 A, .int .i64 B] w fun e w' => e = .returned (.tuple #[.int .i64 ((numP s.data.toList a b).getD 0 : Nat), .int .i64 kk]) ∧ w = w' := by
  cases hn : numP s.data.toList a b with
  | none => exact ⟨0, by simp, fun w => told_no s a b A B hA hB hb4 hs hn w⟩
  | some n => exact ⟨(digsP s.data.toList).length, by have := (numP_some hn).1.1; simp; omega, fun w => told_yes s a b A B hA hB hb4 ha1 hs n hn w⟩
theorem skip0 {d : Dt} {l : List UInt8} (h : ((clockP l).isSome && !d.clock.isSome) = false) : word1 d l = word0 d l := by
  cases hp : clockP l with
  | none => exact (word0_no hp).symm
  | some q => cases hc : d.clock with
    | none => rw [hp, hc] at h; cases h
    | some r => exact (word0_told hc l).symm
theorem take0 {d : Dt} {l : List UInt8} (h : ((clockP l).isSome && !d.clock.isSome) = true) : ∃ q, clockP l = some q ∧ d.clock = none := by
  cases hp : clockP l with
  | none => rw [hp] at h; cases h
  | some q => cases hc : d.clock with
    | none => exact ⟨q, rfl, rfl⟩
    | some r => rw [hp, hc] at h; cases h
theorem skip1 {d : Dt} {l : List UInt8} (h : ((numP l 1 2).isSome && !d.day.isSome) = false) : word2 d l = word1 d l := by
  cases hp : numP l 1 2 with
  | none => exact (word1_no hp).symm
  | some q => cases hc : d.day with
    | none => rw [hp, hc] at h; cases h
    | some r => exact (word1_told hc l).symm
theorem take1 {d : Dt} {l : List UInt8} (h : ((numP l 1 2).isSome && !d.day.isSome) = true) : ∃ q, numP l 1 2 = some q ∧ d.day = none := by
  cases hp : numP l 1 2 with
  | none => rw [hp] at h; cases h
  | some q => cases hc : d.day with
    | none => exact ⟨q, rfl, rfl⟩
    | some r => rw [hp, hc] at h; cases h
theorem skip3 {d : Dt} {l : List UInt8} (h : ((numP l 2 4).isSome && !d.year.isSome) = false) : d = word3 d l := by
  cases hp : numP l 2 4 with
  | none => exact (word3_no hp).symm
  | some q => cases hc : d.year with
    | none => rw [hp, hc] at h; cases h
    | some r => exact (word3_told hc l).symm
theorem take3 {d : Dt} {l : List UInt8} (h : ((numP l 2 4).isSome && !d.year.isSome) = true) : ∃ q, numP l 2 4 = some q ∧ d.year = none := by
  cases hp : numP l 2 4 with
  | none => rw [hp] at h; cases h
  | some q => cases hc : d.year with
    | none => exact ⟨q, rfl, rfl⟩
    | some r => rw [hp, hc] at h; cases h
/-- Where the rules stand: the cells as they were, the rules from the j-th on. -/
def AtRule (B g j : Nat) (d : Dt) (l : List UInt8) (w wx : World) : Prop :=
  Blk wx g 96 (rowR d) ∧ Below B w wx ∧ (if j = 1 then word1 d l else if j = 2 then word2 d l else if j = 3 then word3 d l else d) = word0 d l

set_option maxHeartbeats 8000000 in
set_option maxRecDepth 100000 in
theorem wordR_any (B g : Nat) (d : Dt) (s : ByteArray) (hs : s.size ≤ 16777216) (w : World) (hB : B ≤ g) (hg : Blk w g 96 (rowR d)) :
    Calls Tryz.prog 74 #[.pointer (some ⟨g, 0, none⟩), .string s] w (WordRR B g (rowR (word0 d s.data.toList)) w) := by
  have hlt := hg.lt
  have Hg := hid hg
  clear hg
  have HC := hid (clock_any s hs w)
  obtain ⟨k1, hk1, HT1⟩ := told_one s 1 2 1 2 rfl rfl (by omega) (by omega) hs
  obtain ⟨k2, hk2, HT2⟩ := told_one s 2 4 2 4 rfl rfl (by omega) (by omega) hs
  have HT1' := hid HT1
  have HT2' := hid HT2
  have Hk1 := hid hk1
  have Hk2 := hid hk2
  have HM := hid (fun w => namedR_any s hs w)
  clear HT1 HT2 hk1 hk2
  obtain ⟨q1, hq1⟩ : ∃ q, q = ((clockP s.data.toList).isSome && !d.clock.isSome) := ⟨_, rfl⟩
  obtain ⟨o1, ho1⟩ : ∃ o, o = (clockP s.data.toList).isSome := ⟨_, rfl⟩
  obtain ⟨t1, ht1⟩ : ∃ o, o = d.clock.isSome := ⟨_, rfl⟩
  obtain ⟨q2, hq2⟩ : ∃ q, q = ((numP s.data.toList 1 2).isSome && !d.day.isSome) := ⟨_, rfl⟩
  obtain ⟨t2, ht2⟩ : ∃ o, o = d.day.isSome := ⟨_, rfl⟩
  obtain ⟨q4, hq4⟩ : ∃ q, q = ((numP s.data.toList 2 4).isSome && !d.year.isSome) := ⟨_, rfl⟩
  obtain ⟨t4, ht4⟩ : ∃ o, o = d.year.isSome := ⟨_, rfl⟩
  have Hq2 := hid hq2
  have Ht2 := hid ht2
  have Hq4 := hid hq4
  have Ht4 := hid ht4
  clear hq2 ht2 hq4 ht4
  have hBw : B ≤ w.heap.size := Nat.le_trans hB (Nat.le_of_lt hlt)
  have Hq1 := hid hq1
  have Ho1 := hid ho1
  have Ht1 := hid ht1
  clear hq1 ho1 ht1
  go_enter Tryz.func74, Tryz.ntmps74
  go_upto_region 1 with (go_at_call 97; refine HC.out.mono ?_; rintro e w' ⟨⟨a, b, c, rfl, hv⟩, rfl⟩; have Hv := hid hv; clear hv; rw [← Ho1.out])
  go_cut [4, 5, 6, 7, 24] (fun s4 s5 s6 _ v wx => v = .bool q1 ∧ s4 = .int .i64 a ∧ s5 = .int .i64 b ∧ s6 = .int .i64 c ∧ w = wx)
  case first =>
    have c6 : w.cell? ⟨g, 6, none⟩ = some (.bool t1) := Hg.out.cell (by rw [Ht1.out]; rfl)
    have Hx : Hid (q1 = (o1 && !t1)) := hid (by rw [Ho1.out, Ht1.out]; exact Hq1.out)
    cases o1 <;> cases t1 <;> (go_wp2; go_meet; exact ⟨by rw [Hx.out]; rfl, rfl, rfl, rfl, rfl⟩)
  case rest =>
    obtain ⟨rfl, rfl, rfl, rfl, rfl⟩ := hcut
    go_upto_if 24 with fail
    go_cut [4, 5, 6, 7] (fun _ _ _ _ wx => AtRule B g 1 d s.data.toList w wx)
    case first =>
      cases q1 with
      | false =>
        have Hk := hid (skip0 Hq1.out.symm)
        go_wp2
        go_meet
        exact ⟨Hg.out, Below.refl _ _, Hk.out⟩
      | true =>
        obtain ⟨q, hp, hc⟩ := take0 Hq1.out.symm
        have Hk := hid (word0_yes hc hp)
        have hg0 := Hg.out
        have e0 : rowR d = row9 0 0 0 (d.day.getD 0) d.month (d.year.getD 0) false d.day.isSome d.year.isSome := by rw [rowR, hc]; rfl
        rw [e0] at hg0
        have c0 : w.cell? ⟨g, 0, none⟩ = some (.int .i64 0) := hg0.cell rfl
        have c1 : w.cell? ⟨g, 1, none⟩ = some (.int .i64 0) := hg0.cell rfl
        have c2 : w.cell? ⟨g, 2, none⟩ = some (.int .i64 0) := hg0.cell rfl
        have c6 : w.cell? ⟨g, 6, none⟩ = some (.bool false) := hg0.cell rfl
        have f0 := hg0.free 0
        have f1 := hg0.free 1
        have f2 := hg0.free 2
        have f6 := hg0.free 6
        have Hg0 := hid hg0
        obtain ⟨ea, eb, ec⟩ := Hv.out q hp
        have Hea := hid ea
        have Heb := hid eb
        have Hec := hid ec
        clear hp hc hg0 e0 ea eb ec
        go_wp2
        refine bodyPost_ret (results_none rfl _ _ _) rfl ?_
        refine ⟨rfl, ((((Hg0.out.put 0 _).put 1 _).put 2 _).put 6 _).eq ?_, ((((Below.refl _ w).setCell hB _).setCell hB _).setCell hB _).setCell hB _⟩
        rw [Hk.out, Hea.out, Heb.out, Hec.out]; rfl
    case rest =>
      obtain ⟨hgb, hbel, hwj⟩ := hcut
      have Hgb := hid hgb
      have Hbel := hid hbel
      have Hwj := hid hwj
      clear hgb hbel hwj
      generalize wc = wa at *
      go_upto_region 7 with (go_at_call 98; refine (HT1'.out _).mono ?_; rintro e w' ⟨rfl, rfl⟩)
      go_cut [8, 9, 53] (fun s8 _ v wx => v = .bool q2 ∧ s8 = .int .i64 ((numP s.data.toList 1 2).getD 0 : Nat) ∧ wa = wx)
      case first =>
        have cf : wa.cell? ⟨g, 7, none⟩ = some (.bool t2) := Hgb.out.cell (by rw [Ht2.out]; rfl)
        have Hx : Hid (q2 = (decide (0 < k1) && !t2)) := hid (by
          rw [Hq2.out, Ht2.out]
          congr 1
          rw [Bool.eq_iff_iff, decide_eq_true_eq]; exact Hk1.out.symm)
        by_cases hk : 0 < k1
        · have hd : decide (0 < k1) = true := decide_eq_true hk
          cases t2 <;> (go_wp2; go_meet; exact ⟨by rw [Hx.out, hd]; rfl, rfl, rfl⟩)
        · have hd : decide (0 < k1) = false := decide_eq_false hk
          cases t2 <;> (go_wp2; go_meet; exact ⟨by rw [Hx.out, hd]; rfl, rfl, rfl⟩)
      case rest =>
        obtain ⟨rfl, rfl, rfl⟩ := hcut
        go_upto_if 53 with fail
        go_cut [8, 9] (fun _ _ wx => AtRule B g 2 d s.data.toList w wx)
        case first =>
          cases q2 with
          | false =>
            have Hk := hid ((skip1 Hq2.out.symm).trans Hwj.out)
            go_wp2
            go_meet
            exact ⟨Hgb.out, Hbel.out, Hk.out⟩
          | true =>
            obtain ⟨q, hp, hc⟩ := take1 Hq2.out.symm
            have Hk := hid (Hwj.out.symm.trans (word1_yes hc hp))
            have hg0 := Hgb.out
            have e0 : rowR d = row9 (d.clock.getD (0, 0, 0)).1 (d.clock.getD (0, 0, 0)).2.1 (d.clock.getD (0, 0, 0)).2.2 0 d.month (d.year.getD 0) d.clock.isSome false d.year.isSome := by rw [rowR, hc]; rfl
            rw [e0] at hg0
            have c0 : wa.cell? ⟨g, 3, none⟩ = some (.int .i64 0) := hg0.cell rfl
            have c6 : wa.cell? ⟨g, 7, none⟩ = some (.bool false) := hg0.cell rfl
            have f0 := hg0.free 3
            have f6 := hg0.free 7
            have Hg0 := hid hg0
            have Hp := hid hp
            clear hp hc hg0 e0
            go_wp2
            refine bodyPost_ret (results_none rfl _ _ _) rfl ?_
            refine ⟨rfl, ((Hg0.out.put 3 _).put 7 _).eq ?_, (Hbel.out.setCell hB _).setCell hB _⟩
            rw [Hk.out, Hp.out]; rfl
        case rest =>
          obtain ⟨hgb, hbel, hwj⟩ := hcut
          have Hgb := hid hgb
          have Hbel := hid hbel
          have Hwj := hid hwj
          have hlt2 := hgb.lt
          clear hgb hbel hwj
          generalize wc = wb at *
          obtain ⟨M, hM⟩ : ∃ M, M = monthP s.data.toList := ⟨_, rfl⟩
          obtain ⟨N, hN⟩ : ∃ N, N = d.month := ⟨_, rfl⟩
          obtain ⟨q3, hq3⟩ : ∃ q, q = (decide (0 < M) && decide (N = 0)) := ⟨_, rfl⟩
          rw [← hM] at HM
          have HM' := hid hM
          have HN' := hid hN
          have Hq3 := hid hq3
          clear hM hN hq3
          go_upto_region 10 with fail
          go_cut [70] (fun v wx => v = .bool q3 ∧ Blk wx g 96 (rowR d) ∧ Below B w wx)
          case first =>
            go_wp2_with fail
            refine (HM.out _).mono ?_
            rintro e w5 ⟨rfl, hb5⟩
            have Hg5 := hid (Hgb.out.keep hb5)
            have Hb5 := hid (Hbel.out.trans (hb5.mono (by omega)))
            have cf : w5.cell? ⟨g, 4, none⟩ = some (.int .i64 N) := Hg5.out.cell (by rw [HN'.out]; rfl)
            clear hb5
            by_cases hm : 0 < M
            · have hd : decide (0 < M) = true := decide_eq_true hm
              by_cases hn : N = 0
              · have hd2 : ((N : Int) == 0) = true := by rw [hn]; rfl
                have He := hid (decide_eq_true hn)
                clear hn
                go_wp2
                go_meet
                exact ⟨by rw [Hq3.out, hd, He.out]; rfl, Hg5.out, Hb5.out⟩
              · have hd2 : ((N : Int) == 0) = false := by rw [beq_eq_false_iff_ne]; omega
                have He := hid (decide_eq_false hn)
                clear hn
                go_wp2
                go_meet
                exact ⟨by rw [Hq3.out, hd, He.out]; rfl, Hg5.out, Hb5.out⟩
            · have hd : decide (0 < M) = false := decide_eq_false hm
              go_wp2
              go_meet
              exact ⟨by rw [Hq3.out, hd]; rfl, Hg5.out, Hb5.out⟩
          case rest =>
            obtain ⟨rfl, hgb, hbel⟩ := hcut
            have Hgb := hid hgb
            have Hbel := hid hbel
            have hlt3 := hgb.lt
            clear hgb hbel
            generalize wc = wd at *
            go_upto_if 70 with fail
            go_cut [] (fun wx => AtRule B g 3 d s.data.toList w wx)
            case first =>
              cases q3 with
              | false =>
                have Hk : Hid (word3 d s.data.toList = word0 d s.data.toList) := hid (by
                  refine Eq.trans ?_ Hwj.out
                  have h := Hq3.out
                  rw [HM'.out, HN'.out] at h
                  by_cases hm : monthP s.data.toList = 0
                  · exact (word2_no hm).symm
                  · refine (word2_told (fun hn => ?_) s.data.toList).symm
                    rw [decide_eq_true hn, decide_eq_true (Nat.pos_of_ne_zero hm)] at h; cases h)
                go_wp2
                go_meet
                exact ⟨Hgb.out, Hbel.out, Hk.out⟩
              | true =>
                have hboth : 0 < monthP s.data.toList ∧ d.month = 0 := by
                  have h := Hq3.out
                  rw [HM'.out, HN'.out] at h
                  simpa using h.symm
                have Hk := hid (Hwj.out.symm.trans (word2_yes hboth.2 (by omega)))
                have hg0 := Hgb.out
                have e0 : rowR d = row9 (d.clock.getD (0, 0, 0)).1 (d.clock.getD (0, 0, 0)).2.1 (d.clock.getD (0, 0, 0)).2.2 (d.day.getD 0) 0 (d.year.getD 0) d.clock.isSome d.day.isSome d.year.isSome := by rw [rowR, hboth.2]
                rw [e0] at hg0
                have Hg0 := hid hg0
                clear hboth hg0 e0
                go_wp2_with fail
                refine (HM.out _).mono ?_
                rintro e w5 ⟨rfl, hb5⟩
                have Hg5 := hid (Hg0.out.keep hb5)
                have Hb5 := hid (Hbel.out.trans (hb5.mono (by omega)))
                have c0 : w5.cell? ⟨g, 4, none⟩ = some (.int .i64 0) := Hg5.out.cell rfl
                have f0 := Hg5.out.free 4
                clear hb5
                go_wp2
                refine bodyPost_ret (results_none rfl _ _ _) rfl ?_
                refine ⟨rfl, (Hg5.out.put 4 _).eq ?_, Hb5.out.setCell hB _⟩
                rw [Hk.out, HM'.out]; rfl
            case rest =>
              obtain ⟨hgb, hbel, hwj⟩ := hcut
              have Hgb := hid hgb
              have Hbel := hid hbel
              have Hwj := hid hwj
              clear hgb hbel hwj
              generalize wc = we at *
              go_upto_region 13 with (go_at_call 98; refine (HT2'.out _).mono ?_; rintro e w' ⟨rfl, rfl⟩)
              go_cut [8, 9, 89] (fun s8 _ v wx => v = .bool q4 ∧ s8 = .int .i64 ((numP s.data.toList 2 4).getD 0 : Nat) ∧ we = wx)
              case first =>
                have cf : we.cell? ⟨g, 8, none⟩ = some (.bool t4) := Hgb.out.cell (by rw [Ht4.out]; rfl)
                have Hx : Hid (q4 = (decide (0 < k2) && !t4)) := hid (by
                  rw [Hq4.out, Ht4.out]
                  congr 1
                  rw [Bool.eq_iff_iff, decide_eq_true_eq]; exact Hk2.out.symm)
                by_cases hk : 0 < k2
                · have hd : decide (0 < k2) = true := decide_eq_true hk
                  cases t4 <;> (go_wp2; go_meet; exact ⟨by rw [Hx.out, hd]; rfl, rfl, rfl⟩)
                · have hd : decide (0 < k2) = false := decide_eq_false hk
                  cases t4 <;> (go_wp2; go_meet; exact ⟨by rw [Hx.out, hd]; rfl, rfl, rfl⟩)
              case rest =>
                obtain ⟨rfl, rfl, rfl⟩ := hcut
                cases q4 with
                | false =>
                  have Hk := hid ((skip3 Hq4.out.symm).trans Hwj.out)
                  go_wp2
                  go_end0
                  exact ⟨rfl, Hgb.out.eq (congrArg rowR Hk.out), Hbel.out⟩
                | true =>
                  obtain ⟨q, hp, hc⟩ := take3 Hq4.out.symm
                  have Hk := hid (Hwj.out.symm.trans (word3_yes hc hp))
                  have hg0 := Hgb.out
                  have e0 : rowR d = row9 (d.clock.getD (0, 0, 0)).1 (d.clock.getD (0, 0, 0)).2.1 (d.clock.getD (0, 0, 0)).2.2 (d.day.getD 0) d.month 0 d.clock.isSome d.day.isSome false := by rw [rowR, hc]; rfl
                  rw [e0] at hg0
                  have c0 : we.cell? ⟨g, 5, none⟩ = some (.int .i64 0) := hg0.cell rfl
                  have c6 : we.cell? ⟨g, 8, none⟩ = some (.bool false) := hg0.cell rfl
                  have f0 := hg0.free 5
                  have f6 := hg0.free 8
                  have Hg0 := hid hg0
                  have Hp := hid hp
                  clear hp hc hg0 e0
                  go_wp2
                  go_end0
                  refine ⟨rfl, ((Hg0.out.put 5 _).put 8 _).eq ?_, (Hbel.out.setCell hB _).setCell hB _⟩
                  rw [Hk.out, Hp.out]; rfl
end Go.Proofs.YthfndlphhgchnaaGreatDoor
