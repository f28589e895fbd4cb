/- Walk: sts.Parse. Printed by wip/gen_sts11.py out of XSt11base. -/
import Derived.Test.YtnmdcbneoipllaaDoorSt10
namespace Go.Proofs.YtnmdcbneoipllaaDoor
open Go.RowKit Go.Lib Go.Proofs.Foot

set_option maxHeartbeats 16000000 in
set_option maxRecDepth 100000 in
theorem parse_any (s : ByteArray) (hs : s.size ≤ 65536) (ha : Asc s.data.toList) (w : World) (G : GoodP w) :
    Calls Tryd.prog 13 #[.string s] w fun e w' => e = .returned (parseV (parseS s.data.toList)) ∧ Below w.heap.size w w' := by
  obtain ⟨T, hT⟩ : ∃ T : ByteArray, trimL s.data.toList = T.data.toList := ⟨⟨(trimL s.data.toList).toArray⟩, by simp⟩
  have hP0 := PS.start w s
  have HB := hid (blanks_any (w.heap.size + 1 + 1) s T hT _ hP0.rd)
  have HP0 := hid hP0
  have hTz : T.size ≤ s.size := by
    have := trimL_len s.data.toList
    rw [hT, ← Lib.size_eq, ← Lib.size_eq] at this; exact this
  have hmf : ∀ (fn : Fn) (first cap : Array Value) (w : World), (Instr.makeFunc fn first cap).run Tryd.prog w = .ok (.func fn first cap) w := fun _ _ _ _ => rfl
  have hmm := @run_makeMap Tryd.prog
  obtain ⟨res, hres⟩ : ∃ r, r = parseS s.data.toList := ⟨_, rfl⟩
  have HH : Hid (∀ w1, Rdd (w.heap.size + 1 + 1) ((((w.alloc (.cells #[.int .i64 0, .bool false] 23)).alloc (.cells #[.int .i64 0] 24)).alloc (.cells #[.string s] 47)).alloc (.map #[] 0)) T w1 → Head s w T.size w1) := hid (fun w1 hr => by
    refine ⟨T, ⟨[], 0, false⟩, rfl, by rw [← hT, trimL_trimL], ?_, by simpa using hTz, ha.of_suffix (by rw [← hT]; exact trimL_suffix _), hP0.rdd hr⟩
    unfold parseS finS
    rw [← hT, runS_trimL]
    have := trimL_len s.data.toList
    rw [← runS_trimL, ← runS_trimL (s.data.toList.length + 1)]
    rw [runS_fuel (T.size + 1) (s.data.toList.length + 1) _ _ (by rw [hT, Lib.size_eq]; omega) (by omega)])
  rw [← hres]
  clear hP0 hT
  go_enter_defers Tryd.func13, Tryd.ntmps13
  go_wp2_with fail
  refine HB.out.mono ?_
  rintro e w1 ⟨rfl, hr1⟩
  have H1 := hid (HH.out w1 hr1)
  clear hr1 HH HB HP0 hmm hmf
  go_wp2_with fail
  go_loopg [] T.size (fun k wr => Head s w k wr)
  case atStart => exact H1.out
  case round =>
    obtain ⟨S, st, hk, htr, hrun, hlen, hasc, hps⟩ := hrel
    have HP := hid hps
    have c1 := hps.rd.cell
    clear hps
    cases hl : S.data.toList with
    | nil =>
      have hSe : S = ⟨#[]⟩ := by
        apply bytes_ext; rw [hl]
      have hfin : (if st.told.contains maxAgeL then some (st.age, st.subs) else none) = res := by
        rw [hres, ← hrun, hl]; rfl
      have w0 : wr.cell? ⟨w.heap.size, 0, none⟩ = some (.int .i64 st.age) := by rw [cell_of_row _ _ _ _ _ _ HP.out.wish]; rfl
      have w1' : wr.cell? ⟨w.heap.size, 1, none⟩ = some (.bool st.subs) := by rw [cell_of_row _ _ _ _ _ _ HP.out.wish]; rfl
      have w2' : wr.cell? ⟨w.heap.size + 1, 0, none⟩ = some (.int .i64 0) := by rw [cell_of_row _ _ _ _ _ _ HP.out.errn]; rfl
      have f0 := frozen_of_heap HP.out.wish 0
      have f1 := frozen_of_heap HP.out.wish 1
      have f2 := frozen_of_heap HP.out.errn 0
      subst hSe
      cases hc : st.told.contains maxAgeL with
      | true =>
        rw [hc] at hfin
        have hlk := HP.out.told.look maxAgeT (by unfold maxLen; decide) true hc
        unfold maxAgeT at hlk
        have Hfin := hid hfin
        clear hl hk htr hrun hlen hasc hfin hres hc
        go_wp2_with fail
        refine (must_t _ rfl _).mono ?_
        rintro e w' ⟨rfl, rfl⟩
        go_wp2
        refine door_ret (st := st) ((((HP.out.aged st.age).subs_ st.subs)).err_) rfl _ rfl rfl _ ?_
        intro w' hb
        exact ⟨by rw [← Hfin.out]; rfl, hb⟩
      | false =>
        rw [hc] at hfin
        have hlk := HP.out.told.look maxAgeT (by unfold maxLen; decide) false hc
        unfold maxAgeT at hlk
        have Hfin := hid hfin
        clear hl hk htr hrun hlen hasc hfin hres hc
        go_wp2_with fail
        refine (must_f _ rfl _).mono ?_
        rintro e w' ⟨rfl, rfl⟩
        refine door_panic HP.out rfl _ rfl rfl _ ?_
        intro w' hb
        exact ⟨by rw [← Hfin.out]; rfl, hb⟩
    | cons d l =>
      have hne : S.toList.isEmpty = false := by rw [Lib.toList_data, hl]; rfl
      have hne2 : ¬ S.toList = [] := by rw [Lib.toList_data, hl]; simp
      have hSs : S.size ≤ 16777216 := by omega
      have HAt := hid (at_any (w.heap.size + 1 + 1) 59 S hSs _ HP.out.rd)
      cases hat : atS 59 S.data.toList with
      | some r =>
        have hone : oneS S.data.toList st = some (r, st) := by unfold oneS; rw [hat]
        have hrl := atS_len hat
        rw [← Lib.size_eq] at hrl
        obtain ⟨T2, hT2⟩ : ∃ T : ByteArray, trimL r = T.data.toList := ⟨⟨(trimL r).toArray⟩, by simp⟩
        have hT2l := trimL_len r
        rw [hT2, ← Lib.size_eq] at hT2l
        have hnext : ∀ wr', PS w.heap.size w wr' T2 st → Head s w T2.size wr' := fun wr' hp => by
          refine ⟨T2, st, rfl, by rw [← hT2, trimL_trimL], ?_, by omega, (hasc.of_suffix (atS_suffix hat)).of_suffix (by rw [← hT2]; exact trimL_suffix _), hp⟩
          rw [← hrun, runS_round (n := T2.size) htr (by rw [hl]; simp) (by rw [← Lib.size_eq]; omega) (fun r' st' h => by rw [hone] at h; injection h with h; injection h with h _; rw [← h, hT2, ← Lib.size_eq]; omega), hone]
          show _ = finS (runS (T2.size + 1) (trimL r) st)
          rw [hT2]
        have Hnext := hid hnext
        rw [hat] at HAt
        clear hl hlen hasc hrun htr hone hat hnext
        go_wp2_with fail
        refine HAt.out.mono ?_
        rintro e w2 ⟨R, hR, rfl, hr2⟩
        have hRr : R.data.toList = r := hR
        have P2 := hid (HP.out.rdd hr2)
        have HB2 := hid (blanks_any (w.heap.size + 1 + 1) R T2 (by rw [hRr]; exact hT2) _ P2.out.rd)
        clear hr2 hR HAt
        go_wp2_with fail
        refine HB2.out.mono ?_
        rintro e w3 ⟨rfl, hr3⟩
        have P3 := hid (P2.out.rdd hr3)
        clear hr3
        go_wp2
        go_roundg T2.size
        case rel => exact Hnext.out _ P3.out
        case measure => omega
      | none =>
        have hdir : oneS S.data.toList st = dirS S.data.toList st := by unfold oneS; rw [hat]
        have hnel : trimL S.data.toList ≠ [] := by rw [htr, hl]; simp
        have hstop : dirS S.data.toList st = none → res = none := fun h => by rw [hres]; exact Head.stop hnel hrun (hdir.trans h)
        have hnext : ∀ r st', dirS S.data.toList st = some (r, st') → (∃ p, S.data.toList = p ++ r) → st'.told.length ≤ st.told.length + 1 → ∀ T2 : ByteArray, trimL r = T2.data.toList → ∀ wr', PS w.heap.size w wr' T2 st' → Head s w T2.size wr' ∧ T2.size < gk := fun r st' h h1 h2 T2 hT2 wr' hp =>
          ⟨Head.next hk htr (by rw [hl]; simp) hrun hlen hasc (hdir.trans h) h1 h2 hT2 hp, by
            have a := oneS_len (hdir.trans h)
            have b := trimL_len r
            rw [hT2, ← Lib.size_eq] at b
            rw [← Lib.size_eq] at a
            omega⟩
        have Hstop := hid hstop
        have Hnext := hid hnext
        have hmx : st.told.length < maxLen := by unfold maxLen; omega
        rw [hat] at HAt
        clear hl hrun hat hstop hnext hdir hnel hres
        go_wp2_with fail
        refine HAt.out.mono ?_
        rintro e w2 ⟨R, hR, rfl, hr2⟩
        have hRS : R = S := bytes_ext (Eq.trans hR htr)
        rw [hRS] at hr2
        have P2 := hid (HP.out.rdd hr2)
        have HW : Hid (Calls Tryd.prog 26 #[.pointer (some ⟨w.heap.size + 1 + 1, 0, none⟩)] w2 (WordR (w.heap.size + 1 + 1) w2 (wordS S.data.toList))) := hid (word_any _ S hSs hasc _ P2.out.rd)
        clear hr2 hR HAt hRS
        go_wp2_with fail
        refine HW.out.mono ?_
        intro e w3 h3
        cases hw : wordS S.data.toList with
        | none =>
          rw [hw] at h3
          obtain ⟨rfl, R3, hr3⟩ := h3
          refine door_panic (P2.out.rdd hr3) rfl _ rfl rfl _ ?_
          intro w' hb
          exact ⟨by rw [Hstop.out (by unfold dirS; rw [hw]; rfl)], hb⟩
        | some p =>
          obtain ⟨v, r1⟩ := p
          rw [hw] at h3
          obtain ⟨V, R1, hV, hR1, rfl, hr3⟩ := h3
          have P3 := hid (P2.out.rdd hr3)
          have hvl := wordS_vlen hw
          rw [← Lib.size_eq] at hvl
          have hVs : V.size ≤ 16777216 := by rw [Lib.size_eq, hV]; omega
          obtain ⟨N, hN⟩ : ∃ N : ByteArray, lower V.data.toList = N.data.toList := ⟨⟨(lower V.data.toList).toArray⟩, by simp⟩
          have hNs : N.size ≤ maxLen := by rw [Lib.size_eq, ← hN]; unfold lower; rw [List.length_map, ← Lib.size_eq]; unfold maxLen; omega
          have HL := hid (lower_is V N hVs hN)
          rw [hV] at hN
          have r1l := wordS_len hw
          rw [← Lib.size_eq] at r1l
          have hR1s : R1.size ≤ 16777216 := by rw [Lib.size_eq, hR1]; omega
          clear hr3 hvl
          go_wp2_with fail
          refine (HL.out _).mono ?_
          rintro e w4 ⟨rfl, hb4⟩
          have P4 := hid (P3.out.more hb4)
          clear hb4
          cases hc : st.told.contains (lower v) with
          | true =>
            have hlk := P4.out.told.look N hNs true (by rw [← hN]; exact hc)
            go_wp2_with fail
            refine (must_f _ rfl _).mono ?_
            rintro e w' ⟨rfl, rfl⟩
            refine door_panic P4.out rfl _ rfl rfl _ ?_
            intro w' hb
            exact ⟨by rw [Hstop.out (by unfold dirS; rw [hw]; simp only [Option.bind_some]; rw [hc]; rfl)], hb⟩
          | false =>
            have hlk := P4.out.told.look N hNs false (by rw [← hN]; exact hc)
            obtain ⟨w5, hup, ht5, hg5⟩ := P4.out.told.update hmx N hNs
            rw [← hN] at ht5
            have P5 := hid (P4.out.tell ht5 hg5)
            have HA2 := hid (at_any (w.heap.size + 1 + 1) 61 R1 hR1s _ P5.out.rd)
            rw [hR1] at HA2
            clear ht5 hg5
            go_wp2_with fail
            refine (must_t _ rfl _).mono ?_
            rintro e w' ⟨rfl, rfl⟩
            clear hlk
            have HG := hid G
            go_wp2_with fail
            refine HA2.out.mono ?_
            cases hq : atS 61 r1 with
            | some r2 =>
              rintro e w6 ⟨R2, hR2, rfl, hr6⟩
              have hR2' : R2.data.toList = r2 := hR2
              have P6 := hid (P5.out.rdd hr6)
              have r2l := atS_len hq
              have hR2s : R2.size ≤ 65536 := by rw [Lib.size_eq, hR2']; omega
              have hasc2 : Asc R2.data.toList := by rw [hR2']; exact (hasc.of_suffix (wordS_suffix hw)).of_suffix (atS_suffix hq)
              have HV : Hid (Calls Tryd.prog 28 #[.pointer (some ⟨w.heap.size + 1 + 1, 0, none⟩)] w6 (WordR (w.heap.size + 1 + 1) w6 (valS R2.data.toList))) := hid (value_any _ R2 (by omega) hasc2 _ P6.out.rd)
              rw [hR2'] at HV
              clear hr6
              go_wp2_with fail
              refine HV.out.mono ?_
              intro e w7 h7
              cases hv : valS r2 with
              | none =>
                rw [hv] at h7
                obtain ⟨rfl, R7, hr7⟩ := h7
                have hsays : saysS r1 = none := by unfold saysS; rw [hq]; simp only; rw [hv]; rfl
                refine door_panic (P6.out.rdd hr7) rfl _ rfl rfl _ ?_
                intro w' hb
                exact ⟨by rw [Hstop.out (by unfold dirS; rw [hw]; simp only [Option.bind_some]; rw [hc]; simp only [Bool.false_eq_true, if_false, hsays]; rfl)], hb⟩
              | some p =>
                obtain ⟨v2, r3⟩ := p
                rw [hv] at h7
                obtain ⟨V2, R7, hV2, hR7, rfl, hr7⟩ := h7
                have P7 := hid (P6.out.rdd hr7)
                have hsays : saysS r1 = some (v2, true, r3) := by unfold saysS; rw [hq]; simp only; rw [hv]; rfl
                have hsuf3 := suf_trans (wordS_suffix hw) (suf_trans (atS_suffix hq) (valS_suffix hv))
                have hR3 : trimL R7.data.toList = trimL r3 := by rw [hR7]
                have r3l := valS_len hv
                have v2l := valS_vlen hv
                have hR7s : R7.size ≤ 16777216 := by rw [Lib.size_eq, hR7]; omega
                have hV2m : V2.size ≤ 1048576 := by rw [Lib.size_eq, hV2]; omega
                have hV2s : V2.size ≤ 16777216 := by omega
                clear hr7 HV
                have w0 : _ := cell_of_row _ _ 0 _ _ _ P7.out.wish
                have w1' : _ := cell_of_row _ _ 1 _ _ _ P7.out.wish
                have f0 := frozen_of_heap P7.out.wish 0
                have f1 := frozen_of_heap P7.out.wish 1
                by_cases hm : lower v = maxAgeL
                · obtain rfl : N = ⟨#[109, 97, 120, 45, 97, 103, 101]⟩ := bytes_ext (by rw [← hN, hm]; rfl)
                  cases hag : ageS v2 with
                  | none =>
                    have hset : setS st (lower v) v2 true = none := by unfold setS; rw [if_pos hm, hag]; rfl
                    have HAg := hid (age_no V2 hV2s (by rw [hV2]; exact hag))
                    go_wp2_with fail
                    refine (HAg.out _).mono ?_
                    rintro e w8 ⟨rfl, hb8⟩
                    refine door_panic (P7.out.more hb8) rfl _ rfl rfl _ ?_
                    intro w' hb
                    exact ⟨by rw [Hstop.out (by unfold dirS; rw [hw]; simp only [Option.bind_some]; rw [hc]; simp only [Bool.false_eq_true, if_false, hsays, Option.bind_some, hset]; rfl)], hb⟩
                  | some n =>
                    have hset : setS st (lower v) v2 true = some ⟨lower v :: st.told, n, st.subs⟩ := by unfold setS; rw [if_pos hm, hag]; rfl
                    have HAg := hid (fun w G => age_yes V2 hV2m n (by rw [hV2]; exact hag) w G)
                    clear w0 w1' f0 f1
                    go_wp2_with fail
                    refine (HAg.out _ (HG.out.below P7.out.below)).mono ?_
                    rintro e w8 ⟨rfl, hb8⟩
                    have P8a := hid (P7.out.more hb8)
                    have w0 : w8.cell? ⟨w.heap.size, 0, none⟩ = some (.int .i64 st.age) := by rw [cell_of_row _ _ _ _ _ _ P8a.out.wish]; rfl
                    have f0 := frozen_of_heap P8a.out.wish 0
                    have P8 := hid (P8a.out.aged n)
                    clear hb8
                    obtain ⟨T4, hT4⟩ : ∃ T : ByteArray, trimL R7.data.toList = T.data.toList := ⟨⟨(trimL R7.data.toList).toArray⟩, by simp⟩
                    have HB4 := hid (blanks_any (w.heap.size + 1 + 1) R7 T4 hT4 _ P8.out.rd)
                    go_wp2_with fail
                    refine HB4.out.mono ?_
                    rintro e w10 ⟨rfl, hr10⟩
                    have P10 := hid (P8.out.rdd hr10)
                    have c10 := P10.out.rd.cell
                    have hT4s : T4.size ≤ 16777216 := by
                      have a := trimL_len R7.data.toList
                      rw [hT4, ← Lib.size_eq, ← Lib.size_eq] at a; omega
                    clear hr10 HB4
                    cases hl4 : T4.data.toList with
                    | nil =>
                      have hend : endS r3 = some [] := by unfold endS; rw [← hR3, hT4, hl4]
                      have hT4e : T4 = ⟨#[]⟩ := by
                        apply bytes_ext; rw [hl4]
                      have Hn := hid (Hnext.out [] _ (by unfold dirS; rw [hw]; simp only [Option.bind_some]; rw [hc]; simp only [Bool.false_eq_true, if_false, hsays, Option.bind_some, hset, hend]; rfl) ⟨_, (List.append_nil _).symm⟩ (by simp))
                      subst hT4e
                      have HB5 := hid (blanks_any (w.heap.size + 1 + 1) ⟨#[]⟩ ⟨#[]⟩ rfl _ P10.out.rd)
                      clear hl4 hend hset hT4
                      go_wp2_with fail
                      refine (must_t _ rfl _).mono ?_
                      rintro e w' ⟨rfl, rfl⟩
                      go_wp2_with fail
                      refine HB5.out.mono ?_
                      rintro e w12 ⟨rfl, hr12⟩
                      have P12 := hid (P10.out.rdd hr12)
                      clear hr12
                      have Hf := hid (Hn.out ⟨#[]⟩ rfl _ P12.out)
                      go_wp2
                      go_roundg 0
                      case rel => exact Hf.out.1
                      case measure => exact Hf.out.2
                    | cons d4 l4 =>
                      have hne4 : T4.toList.isEmpty = false := by rw [Lib.toList_data, hl4]; rfl
                      have hne4' : ¬ T4.toList = [] := by rw [Lib.toList_data, hl4]; simp
                      have hat4 : atS 59 T4.data.toList = if d4 = 59 then some l4 else none := by
                        unfold atS; rw [← hT4, trimL_trimL, hT4, hl4]
                      have HA4 := hid (at_any (w.heap.size + 1 + 1) 59 T4 hT4s _ P10.out.rd)
                      rw [hat4] at HA4
                      have hend0 : endS r3 = if d4 = 59 then some l4 else none := by unfold endS; rw [← hR3, hT4, hl4]
                      by_cases h59 : d4 = 59
                      · rw [if_pos h59] at HA4 hend0
                        obtain ⟨T5, hT5⟩ : ∃ T : ByteArray, trimL l4 = T.data.toList := ⟨⟨(trimL l4).toArray⟩, by simp⟩
                        have Hn := hid (Hnext.out l4 _ (by unfold dirS; rw [hw]; simp only [Option.bind_some]; rw [hc]; simp only [Bool.false_eq_true, if_false, hsays, Option.bind_some, hset, hend0]; rfl) (suf_trans hsuf3 (endS_suffix hend0)) (by simp))
                        clear hl4 hend0 hset hT4 hat4
                        go_wp2_with fail
                        refine HA4.out.mono ?_
                        rintro e w11 ⟨R11, hR11, rfl, hr11⟩
                        have P11 := hid (P10.out.rdd hr11)
                        have HB5 := hid (blanks_any (w.heap.size + 1 + 1) R11 T5 (by rw [← hT5]; exact congrArg trimL hR11) _ P11.out.rd)
                        clear hr11 hR11 HA4
                        go_wp2_with fail
                        refine (must_t _ rfl _).mono ?_
                        rintro e w' ⟨rfl, rfl⟩
                        go_wp2_with fail
                        refine HB5.out.mono ?_
                        rintro e w12 ⟨rfl, hr12⟩
                        have P12 := hid (P11.out.rdd hr12)
                        clear hr12
                        have Hf := hid (Hn.out T5 hT5 _ P12.out)
                        go_wp2
                        go_roundg T5.size
                        case rel => exact Hf.out.1
                        case measure => exact Hf.out.2
                      · rw [if_neg h59] at HA4 hend0
                        clear hl4 hT4 hat4
                        go_wp2_with fail
                        refine HA4.out.mono ?_
                        rintro e w11 ⟨R11, hR11, rfl, hr11⟩
                        have P11 := hid (P10.out.rdd hr11)
                        clear hr11 hR11 HA4
                        go_wp2_with fail
                        refine (must_f _ rfl _).mono ?_
                        rintro e w' ⟨rfl, rfl⟩
                        refine door_panic P11.out rfl _ rfl rfl _ ?_
                        intro w' hb
                        exact ⟨by rw [Hstop.out (by unfold dirS; rw [hw]; simp only [Option.bind_some]; rw [hc]; simp only [Bool.false_eq_true, if_false, hsays, Option.bind_some, hset, hend0]; rfl)], hb⟩
                · have hn1 : (N.toList == (⟨#[109, 97, 120, 45, 97, 103, 101]⟩ : ByteArray).toList) = false := by
                    rw [beq_eq_false_iff_ne, Lib.toList_data, Lib.toList_data, ← hN]; exact hm
                  have hn1a : (N.toList == [109, 97, 120, 45, 97, 103, 101]) = false := by
                    rw [beq_eq_false_iff_ne, Lib.toList_data, ← hN]; exact hm
                  have hn1b : ¬ N.toList = [109, 97, 120, 45, 97, 103, 101] := by
                    rw [Lib.toList_data, ← hN]; exact hm
                  by_cases hi : lower v = inclL
                  · obtain rfl : N = ⟨#[105, 110, 99, 108, 117, 100, 101, 115, 117, 98, 100, 111, 109, 97, 105, 110, 115]⟩ := bytes_ext (by rw [← hN, hi]; rfl)
                    clear hn1 hn1a hn1b
                    have hset : setS st (lower v) v2 true = none := by unfold setS; rw [if_neg hm, if_pos hi]; rfl
                    go_wp2_with fail
                    refine (must_f _ (by first | rfl | simp) _).mono ?_
                    rintro e w' ⟨rfl, rfl⟩
                    refine door_panic P7.out rfl _ rfl rfl _ ?_
                    intro w' hb
                    exact ⟨by rw [Hstop.out (by unfold dirS; rw [hw]; simp only [Option.bind_some]; rw [hc]; simp only [Bool.false_eq_true, if_false, hsays, Option.bind_some, hset]; rfl)], hb⟩
                  · have hn2 : (N.toList == (⟨#[105, 110, 99, 108, 117, 100, 101, 115, 117, 98, 100, 111, 109, 97, 105, 110, 115]⟩ : ByteArray).toList) = false := by
                      rw [beq_eq_false_iff_ne, Lib.toList_data, Lib.toList_data, ← hN]; exact hi
                    have hn2a : (N.toList == [105, 110, 99, 108, 117, 100, 101, 115, 117, 98, 100, 111, 109, 97, 105, 110, 115]) = false := by
                      rw [beq_eq_false_iff_ne, Lib.toList_data, ← hN]; exact hi
                    have hn2b : ¬ N.toList = [105, 110, 99, 108, 117, 100, 101, 115, 117, 98, 100, 111, 109, 97, 105, 110, 115] := by
                      rw [Lib.toList_data, ← hN]; exact hi
                    have hset : setS st (lower v) v2 true = some ⟨lower v :: st.told, st.age, st.subs⟩ := by unfold setS; rw [if_neg hm, if_neg hi]
                    obtain ⟨T4, hT4⟩ : ∃ T : ByteArray, trimL R7.data.toList = T.data.toList := ⟨⟨(trimL R7.data.toList).toArray⟩, by simp⟩
                    have HB4 := hid (blanks_any (w.heap.size + 1 + 1) R7 T4 hT4 _ P7.out.rd)
                    go_wp2_with fail
                    refine HB4.out.mono ?_
                    rintro e w10 ⟨rfl, hr10⟩
                    have P10 := hid (P7.out.rdd hr10)
                    have c10 := P10.out.rd.cell
                    have hT4s : T4.size ≤ 16777216 := by
                      have a := trimL_len R7.data.toList
                      rw [hT4, ← Lib.size_eq, ← Lib.size_eq] at a; omega
                    clear hr10 HB4
                    cases hl4 : T4.data.toList with
                    | nil =>
                      have hend : endS r3 = some [] := by unfold endS; rw [← hR3, hT4, hl4]
                      have hT4e : T4 = ⟨#[]⟩ := by
                        apply bytes_ext; rw [hl4]
                      have Hn := hid (Hnext.out [] _ (by unfold dirS; rw [hw]; simp only [Option.bind_some]; rw [hc]; simp only [Bool.false_eq_true, if_false, hsays, Option.bind_some, hset, hend]; rfl) ⟨_, (List.append_nil _).symm⟩ (by simp))
                      subst hT4e
                      have HB5 := hid (blanks_any (w.heap.size + 1 + 1) ⟨#[]⟩ ⟨#[]⟩ rfl _ P10.out.rd)
                      clear hl4 hend hset hT4
                      go_wp2_with fail
                      refine (must_t _ rfl _).mono ?_
                      rintro e w' ⟨rfl, rfl⟩
                      go_wp2_with fail
                      refine HB5.out.mono ?_
                      rintro e w12 ⟨rfl, hr12⟩
                      have P12 := hid (P10.out.rdd hr12)
                      clear hr12
                      have Hf := hid (Hn.out ⟨#[]⟩ rfl _ P12.out)
                      go_wp2
                      go_roundg 0
                      case rel => exact Hf.out.1
                      case measure => exact Hf.out.2
                    | cons d4 l4 =>
                      have hne4 : T4.toList.isEmpty = false := by rw [Lib.toList_data, hl4]; rfl
                      have hne4' : ¬ T4.toList = [] := by rw [Lib.toList_data, hl4]; simp
                      have hat4 : atS 59 T4.data.toList = if d4 = 59 then some l4 else none := by
                        unfold atS; rw [← hT4, trimL_trimL, hT4, hl4]
                      have HA4 := hid (at_any (w.heap.size + 1 + 1) 59 T4 hT4s _ P10.out.rd)
                      rw [hat4] at HA4
                      have hend0 : endS r3 = if d4 = 59 then some l4 else none := by unfold endS; rw [← hR3, hT4, hl4]
                      by_cases h59 : d4 = 59
                      · rw [if_pos h59] at HA4 hend0
                        obtain ⟨T5, hT5⟩ : ∃ T : ByteArray, trimL l4 = T.data.toList := ⟨⟨(trimL l4).toArray⟩, by simp⟩
                        have Hn := hid (Hnext.out l4 _ (by unfold dirS; rw [hw]; simp only [Option.bind_some]; rw [hc]; simp only [Bool.false_eq_true, if_false, hsays, Option.bind_some, hset, hend0]; rfl) (suf_trans hsuf3 (endS_suffix hend0)) (by simp))
                        clear hl4 hend0 hset hT4 hat4
                        go_wp2_with fail
                        refine HA4.out.mono ?_
                        rintro e w11 ⟨R11, hR11, rfl, hr11⟩
                        have P11 := hid (P10.out.rdd hr11)
                        have HB5 := hid (blanks_any (w.heap.size + 1 + 1) R11 T5 (by rw [← hT5]; exact congrArg trimL hR11) _ P11.out.rd)
                        clear hr11 hR11 HA4
                        go_wp2_with fail
                        refine (must_t _ rfl _).mono ?_
                        rintro e w' ⟨rfl, rfl⟩
                        go_wp2_with fail
                        refine HB5.out.mono ?_
                        rintro e w12 ⟨rfl, hr12⟩
                        have P12 := hid (P11.out.rdd hr12)
                        clear hr12
                        have Hf := hid (Hn.out T5 hT5 _ P12.out)
                        go_wp2
                        go_roundg T5.size
                        case rel => exact Hf.out.1
                        case measure => exact Hf.out.2
                      · rw [if_neg h59] at HA4 hend0
                        clear hl4 hT4 hat4
                        go_wp2_with fail
                        refine HA4.out.mono ?_
                        rintro e w11 ⟨R11, hR11, rfl, hr11⟩
                        have P11 := hid (P10.out.rdd hr11)
                        clear hr11 hR11 HA4
                        go_wp2_with fail
                        refine (must_f _ rfl _).mono ?_
                        rintro e w' ⟨rfl, rfl⟩
                        refine door_panic P11.out rfl _ rfl rfl _ ?_
                        intro w' hb
                        exact ⟨by rw [Hstop.out (by unfold dirS; rw [hw]; simp only [Option.bind_some]; rw [hc]; simp only [Bool.false_eq_true, if_false, hsays, Option.bind_some, hset, hend0]; rfl)], hb⟩
            | none =>
              rintro e w6 ⟨R2, hR2, rfl, hr6⟩
              have P6 := hid (P5.out.rdd hr6)
              have hsays : saysS r1 = some ([], false, r1) := by unfold saysS; rw [hq]
              have hsuf3 : ∃ p, S.data.toList = p ++ r1 := wordS_suffix hw
              obtain ⟨r3, hr3⟩ : ∃ r3, r3 = r1 := ⟨_, rfl⟩
              rw [← hr3] at hsuf3
              have hR3 : trimL R2.data.toList = trimL r3 := by rw [hr3]; exact (congrArg trimL hR2).trans (trimL_trimL _)
              have hsays : saysS r1 = some ([], false, r3) := by rw [hr3]; exact hsays
              have hR2s : R2.size ≤ 16777216 := by
                have a := trimL_len r1
                rw [Lib.size_eq, show R2.data.toList = trimL r1 from hR2]; omega
              obtain ⟨V2, hV2⟩ : ∃ V2 : ByteArray, V2 = ⟨#[]⟩ := ⟨_, rfl⟩
              have hV2s : (⟨#[]⟩ : ByteArray).size ≤ 16777216 := by decide
              have hV2m : (⟨#[]⟩ : ByteArray).size ≤ 1048576 := by decide
              have hV2 : (⟨#[]⟩ : ByteArray).data.toList = [] := rfl
              clear hr6
              have w0 : _ := cell_of_row _ _ 0 _ _ _ P6.out.wish
              have w1' : _ := cell_of_row _ _ 1 _ _ _ P6.out.wish
              have f0 := frozen_of_heap P6.out.wish 0
              have f1 := frozen_of_heap P6.out.wish 1
              by_cases hm : lower v = maxAgeL
              · obtain rfl : N = ⟨#[109, 97, 120, 45, 97, 103, 101]⟩ := bytes_ext (by rw [← hN, hm]; rfl)
                cases hag : ageS [] with
                | none =>
                  have hset : setS st (lower v) [] false = none := by unfold setS; rw [if_pos hm, hag]; rfl
                  have HAg := hid (age_no ⟨#[]⟩ hV2s (by rw [hV2]; exact hag))
                  go_wp2_with fail
                  refine (HAg.out _).mono ?_
                  rintro e w8 ⟨rfl, hb8⟩
                  refine door_panic (P6.out.more hb8) rfl _ rfl rfl _ ?_
                  intro w' hb
                  exact ⟨by rw [Hstop.out (by unfold dirS; rw [hw]; simp only [Option.bind_some]; rw [hc]; simp only [Bool.false_eq_true, if_false, hsays, Option.bind_some, hset]; rfl)], hb⟩
                | some n =>
                  have hset : setS st (lower v) [] false = some ⟨lower v :: st.told, n, st.subs⟩ := by unfold setS; rw [if_pos hm, hag]; rfl
                  have HAg := hid (fun w G => age_yes ⟨#[]⟩ hV2m n (by rw [hV2]; exact hag) w G)
                  clear w0 w1' f0 f1
                  go_wp2_with fail
                  refine (HAg.out _ (HG.out.below P6.out.below)).mono ?_
                  rintro e w8 ⟨rfl, hb8⟩
                  have P8a := hid (P6.out.more hb8)
                  have w0 : w8.cell? ⟨w.heap.size, 0, none⟩ = some (.int .i64 st.age) := by rw [cell_of_row _ _ _ _ _ _ P8a.out.wish]; rfl
                  have f0 := frozen_of_heap P8a.out.wish 0
                  have P8 := hid (P8a.out.aged n)
                  clear hb8
                  obtain ⟨T4, hT4⟩ : ∃ T : ByteArray, trimL R2.data.toList = T.data.toList := ⟨⟨(trimL R2.data.toList).toArray⟩, by simp⟩
                  have HB4 := hid (blanks_any (w.heap.size + 1 + 1) R2 T4 hT4 _ P8.out.rd)
                  go_wp2_with fail
                  refine HB4.out.mono ?_
                  rintro e w10 ⟨rfl, hr10⟩
                  have P10 := hid (P8.out.rdd hr10)
                  have c10 := P10.out.rd.cell
                  have hT4s : T4.size ≤ 16777216 := by
                    have a := trimL_len R2.data.toList
                    rw [hT4, ← Lib.size_eq, ← Lib.size_eq] at a; omega
                  clear hr10 HB4
                  cases hl4 : T4.data.toList with
                  | nil =>
                    have hend : endS r3 = some [] := by unfold endS; rw [← hR3, hT4, hl4]
                    have hT4e : T4 = ⟨#[]⟩ := by
                      apply bytes_ext; rw [hl4]
                    have Hn := hid (Hnext.out [] _ (by unfold dirS; rw [hw]; simp only [Option.bind_some]; rw [hc]; simp only [Bool.false_eq_true, if_false, hsays, Option.bind_some, hset, hend]; rfl) ⟨_, (List.append_nil _).symm⟩ (by simp))
                    subst hT4e
                    have HB5 := hid (blanks_any (w.heap.size + 1 + 1) ⟨#[]⟩ ⟨#[]⟩ rfl _ P10.out.rd)
                    clear hl4 hend hset hT4
                    go_wp2_with fail
                    refine (must_t _ rfl _).mono ?_
                    rintro e w' ⟨rfl, rfl⟩
                    go_wp2_with fail
                    refine HB5.out.mono ?_
                    rintro e w12 ⟨rfl, hr12⟩
                    have P12 := hid (P10.out.rdd hr12)
                    clear hr12
                    have Hf := hid (Hn.out ⟨#[]⟩ rfl _ P12.out)
                    go_wp2
                    go_roundg 0
                    case rel => exact Hf.out.1
                    case measure => exact Hf.out.2
                  | cons d4 l4 =>
                    have hne4 : T4.toList.isEmpty = false := by rw [Lib.toList_data, hl4]; rfl
                    have hne4' : ¬ T4.toList = [] := by rw [Lib.toList_data, hl4]; simp
                    have hat4 : atS 59 T4.data.toList = if d4 = 59 then some l4 else none := by
                      unfold atS; rw [← hT4, trimL_trimL, hT4, hl4]
                    have HA4 := hid (at_any (w.heap.size + 1 + 1) 59 T4 hT4s _ P10.out.rd)
                    rw [hat4] at HA4
                    have hend0 : endS r3 = if d4 = 59 then some l4 else none := by unfold endS; rw [← hR3, hT4, hl4]
                    by_cases h59 : d4 = 59
                    · rw [if_pos h59] at HA4 hend0
                      obtain ⟨T5, hT5⟩ : ∃ T : ByteArray, trimL l4 = T.data.toList := ⟨⟨(trimL l4).toArray⟩, by simp⟩
                      have Hn := hid (Hnext.out l4 _ (by unfold dirS; rw [hw]; simp only [Option.bind_some]; rw [hc]; simp only [Bool.false_eq_true, if_false, hsays, Option.bind_some, hset, hend0]; rfl) (suf_trans hsuf3 (endS_suffix hend0)) (by simp))
                      clear hl4 hend0 hset hT4 hat4
                      go_wp2_with fail
                      refine HA4.out.mono ?_
                      rintro e w11 ⟨R11, hR11, rfl, hr11⟩
                      have P11 := hid (P10.out.rdd hr11)
                      have HB5 := hid (blanks_any (w.heap.size + 1 + 1) R11 T5 (by rw [← hT5]; exact congrArg trimL hR11) _ P11.out.rd)
                      clear hr11 hR11 HA4
                      go_wp2_with fail
                      refine (must_t _ rfl _).mono ?_
                      rintro e w' ⟨rfl, rfl⟩
                      go_wp2_with fail
                      refine HB5.out.mono ?_
                      rintro e w12 ⟨rfl, hr12⟩
                      have P12 := hid (P11.out.rdd hr12)
                      clear hr12
                      have Hf := hid (Hn.out T5 hT5 _ P12.out)
                      go_wp2
                      go_roundg T5.size
                      case rel => exact Hf.out.1
                      case measure => exact Hf.out.2
                    · rw [if_neg h59] at HA4 hend0
                      clear hl4 hT4 hat4
                      go_wp2_with fail
                      refine HA4.out.mono ?_
                      rintro e w11 ⟨R11, hR11, rfl, hr11⟩
                      have P11 := hid (P10.out.rdd hr11)
                      clear hr11 hR11 HA4
                      go_wp2_with fail
                      refine (must_f _ rfl _).mono ?_
                      rintro e w' ⟨rfl, rfl⟩
                      refine door_panic P11.out rfl _ rfl rfl _ ?_
                      intro w' hb
                      exact ⟨by rw [Hstop.out (by unfold dirS; rw [hw]; simp only [Option.bind_some]; rw [hc]; simp only [Bool.false_eq_true, if_false, hsays, Option.bind_some, hset, hend0]; rfl)], hb⟩
              · have hn1 : (N.toList == (⟨#[109, 97, 120, 45, 97, 103, 101]⟩ : ByteArray).toList) = false := by
                  rw [beq_eq_false_iff_ne, Lib.toList_data, Lib.toList_data, ← hN]; exact hm
                have hn1a : (N.toList == [109, 97, 120, 45, 97, 103, 101]) = false := by
                  rw [beq_eq_false_iff_ne, Lib.toList_data, ← hN]; exact hm
                have hn1b : ¬ N.toList = [109, 97, 120, 45, 97, 103, 101] := by
                  rw [Lib.toList_data, ← hN]; exact hm
                by_cases hi : lower v = inclL
                · obtain rfl : N = ⟨#[105, 110, 99, 108, 117, 100, 101, 115, 117, 98, 100, 111, 109, 97, 105, 110, 115]⟩ := bytes_ext (by rw [← hN, hi]; rfl)
                  clear hn1 hn1a hn1b
                  have hset : setS st (lower v) [] false = some ⟨lower v :: st.told, st.age, true⟩ := by unfold setS; rw [if_neg hm, if_pos hi]; rfl
                  go_wp2_with fail
                  refine (must_t _ (by first | rfl | simp) _).mono ?_
                  rintro e w' ⟨rfl, rfl⟩
                  have P8 := hid (P6.out.subs_ true)
                  obtain ⟨T4, hT4⟩ : ∃ T : ByteArray, trimL R2.data.toList = T.data.toList := ⟨⟨(trimL R2.data.toList).toArray⟩, by simp⟩
                  have HB4 := hid (blanks_any (w.heap.size + 1 + 1) R2 T4 hT4 _ P8.out.rd)
                  go_wp2_with fail
                  refine HB4.out.mono ?_
                  rintro e w10 ⟨rfl, hr10⟩
                  have P10 := hid (P8.out.rdd hr10)
                  have c10 := P10.out.rd.cell
                  have hT4s : T4.size ≤ 16777216 := by
                    have a := trimL_len R2.data.toList
                    rw [hT4, ← Lib.size_eq, ← Lib.size_eq] at a; omega
                  clear hr10 HB4
                  cases hl4 : T4.data.toList with
                  | nil =>
                    have hend : endS r3 = some [] := by unfold endS; rw [← hR3, hT4, hl4]
                    have hT4e : T4 = ⟨#[]⟩ := by
                      apply bytes_ext; rw [hl4]
                    have Hn := hid (Hnext.out [] _ (by unfold dirS; rw [hw]; simp only [Option.bind_some]; rw [hc]; simp only [Bool.false_eq_true, if_false, hsays, Option.bind_some, hset, hend]; rfl) ⟨_, (List.append_nil _).symm⟩ (by simp))
                    subst hT4e
                    have HB5 := hid (blanks_any (w.heap.size + 1 + 1) ⟨#[]⟩ ⟨#[]⟩ rfl _ P10.out.rd)
                    clear hl4 hend hset hT4
                    go_wp2_with fail
                    refine (must_t _ rfl _).mono ?_
                    rintro e w' ⟨rfl, rfl⟩
                    go_wp2_with fail
                    refine HB5.out.mono ?_
                    rintro e w12 ⟨rfl, hr12⟩
                    have P12 := hid (P10.out.rdd hr12)
                    clear hr12
                    have Hf := hid (Hn.out ⟨#[]⟩ rfl _ P12.out)
                    go_wp2
                    go_roundg 0
                    case rel => exact Hf.out.1
                    case measure => exact Hf.out.2
                  | cons d4 l4 =>
                    have hne4 : T4.toList.isEmpty = false := by rw [Lib.toList_data, hl4]; rfl
                    have hne4' : ¬ T4.toList = [] := by rw [Lib.toList_data, hl4]; simp
                    have hat4 : atS 59 T4.data.toList = if d4 = 59 then some l4 else none := by
                      unfold atS; rw [← hT4, trimL_trimL, hT4, hl4]
                    have HA4 := hid (at_any (w.heap.size + 1 + 1) 59 T4 hT4s _ P10.out.rd)
                    rw [hat4] at HA4
                    have hend0 : endS r3 = if d4 = 59 then some l4 else none := by unfold endS; rw [← hR3, hT4, hl4]
                    by_cases h59 : d4 = 59
                    · rw [if_pos h59] at HA4 hend0
                      obtain ⟨T5, hT5⟩ : ∃ T : ByteArray, trimL l4 = T.data.toList := ⟨⟨(trimL l4).toArray⟩, by simp⟩
                      have Hn := hid (Hnext.out l4 _ (by unfold dirS; rw [hw]; simp only [Option.bind_some]; rw [hc]; simp only [Bool.false_eq_true, if_false, hsays, Option.bind_some, hset, hend0]; rfl) (suf_trans hsuf3 (endS_suffix hend0)) (by simp))
                      clear hl4 hend0 hset hT4 hat4
                      go_wp2_with fail
                      refine HA4.out.mono ?_
                      rintro e w11 ⟨R11, hR11, rfl, hr11⟩
                      have P11 := hid (P10.out.rdd hr11)
                      have HB5 := hid (blanks_any (w.heap.size + 1 + 1) R11 T5 (by rw [← hT5]; exact congrArg trimL hR11) _ P11.out.rd)
                      clear hr11 hR11 HA4
                      go_wp2_with fail
                      refine (must_t _ rfl _).mono ?_
                      rintro e w' ⟨rfl, rfl⟩
                      go_wp2_with fail
                      refine HB5.out.mono ?_
                      rintro e w12 ⟨rfl, hr12⟩
                      have P12 := hid (P11.out.rdd hr12)
                      clear hr12
                      have Hf := hid (Hn.out T5 hT5 _ P12.out)
                      go_wp2
                      go_roundg T5.size
                      case rel => exact Hf.out.1
                      case measure => exact Hf.out.2
                    · rw [if_neg h59] at HA4 hend0
                      clear hl4 hT4 hat4
                      go_wp2_with fail
                      refine HA4.out.mono ?_
                      rintro e w11 ⟨R11, hR11, rfl, hr11⟩
                      have P11 := hid (P10.out.rdd hr11)
                      clear hr11 hR11 HA4
                      go_wp2_with fail
                      refine (must_f _ rfl _).mono ?_
                      rintro e w' ⟨rfl, rfl⟩
                      refine door_panic P11.out rfl _ rfl rfl _ ?_
                      intro w' hb
                      exact ⟨by rw [Hstop.out (by unfold dirS; rw [hw]; simp only [Option.bind_some]; rw [hc]; simp only [Bool.false_eq_true, if_false, hsays, Option.bind_some, hset, hend0]; rfl)], hb⟩
                · have hn2 : (N.toList == (⟨#[105, 110, 99, 108, 117, 100, 101, 115, 117, 98, 100, 111, 109, 97, 105, 110, 115]⟩ : ByteArray).toList) = false := by
                    rw [beq_eq_false_iff_ne, Lib.toList_data, Lib.toList_data, ← hN]; exact hi
                  have hn2a : (N.toList == [105, 110, 99, 108, 117, 100, 101, 115, 117, 98, 100, 111, 109, 97, 105, 110, 115]) = false := by
                    rw [beq_eq_false_iff_ne, Lib.toList_data, ← hN]; exact hi
                  have hn2b : ¬ N.toList = [105, 110, 99, 108, 117, 100, 101, 115, 117, 98, 100, 111, 109, 97, 105, 110, 115] := by
                    rw [Lib.toList_data, ← hN]; exact hi
                  have hset : setS st (lower v) [] false = some ⟨lower v :: st.told, st.age, st.subs⟩ := by unfold setS; rw [if_neg hm, if_neg hi]
                  obtain ⟨T4, hT4⟩ : ∃ T : ByteArray, trimL R2.data.toList = T.data.toList := ⟨⟨(trimL R2.data.toList).toArray⟩, by simp⟩
                  have HB4 := hid (blanks_any (w.heap.size + 1 + 1) R2 T4 hT4 _ P6.out.rd)
                  go_wp2_with fail
                  refine HB4.out.mono ?_
                  rintro e w10 ⟨rfl, hr10⟩
                  have P10 := hid (P6.out.rdd hr10)
                  have c10 := P10.out.rd.cell
                  have hT4s : T4.size ≤ 16777216 := by
                    have a := trimL_len R2.data.toList
                    rw [hT4, ← Lib.size_eq, ← Lib.size_eq] at a; omega
                  clear hr10 HB4
                  cases hl4 : T4.data.toList with
                  | nil =>
                    have hend : endS r3 = some [] := by unfold endS; rw [← hR3, hT4, hl4]
                    have hT4e : T4 = ⟨#[]⟩ := by
                      apply bytes_ext; rw [hl4]
                    have Hn := hid (Hnext.out [] _ (by unfold dirS; rw [hw]; simp only [Option.bind_some]; rw [hc]; simp only [Bool.false_eq_true, if_false, hsays, Option.bind_some, hset, hend]; rfl) ⟨_, (List.append_nil _).symm⟩ (by simp))
                    subst hT4e
                    have HB5 := hid (blanks_any (w.heap.size + 1 + 1) ⟨#[]⟩ ⟨#[]⟩ rfl _ P10.out.rd)
                    clear hl4 hend hset hT4
                    go_wp2_with fail
                    refine (must_t _ rfl _).mono ?_
                    rintro e w' ⟨rfl, rfl⟩
                    go_wp2_with fail
                    refine HB5.out.mono ?_
                    rintro e w12 ⟨rfl, hr12⟩
                    have P12 := hid (P10.out.rdd hr12)
                    clear hr12
                    have Hf := hid (Hn.out ⟨#[]⟩ rfl _ P12.out)
                    go_wp2
                    go_roundg 0
                    case rel => exact Hf.out.1
                    case measure => exact Hf.out.2
                  | cons d4 l4 =>
                    have hne4 : T4.toList.isEmpty = false := by rw [Lib.toList_data, hl4]; rfl
                    have hne4' : ¬ T4.toList = [] := by rw [Lib.toList_data, hl4]; simp
                    have hat4 : atS 59 T4.data.toList = if d4 = 59 then some l4 else none := by
                      unfold atS; rw [← hT4, trimL_trimL, hT4, hl4]
                    have HA4 := hid (at_any (w.heap.size + 1 + 1) 59 T4 hT4s _ P10.out.rd)
                    rw [hat4] at HA4
                    have hend0 : endS r3 = if d4 = 59 then some l4 else none := by unfold endS; rw [← hR3, hT4, hl4]
                    by_cases h59 : d4 = 59
                    · rw [if_pos h59] at HA4 hend0
                      obtain ⟨T5, hT5⟩ : ∃ T : ByteArray, trimL l4 = T.data.toList := ⟨⟨(trimL l4).toArray⟩, by simp⟩
                      have Hn := hid (Hnext.out l4 _ (by unfold dirS; rw [hw]; simp only [Option.bind_some]; rw [hc]; simp only [Bool.false_eq_true, if_false, hsays, Option.bind_some, hset, hend0]; rfl) (suf_trans hsuf3 (endS_suffix hend0)) (by simp))
                      clear hl4 hend0 hset hT4 hat4
                      go_wp2_with fail
                      refine HA4.out.mono ?_
                      rintro e w11 ⟨R11, hR11, rfl, hr11⟩
                      have P11 := hid (P10.out.rdd hr11)
                      have HB5 := hid (blanks_any (w.heap.size + 1 + 1) R11 T5 (by rw [← hT5]; exact congrArg trimL hR11) _ P11.out.rd)
                      clear hr11 hR11 HA4
                      go_wp2_with fail
                      refine (must_t _ rfl _).mono ?_
                      rintro e w' ⟨rfl, rfl⟩
                      go_wp2_with fail
                      refine HB5.out.mono ?_
                      rintro e w12 ⟨rfl, hr12⟩
                      have P12 := hid (P11.out.rdd hr12)
                      clear hr12
                      have Hf := hid (Hn.out T5 hT5 _ P12.out)
                      go_wp2
                      go_roundg T5.size
                      case rel => exact Hf.out.1
                      case measure => exact Hf.out.2
                    · rw [if_neg h59] at HA4 hend0
                      clear hl4 hT4 hat4
                      go_wp2_with fail
                      refine HA4.out.mono ?_
                      rintro e w11 ⟨R11, hR11, rfl, hr11⟩
                      have P11 := hid (P10.out.rdd hr11)
                      clear hr11 hR11 HA4
                      go_wp2_with fail
                      refine (must_f _ rfl _).mono ?_
                      rintro e w' ⟨rfl, rfl⟩
                      refine door_panic P11.out rfl _ rfl rfl _ ?_
                      intro w' hb
                      exact ⟨by rw [Hstop.out (by unfold dirS; rw [hw]; simp only [Option.bind_some]; rw [hc]; simp only [Bool.false_eq_true, if_false, hsays, Option.bind_some, hset, hend0]; rfl)], hb⟩
end Go.Proofs.YtnmdcbneoipllaaDoor
