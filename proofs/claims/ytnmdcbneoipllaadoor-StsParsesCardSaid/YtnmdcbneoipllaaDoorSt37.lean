/- Walk: the reference's Parse of chapter 11: its loop. -/
import Derived.Test.YtnmdcbneoipllaaDoorSt36
import Derived.Test.YtnmdcbneoipllaaDoorSt12
import Derived.Deep.Cut
namespace Go.Proofs.YtnmdcbneoipllaaDoor
open Go.RowKit Go.Lib Go.Proofs.Foot

theorem fold_at {L : List ByteArray} {k : Nat} {t : ByteArray} (h : L[k]? = some t) (st : Option Wst) : ((L.drop k).map (·.data.toList)).foldl stepR st = ((L.drop (k + 1)).map (·.data.toList)).foldl stepR (stepR st t.data.toList) := by
  obtain ⟨hk, e⟩ := List.getElem?_eq_some_iff.1 h
  rw [List.drop_eq_getElem_cons hk, e, List.map_cons, List.foldl_cons]
theorem step_skip {st : Wst} {a : List UInt8} (h : trim a = []) : stepR (some st) a = some st := by unfold stepR; rw [Option.bind_some, if_pos h]
theorem step_bad {st : Wst} {a : List UInt8} (h : trim a ≠ []) {ok : Bool} {d : List UInt8 × List UInt8 × Bool} (hd : dirR (trim a) = if ok = true then some d else none) (hno : (ok && !st.told.contains d.1) = false) : stepR (some st) a = none := by
  unfold stepR
  rw [Option.bind_some, if_neg h, hd]
  cases ok with
  | false => rfl
  | true =>
    simp at hno
    rw [if_pos rfl, Option.bind_some, if_pos (by simpa using hno)]
theorem step_good {st : Wst} {a : List UInt8} (h : trim a ≠ []) {ok : Bool} {d : List UInt8 × List UInt8 × Bool} (hd : dirR (trim a) = if ok = true then some d else none) (hyes : (ok && !st.told.contains d.1) = true) : stepR (some st) a = setS st d.1 d.2.1 d.2.2 := by
  unfold stepR
  rw [Option.bind_some, if_neg h, hd]
  simp at hyes
  rw [if_pos hyes.1, Option.bind_some, if_neg (by simpa using hyes.2)]
theorem add0 (g i : Nat) : (⟨g, 0, none⟩ : Addr).add i = ⟨g, i, none⟩ := by unfold Addr.add; split <;> simp_all
theorem fin_none : finS none = none := rfl
/-- What the loop over the parts keeps. -/
def HeadR (w w1 : World) (gp : Nat) (L : List ByteArray) (res : Option (Nat × Bool)) (k : Nat) (v : Value) (ag : Bool) (wr : World) : Prop :=
  ∃ (N : List ByteArray) (st : Wst), N.length ≤ k ∧ wr.ownsRow w1.heap.size 9 1 v N.length (N.map Value.string) ∧ st.told = (N.map (·.data.toList)).reverse ∧ ag = st.told.contains maxAgeL ∧ RW w.heap.size w st wr ∧ PRow gp L wr ∧ w1.heap.size ≤ wr.heap.size ∧ finS (((L.drop k).map (·.data.toList)).foldl stepR (some st)) = res
set_option maxHeartbeats 8000000 in
set_option maxRecDepth 100000 in
theorem parseR_any (s : ByteArray) (hs : s.size ≤ 65536) (w : World) :
    Calls Tryd.prog 14 #[.string s] w fun e w' => e = .returned (parseV (refS s.data.toList)) ∧ Below w.heap.size w w' := by
  obtain ⟨res, hres⟩ : ∃ r, r = refS s.data.toList := ⟨_, rfl⟩
  rw [← hres]
  have Hres := hid hres
  have R0 := hid (RW.start w)
  have hsi : ¬ (s.size : Int) > 65536 := by omega
  clear hres
  go_enter Tryd.func14, Tryd.ntmps14
  go_wp2_with fail
  have hz0 : ((w.alloc (.cells #[.int .i64 0, .bool false] 23)).alloc (.cells #[.int .i64 0, .bool false] 23)).heap.size = w.heap.size + 2 := by simp
  have Hz0 := hid hz0
  clear hz0
  generalize (w.alloc (.cells #[.int .i64 0, .bool false] 23)).alloc (.cells #[.int .i64 0, .bool false] 23) = w0 at *
  refine (partsR_any s hs _).mono ?_
  rintro e w1 ⟨v, L, rfl, hL, hLs, hLn, hLo, hb1⟩
  have hL1 : 0 < L.length := by
    cases L with
    | nil =>
      obtain ⟨a, m, _, hp⟩ := parts_first s.data.toList false false []
      rcases hp with ⟨_, hp⟩ | ⟨_, _, hp⟩ <;> (rw [hp] at hL; cases hL)
    | cons _ _ => simp
  obtain ⟨gp, cap, rfl, hgp, hprow⟩ := PRow.of_own hLo hL1
  have R1 := hid (R0.out.more hb1)
  have hgw : gp < w1.heap.size := hprow.lt
  have H0 : Hid (HeadR w w1 gp L res 0 (.slice none 0 0) false w1) := hid ⟨[], ⟨[], 0, false⟩, Nat.le_refl _, World.ownsRow_nil _ _ _ _, rfl, rfl, R1.out, hprow, Nat.le_refl _, by
    rw [List.drop_zero, hL, Hres.out]; rfl⟩
  have HLs := hid hLs
  have hw1 := hid (show w.heap.size + 2 ≤ w1.heap.size by have := hb1.size; have := Hz0.out; omega)
  have Hgp := hid (show w.heap.size + 2 ≤ gp by have := Hz0.out; omega)
  clear hL hLs hLo hb1 hprow hgp hL1 Hz0 R0 R1 Hres hsi
  go_wp2
  go_loopg [5, 6, 8] L.length (fun g v6 ag i wr => ∃ (k : Nat) (b : Bool), k + g = L.length ∧ i = .int .i64 k ∧ ag = .bool b ∧ Hid (HeadR w w1 gp L res k v6 b wr))
  case atStart => exact ⟨0, false, by omega, rfl, rfl, H0⟩
  case round =>
    obtain ⟨k, ag, hkg, rfl, rfl, hh⟩ := hrel
    obtain ⟨N, st, hNk, hown, htold, hag, hrw, hprow, hsz, hfin⟩ := hh.out
    obtain ⟨ao, cap2, rfl⟩ := slice_of_rowS hown
    have Own := hid hown
    have R := hid hrw
    have P := hid hprow
    have Htold := hid htold
    have Hag := hid hag
    clear hh hown htold hrw
    by_cases hlt : k < L.length
    · obtain ⟨t, ht⟩ : ∃ t, L[k]? = some t := ⟨_, List.getElem?_eq_getElem hlt⟩
      have hcell : wr.cell? ⟨gp, k, none⟩ = some (.string t) := hprow.cell ht
      have htz : t.size ≤ 65536 := by have := HLs.out t (List.mem_of_getElem? ht); omega
      obtain ⟨T, hT⟩ := mk_list (trim t.data.toList)
      have hTz : T.size ≤ 65536 := by rw [Lib.size_eq, hT]; have := trim_length t.data.toList; rw [← Lib.size_eq] at this; omega
      have HTr := hid (fun w => trimN_is t T (by omega) hT.symm w)
      rw [fold_at ht] at hfin
      have hki : (k : Int) < (L.length : Int) := by omega
      by_cases hTn : trim t.data.toList = []
      · rw [step_skip hTn] at hfin
        have e1 : T.toList.isEmpty = true := by rw [Lib.toList_data, hT, hTn]; rfl
        have e2 : T.toList = [] := by rw [Lib.toList_data, hT, hTn]
        have hn : Hid (HeadR w w1 gp L res (k + 1) (.slice ao N.length cap2) ag wr) := hid ⟨N, st, by omega, Own.out, Htold.out, Hag.out, R.out, P.out, hsz, hfin⟩
        clear hT hTn hfin hag ht hprow
        go_wp2_with fail
        refine (HTr.out _).mono ?_
        rintro e w' ⟨rfl, rfl⟩
        go_wp2
        go_roundg (L.length - (k + 1))
        case rel => exact ⟨k + 1, ag, by omega, by go_num, rfl, (by first | exact hn | (rw [← Hnv.out]; exact hn))⟩
        case measure => omega
      · have e1 : T.toList.isEmpty = false := by
          rw [Lib.toList_data, hT]
          cases h : trim t.data.toList with
          | nil => exact absurd h hTn
          | cons _ _ => rfl
        have e2 : ¬ T.toList = [] := by rw [Lib.toList_data, hT]; exact hTn
        have HD := hid (fun w => directiveR_any T hTz w)
        have HTl := hid hT
        have HTn := hid hTn
        have Hfin := hid hfin
        clear hT hTn hfin hag ht hprow
        go_wp2_with fail
        refine (HTr.out _).mono ?_
        rintro e w' ⟨rfl, rfl⟩
        go_wp2_with fail
        refine (HD.out _).mono ?_
        rintro e w2 ⟨n, V, has, ok, rfl, hdir, hnz, hVz, hb2⟩
        have Hdir := hid (show dirR (trim t.data.toList) = if ok = true then some (n.data.toList, V.data.toList, has) else none by rw [← HTl.out]; exact hdir)
        have Own2 := hid ((Touch.of_below (S := fun _ => False) hb2).own Own.out (fun _ _ h => h))
        have R2 := hid (R.out.more hb2)
        have P2 := hid (P.out.kept (hb2.block gp P.out.lt))
        have hsz2 : w1.heap.size ≤ w2.heap.size := Nat.le_trans hsz hb2.size
        clear hdir hb2 hcell e1 e2
        go_wp2
        clear hki
        go_loop [13, 14] (fun o j => ∃ i : Nat, i ≤ N.length ∧ j = .int .i64 i ∧ o = .bool (okN ok N i n)) (fun _ j => N.length - (RowKit.intOf j).toNat)
        case atStart => exact ⟨0, Nat.zero_le _, rfl, by rw [okN_zero]⟩
        case round =>
          obtain ⟨i, hi, rfl, rfl⟩ := hrel
          by_cases hiN : i < N.length
          · obtain ⟨gn, cap3, hv⟩ := Go.Joins.ownsRow_form Own2.out (by omega)
            injection hv with hao _ hcap
            subst hao
            obtain ⟨u, hu⟩ : ∃ u, N[i]? = some u := ⟨_, List.getElem?_eq_getElem hiN⟩
            have hcu : w2.cell? ⟨gn, i, none⟩ = some (.string u) := by
              have h1 := Own2.out.cells (g := gn) (by simp [Value.ownBlock]) i (.string u) (by rw [List.getElem?_map, hu]; rfl)
              rw [add0] at h1; exact h1
            have hstep := hid (okN_succ (ok := ok) (n := n) hu)
            have hii : (i : Int) < (N.length : Int) := by omega
            obtain ⟨b, hb⟩ : ∃ b, okN ok N i n = b := ⟨_, rfl⟩
            rw [hb] at hstep
            rw [hb]
            cases b with
            | false =>
              have hf := hid (show okN ok N (i + 1) n = false by rw [hstep.out]; rfl)
              clear hb hu hcap
              go_wp2
              go_round
              case rel => exact ⟨i + 1, by omega, by go_num, by rw [hf.out]⟩
              case measure => simp [RowKit.intOf]; omega
            | true =>
              by_cases hun : u.data.toList = n.data.toList
              · have f1 : (u.toList == n.toList) = true := by rw [beq_iff_eq, Lib.toList_data, Lib.toList_data]; exact hun
                have f2 : (u.toList != n.toList) = false := by rw [bne, f1]; rfl
                have hf := hid (show okN ok N (i + 1) n = false by rw [hstep.out, hun]; simp)
                have hun2 : u.toList = n.toList := by rw [Lib.toList_data, Lib.toList_data]; exact hun
                have Hun := hid hun2
                clear hb hu hun hcap hun2
                go_wp2
                go_round
                case rel => exact ⟨i + 1, by omega, by go_num, by rw [hf.out]⟩
                case measure => simp [RowKit.intOf]; omega
              · have f1 : (u.toList == n.toList) = false := by rw [beq_eq_false_iff_ne, Lib.toList_data, Lib.toList_data]; exact hun
                have f2 : (u.toList != n.toList) = true := by rw [bne, f1]; rfl
                have hf := hid (show okN ok N (i + 1) n = true by rw [hstep.out, decide_eq_true hun]; rfl)
                clear hb hu hun hcap
                go_wp2
                go_round
                case rel => exact ⟨i + 1, by omega, by go_num, by rw [hf.out]⟩
                case measure => simp [RowKit.intOf]; omega
          · have hii : ¬ (i : Int) < (N.length : Int) := by omega
            obtain rfl : i = N.length := by omega
            have hokn := okN_all ok N n st Htold.out
            obtain ⟨ok1, hok1⟩ : ∃ b, okN ok N N.length n = b := ⟨_, rfl⟩
            rw [hok1] at hokn ⊢
            have Hokn := hid hokn.symm
            clear hokn hok1
            go_upto_region 18 with (at_builtin; refine appS1 rfl _ _ rfl rfl w1.heap.size N n (.slice ao N.length cap2) rfl Own2.out rfl (by omega) hsz2 ?_; intro v' w3 happ)
            obtain ⟨ao3, cap3, rfl⟩ := slice_of_rowS happ.1
            have hb23 : Below w1.heap.size w2 w3 := happ.2.1.below (fun j hj => (Own2.out.lt j hj).1) hsz2
            have Own3 := hid happ.1
            have R3 := hid (R2.out.kept (hb23.mono hw1.out))
            have P3 := hid (P2.out.kept (hb23.block gp hgw))
            have hsz3 : w1.heap.size ≤ w3.heap.size := Nat.le_trans hsz2 hb23.size
            have Ht3 := hid (show n.data.toList :: st.told = ((N ++ [n]).map (·.data.toList)).reverse by rw [Htold.out]; simp)
            have Hnv := hid (show Value.slice ao3 (N ++ [n]).length cap3 = Value.slice ao3 (N.length + 1) cap3 by rw [List.length_append, List.length_singleton])
            have hN3 : (N ++ [n]).length ≤ k + 1 := by rw [List.length_append, List.length_singleton]; omega
            clear happ hb23 hii
            have r0 := R3.out.res
            have c0 : w3.cell? ⟨w.heap.size, 0, none⟩ = some (.int .i64 0) := by rw [cell_of_row _ _ _ _ _ _ r0]; rfl
            have c1 : w3.cell? ⟨w.heap.size, 1, none⟩ = some (.bool false) := by rw [cell_of_row _ _ _ _ _ _ r0]; rfl
            have f0 := frozen_of_heap r0 0
            have f1 := frozen_of_heap r0 1
            have q0 := R3.out.wish
            have d0 : w3.cell? ⟨w.heap.size + 1, 0, none⟩ = some (.int .i64 st.age) := by rw [cell_of_row _ _ _ _ _ _ q0]; rfl
            have d1 : w3.cell? ⟨w.heap.size + 1, 1, none⟩ = some (.bool st.subs) := by rw [cell_of_row _ _ _ _ _ _ q0]; rfl
            have g0 := frozen_of_heap q0 0
            have g1 := frozen_of_heap q0 1
            clear r0 q0
            by_cases hm : n.data.toList = maxAgeL
            · have s1 : (n.toList == [109, 97, 120, 45, 97, 103, 101]) = true := by rw [beq_iff_eq, Lib.toList_data]; exact hm
              have s1' := hid (show n.toList = [109, 97, 120, 45, 97, 103, 101] by rw [Lib.toList_data]; exact hm)
              have HC := hid (fun w => countR_any V (by omega) w)
              unfold cntV at HC
              have hgood : ok1 = true → stepR (some st) t.data.toList = (ageS V.data.toList).map fun a => ⟨maxAgeL :: st.told, a, st.subs⟩ := fun h => by
                rw [step_good HTn.out Hdir.out (Hokn.out.trans h)]
                show setS st n.data.toList V.data.toList has = _
                unfold setS; rw [if_pos hm, hm]
              have hbad : ok1 = false → stepR (some st) t.data.toList = none := fun h => step_bad HTn.out Hdir.out (Hokn.out.trans h)
              cases hage : ageS V.data.toList with
              | some a =>
                rw [hage] at HC hgood
                have R4 := hid (R3.out.aged a (n.data.toList :: st.told))
                have R4b := R4.out.store 0 false
                cases ok1 with
                | true =>
                  have hst := hgood rfl
                  have hn : Hid (HeadR w w1 gp L res (k + 1) (.slice ao3 (N ++ [n]).length cap3) true (w3.setCell ⟨w.heap.size + 1, 0, none⟩ (.int .i64 a))) := hid ⟨N ++ [n], ⟨n.data.toList :: st.told, a, st.subs⟩, hN3, own_set Own3.out (by have := hw1.out; omega), Ht3.out, by simp [hm], R4.out, P3.out.set (by have := Hgp.out; omega) _, by simpa [World.setCell] using hsz3, by
                    have := Hfin.out
                    rw [hst] at this
                    rw [hm]; exact this⟩
                  clear hm hgood hbad hage hst R4b
                  go_wp2_with fail
                  refine (HC.out _).mono ?_
                  rintro e w' ⟨rfl, rfl⟩
                  go_wp2
                  go_roundg (L.length - (k + 1))
                  case rel => exact ⟨k + 1, true, by omega, by go_num, rfl, by rw [← Hnv.out]; exact hn⟩
                  case measure => omega
                | false =>
                  have Hbad := hid (show res = none by rw [← Hfin.out, hbad rfl, fold_none, fin_none])
                  clear hm hgood hbad hage
                  go_wp2_with fail
                  refine (HC.out _).mono ?_
                  rintro e w' ⟨rfl, rfl⟩
                  go_wp2
                  refine bodyPost_ret (results_ref (R4.out.store 0 false).1 _ rfl rfl) rfl ?_
                  exact ⟨ret_val (by rw [Hbad.out]; rfl), (R4.out.store 0 false).2⟩
              | none =>
                rw [hage] at HC hgood
                have R4 := hid (R3.out.aged 0 (n.data.toList :: st.told))
                have Hbad := hid (show res = none by
                  rw [← Hfin.out]
                  cases ok1 with
                  | true => rw [hgood rfl, Option.map_none, fold_none, fin_none]
                  | false => rw [hbad rfl, fold_none, fin_none])
                clear hm hgood hbad hage
                cases ok1 with
                | true =>
                  go_wp2_with fail
                  refine (HC.out _).mono ?_
                  rintro e w' ⟨rfl, rfl⟩
                  go_wp2
                  refine bodyPost_ret (results_ref (R4.out.store 0 false).1 _ rfl rfl) rfl ?_
                  exact ⟨ret_val (by rw [Hbad.out]; rfl), (R4.out.store 0 false).2⟩
                | false =>
                  go_wp2_with fail
                  refine (HC.out _).mono ?_
                  rintro e w' ⟨rfl, rfl⟩
                  go_wp2
                  refine bodyPost_ret (results_ref (R4.out.store 0 false).1 _ rfl rfl) rfl ?_
                  exact ⟨ret_val (by rw [Hbad.out]; rfl), (R4.out.store 0 false).2⟩
            · have s1 : (n.toList == [109, 97, 120, 45, 97, 103, 101]) = false := by rw [beq_eq_false_iff_ne, Lib.toList_data]; exact hm
              have s1b : ¬ n.toList = [109, 97, 120, 45, 97, 103, 101] := by rw [Lib.toList_data]; exact hm
              have s1c : (n.toList == (⟨#[109, 97, 120, 45, 97, 103, 101]⟩ : ByteArray).toList) = false := by rw [beq_eq_false_iff_ne, Lib.toList_data, Lib.toList_data]; exact hm
              have hag : ag = (n.data.toList :: st.told).contains maxAgeL := by
                rw [Hag.out, List.contains_cons]
                have : (maxAgeL == n.data.toList) = false := by rw [beq_eq_false_iff_ne]; exact fun h => hm h.symm
                rw [this]; rfl
              by_cases hi : n.data.toList = inclL
              · have s2 : (n.toList == [105, 110, 99, 108, 117, 100, 101, 115, 117, 98, 100, 111, 109, 97, 105, 110, 115]) = true := by rw [beq_iff_eq, Lib.toList_data]; exact hi
                have s2' := hid (show n.toList = [105, 110, 99, 108, 117, 100, 101, 115, 117, 98, 100, 111, 109, 97, 105, 110, 115] by rw [Lib.toList_data]; exact hi)
                have R4 := hid (R3.out.subbed (n.data.toList :: st.told))
                have hcase : (ok1 = true ∧ has = false) ∨ (ok1 = true ∧ has = true) ∨ ok1 = false := by cases ok1 <;> cases has <;> simp
                have hgood : ok1 = true → stepR (some st) t.data.toList = if has = true then none else some ⟨n.data.toList :: st.told, st.age, true⟩ := fun h => by
                  rw [step_good HTn.out Hdir.out (Hokn.out.trans h)]
                  show setS st n.data.toList V.data.toList has = _
                  unfold setS; rw [if_neg hm, if_pos hi]
                have hbad : ok1 = false → stepR (some st) t.data.toList = none := fun h => step_bad HTn.out Hdir.out (Hokn.out.trans h)
                rcases hcase with ⟨rfl, rfl⟩ | ⟨rfl, rfl⟩ | rfl
                · have hn : Hid (HeadR w w1 gp L res (k + 1) (.slice ao3 (N ++ [n]).length cap3) ag (w3.setCell ⟨w.heap.size + 1, 1, none⟩ (.bool true))) := hid ⟨N ++ [n], ⟨n.data.toList :: st.told, st.age, true⟩, hN3, own_set Own3.out (by have := hw1.out; omega), Ht3.out, hag, R4.out, P3.out.set (by have := Hgp.out; omega) _, by simpa [World.setCell] using hsz3, by
                    have := Hfin.out
                    rw [hgood rfl] at this
                    exact this⟩
                  clear hm hi hgood hbad hag
                  go_wp2
                  go_roundg (L.length - (k + 1))
                  case rel => exact ⟨k + 1, ag, by omega, by go_num, rfl, by rw [← Hnv.out]; exact hn⟩
                  case measure => omega
                · have Hbad := hid (show res = none by rw [← Hfin.out, hgood rfl, if_pos rfl, fold_none, fin_none])
                  clear hm hi hgood hbad hag
                  go_wp2
                  refine bodyPost_ret (results_ref (R4.out.store 0 false).1 _ rfl rfl) rfl ?_
                  exact ⟨ret_val (by rw [Hbad.out]; rfl), (R4.out.store 0 false).2⟩
                · have Hbad := hid (show res = none by rw [← Hfin.out, hbad rfl, fold_none, fin_none])
                  clear hm hi hgood hbad hag
                  go_wp2
                  refine bodyPost_ret (results_ref (R4.out.store 0 false).1 _ rfl rfl) rfl ?_
                  exact ⟨ret_val (by rw [Hbad.out]; rfl), (R4.out.store 0 false).2⟩
              · have s2 : (n.toList == [105, 110, 99, 108, 117, 100, 101, 115, 117, 98, 100, 111, 109, 97, 105, 110, 115]) = false := by rw [beq_eq_false_iff_ne, Lib.toList_data]; exact hi
                have s2b : ¬ n.toList = [105, 110, 99, 108, 117, 100, 101, 115, 117, 98, 100, 111, 109, 97, 105, 110, 115] := by rw [Lib.toList_data]; exact hi
                have s2c : (n.toList == (⟨#[105, 110, 99, 108, 117, 100, 101, 115, 117, 98, 100, 111, 109, 97, 105, 110, 115]⟩ : ByteArray).toList) = false := by rw [beq_eq_false_iff_ne, Lib.toList_data, Lib.toList_data]; exact hi
                cases ok1 with
                | true =>
                  have hn : Hid (HeadR w w1 gp L res (k + 1) (.slice ao3 (N ++ [n]).length cap3) ag w3) := hid ⟨N ++ [n], ⟨n.data.toList :: st.told, st.age, st.subs⟩, hN3, Own3.out, Ht3.out, hag, R3.out.told _, P3.out, hsz3, by
                    have := Hfin.out
                    rw [step_good HTn.out Hdir.out Hokn.out] at this
                    have e : setS st n.data.toList V.data.toList has = some ⟨n.data.toList :: st.told, st.age, st.subs⟩ := by unfold setS; rw [if_neg hm, if_neg hi]
                    rw [← e]; exact this⟩
                  clear hm hi hag
                  go_wp2
                  go_roundg (L.length - (k + 1))
                  case rel => exact ⟨k + 1, ag, by omega, by go_num, rfl, by rw [← Hnv.out]; exact hn⟩
                  case measure => omega
                | false =>
                  have Hbad := hid (show res = none by rw [← Hfin.out, step_bad HTn.out Hdir.out Hokn.out, fold_none, fin_none])
                  clear hm hi hag
                  go_wp2
                  refine bodyPost_ret (results_ref (R3.out.store 0 false).1 _ rfl rfl) rfl ?_
                  exact ⟨ret_val (by rw [Hbad.out]; rfl), (R3.out.store 0 false).2⟩
    · have hki : ¬ (k : Int) < (L.length : Int) := by omega
      have hz : L.drop k = [] := List.drop_eq_nil_of_le (by omega)
      rw [hz] at hfin
      have hfin' : (if st.told.contains maxAgeL then some (st.age, st.subs) else none) = res := hfin
      rw [← hag] at hfin'
      have r0 := R.out.res
      have c0 : wr.cell? ⟨w.heap.size, 0, none⟩ = some (.int .i64 0) := by rw [cell_of_row _ _ _ _ _ _ r0]; rfl
      have c1 : wr.cell? ⟨w.heap.size, 1, none⟩ = some (.bool false) := by rw [cell_of_row _ _ _ _ _ _ r0]; rfl
      have f0 := frozen_of_heap r0 0
      have f1 := frozen_of_heap r0 1
      have q0 := R.out.wish
      have d0 : wr.cell? ⟨w.heap.size + 1, 0, none⟩ = some (.int .i64 st.age) := by rw [cell_of_row _ _ _ _ _ _ q0]; rfl
      have d1 : wr.cell? ⟨w.heap.size + 1, 1, none⟩ = some (.bool st.subs) := by rw [cell_of_row _ _ _ _ _ _ q0]; rfl
      clear r0 q0 hfin hz hprow
      cases ag with
      | true =>
        have Hf := hid hfin'.symm
        clear hfin' hag
        go_wp2
        refine bodyPost_ret (results_ref (R.out.store st.age st.subs).1 _ rfl rfl) rfl ?_
        exact ⟨ret_val (by rw [Hf.out]; rfl), (R.out.store st.age st.subs).2⟩
      | false =>
        have Hf := hid hfin'.symm
        clear hfin' hag
        go_wp2
        refine bodyPost_ret (results_ref (R.out.store 0 false).1 _ rfl rfl) rfl ?_
        exact ⟨ret_val (by rw [Hf.out]; rfl), (R.out.store 0 false).2⟩
end Go.Proofs.YtnmdcbneoipllaaDoor
