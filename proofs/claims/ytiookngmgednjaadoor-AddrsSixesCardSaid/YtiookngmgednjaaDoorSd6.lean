/- Walk: footmanref04.pieces. -/
import Derived.Test.YtiookngmgednjaaDoorSd5
namespace Go.Proofs.YtiookngmgednjaaDoor
open Go.RowKit Go.Lib Go.Proofs.Foot

theorem pieceAcc_step {e : Bool} {out p x : List UInt8} {ps : List (List UInt8)} (h : pieceP p = some x) : pieceAcc e out (p :: ps) = pieceAcc e (out ++ x) ps := by
  cases ps with
  | nil => rw [pieceAcc_last h]; rfl
  | cons q ps => exact pieceAcc_more h
theorem pieceAcc_no {e : Bool} {out p : List UInt8} {ps : List (List UInt8)} (h : pieceP p = none) (h4 : e = false ∨ fourP p = none ∨ ps ≠ []) : pieceAcc e out (p :: ps) = none := by
  cases ps with
  | nil =>
    rw [pieceAcc_four h]
    rcases h4 with h4 | h4 | h4
    · rw [h4]; rfl
    · rw [h4]; cases e <;> rfl
    · exact absurd rfl h4
  | cons q ps => exact pieceAcc_none h
theorem piece_ways {s : ByteArray} {x : Nat} {ok : Bool} (h : optV (cntB 16 s.data.toList) = .tuple #[.int .i64 x, .bool ok]) :
    ∃ q, ((q = true ∧ x ≤ 4294967296 ∧ pieceP s.data.toList = some [UInt8.ofNat (x / 256), UInt8.ofNat x]) ∨ (q = false ∧ pieceP s.data.toList = none)) ∧
      ((ok = false ∧ q = false) ∨ (ok = true ∧ ((¬ (s.size : Int) ≥ 1 ∧ q = false) ∨ ((s.size : Int) ≥ 1 ∧ (((s.size : Int) ≤ 4 ∧ q = true) ∨ (¬ (s.size : Int) ≤ 4 ∧ q = false)))))) := by
  have hsl := Lib.size_eq s
  cases ok with
  | false => exact ⟨false, .inr ⟨rfl, by unfold pieceP; rw [optV_none h]⟩, .inl ⟨rfl, rfl⟩⟩
  | true =>
    have hy := optV_yes h
    have hp : pieceP s.data.toList = if 1 ≤ s.data.toList.length ∧ s.data.toList.length ≤ 4 then some [UInt8.ofNat (x / 256), UInt8.ofNat x] else none := by unfold pieceP; rw [hy]
    by_cases h1 : 1 ≤ s.size
    · by_cases h4 : s.size ≤ 4
      · exact ⟨true, .inl ⟨rfl, cntB_le hy, by rw [hp, if_pos ⟨by omega, by omega⟩]⟩, .inr ⟨rfl, .inr ⟨by omega, .inl ⟨by omega, rfl⟩⟩⟩⟩
      · exact ⟨false, .inr ⟨rfl, by rw [hp, if_neg (by omega)]⟩, .inr ⟨rfl, .inr ⟨by omega, .inr ⟨by omega, rfl⟩⟩⟩⟩
    · exact ⟨false, .inr ⟨rfl, by rw [hp, if_neg (by omega)]⟩, .inr ⟨rfl, .inl ⟨by omega, rfl⟩⟩⟩
/-- The append of a row of bytes. -/
theorem appRow {w : World} {ops : Array Oper} {rest : List Oper} {o : Oper} {a : Act} {Q : Exit → Act → World → Prop} (hgd : o.guard = none) (s x : Operand)
    (ho : o.op = .call { callee := .builtin .append, args := #[s, x], argTypes := #[42, 42] }) (hty : o.type = 42) (base : Nat) (l m : List UInt8) (v : Value) (hs : a.eval s = v)
    (hown : w.ownsRow base 5 1 v l.length (byteCells l)) (ad : Addr) (n c : Nat) (hn : n = m.length) (hx : a.eval x = .slice (some ad) n c) (hc : ∀ j u, (byteCells m)[j]? = some u → w.cell? (ad.add j) = some u) (hlen : l.length + m.length ≤ 140737488355328) (hbase : base ≤ w.heap.size)
    (h : ∀ v' w', Appd base l m v w v' w' → wpList Tryd.prog ops Q rest (a.put o.dst v') w') : wpList Tryd.prog ops Q (o :: rest) a w := by
  obtain ⟨i0, hi, hz0, hz1, hz2⟩ := info_parts infoU8
  subst hn
  obtain ⟨v', w', hr, h1, h2, h3⟩ := run_append_mine (P := Tryd.prog) w base 42 42 5 i0 (.int .u8 0) 1 1 Tryd.underlying42 hi hz0 hz1 hz2 rfl (by decide) v l.length (byteCells l) hown ad m.length c (byteCells m) (by rw [byteCells_length, Nat.mul_one]) hc byteCells_one (by unfold maxLen; omega) (by omega) hbase
  refine wpList_plain hgd fun K hK => ?_
  unfold Oper.wp execOp
  simp only [ho, hty, resolve, invoke, builtin, Sem.run_bind, Sem.run_pure, Result.andThen_ok, List.map_toArray, List.map_cons, List.map_nil, hs, hx, hr]
  exact hK _ _ (h v' w' ⟨by rw [← byteCells_app, List.length_append]; exact h1, Touch.of_grown h2, h3⟩)
set_option maxHeartbeats 2000000 in
set_option maxRecDepth 100000 in
theorem piecesR_any (s : ByteArray) (last : Bool) (hs : s.size ≤ 1048576) (w : World) :
    Calls Tryd.prog 33 #[.string s, .bool last] w (RowRet (takeP last s.data.toList) w) := by
  by_cases h0 : s.size = 0
  · have hl : s.data.toList = [] := List.eq_nil_of_length_eq_zero (by rw [← Lib.size_eq]; exact h0)
    have hse : s = ⟨#[]⟩ := by cases s; simp at hl; rw [hl]
    subst hse
    clear hl h0
    go_enter Tryd.func33, Tryd.ntmps33
    go_wp2
    go_ret2
    exact .inr ⟨[], _, rfl, rfl, World.ownsRow_nil _ _ _ _, Below.refl _ _⟩
  · have hne : s.data.toList ≠ [] := fun e => h0 (by rw [Lib.size_eq, e]; rfl)
    have hemp := empty_not (T := s) hne
    have htk : takeP last s.data.toList = pieceAcc last [] (cutAt 58 s.data.toList) := by unfold takeP; rw [if_neg hne]
    have HP := hid (fun w => partsR_any s 58 w (by omega))
    clear h0 hne
    go_enter Tryd.func33, Tryd.ntmps33
    go_wp2_with fail
    refine (HP.out _).mono ?_
    rintro e wb ⟨L, gl, capL, hcut, h1, hel, hLs, rfl, hLc, hTx, hg1, hg2, hb1⟩
    have hes : ∀ t ∈ L, t.size ≤ s.size := fun t ht => by
      have hm : t.data.toList ∈ cutAt 58 s.data.toList := by rw [← hcut]; exact List.mem_map_of_mem ht
      have := cutAt_le4 58 _ _ hm
      rw [Lib.size_eq, Lib.size_eq]; exact this
    obtain ⟨n, hn⟩ : ∃ n, n = L.length := ⟨_, rfl⟩
    rw [← hn] at h1 hLs hLc ⊢
    have HF := hid (show takeP last s.data.toList = pieceAcc last [] (L.map (·.data.toList)) by rw [htk, hcut])
    clear htk
    obtain ⟨M, hM⟩ : ∃ M, n = M + 1 := ⟨n - 1, by omega⟩
    have HM := hid hM
    have qm : IntKind.i64.wrap ((n : Int) - 1) = (M : Int) := by rw [IntWalk.i64_in _ (by omega)]; omega
    have Hn := hid hn
    have Hes := hid hes
    have HTx := hid hTx
    have Hb1 := hid hb1
    clear hn hel hTx hb1 hcut HP hM hes
    go_wp2_with fail
    go_loopw [7, 8] (fun ov iv wr => ∃ (k : Nat) (out : List UInt8), k ≤ n ∧ iv = .int .i64 k ∧ out.length ≤ 4 * k ∧ Hid (pieceAcc last [] (L.map (·.data.toList)) = pieceAcc last out ((L.map (·.data.toList)).drop k) ∧ wr.ownsRow wb.heap.size 5 1 ov out.length (byteCells out) ∧ Below wb.heap.size wb wr)) (fun _ iv _ => n - (RowKit.intOf iv).toNat)
    case atStart => exact ⟨0, [], Nat.zero_le _, rfl, Nat.le_refl _, hid ⟨rfl, World.ownsRow_nil _ _ _ _, Below.refl _ _⟩⟩
    case round =>
      obtain ⟨k, out, hk, rfl, hout, hh⟩ := hrel
      obtain ⟨hacc, hown, hbel⟩ := hh.out
      clear hh
      have Own := hid hown
      have Hbel := hid hbel
      have Hacc := hid hacc
      by_cases hlt : k < n
      · obtain ⟨T3, hT3⟩ : ∃ T3, L[k]? = some T3 := ⟨_, List.getElem?_eq_getElem (by rw [← Hn.out]; omega)⟩
        have hz3 : T3.size ≤ 1048576 := Nat.le_trans (Hes.out T3 (List.mem_of_getElem? hT3)) hs
        have hc3 := (HTx.out.below hbel hg2) k T3 hT3
        rw [Nat.zero_add] at hc3
        have HcT := hid hc3
        have hdrop := parts_drop hT3
        obtain ⟨x, ok, hx⟩ := optV_pair (cntB 16 T3.data.toList)
        have HC := hid (count_pair (b := 16) (by omega) (by omega) (show T3.size ≤ 16777216 by omega) hx)
        have HB := hid (fun w => bytesR_any T3 (by omega) w)
        obtain ⟨q, hq, hways⟩ := piece_ways hx
        obtain ⟨ao, cap, hvs⟩ := slice_of_row hown
        subst hvs
        have hsz : wb.heap.size ≤ wr.heap.size := hbel.size
        have Hq := hid hq
        have Hways := hid hways
        have Hdrop := hid hdrop
        clear hq hways hx hdrop hT3 hown hbel hacc
        go_wp2_with fail
        refine (HC.out _).mono ?_
        rintro e w' ⟨rfl, rfl⟩
        go_upto_region 9 with fail
        go_cut [10, 46] (fun u v wx => u = .bool ok ∧ v = .bool q ∧ wr = wx)
        case first =>
          rcases Hways.out with ⟨hok, hq⟩ | ⟨hok, ⟨h1, hq⟩ | ⟨h1, ⟨h4, hq⟩ | ⟨h4, hq⟩⟩⟩
          all_goals
            have hqq := hid hq
            clear hq
            go_wp2
            go_meet
            exact ⟨by rw [hok], by rw [hqq.out]; first | done | rfl | (congr 1; exact decide_eq_false (by omega)) | (congr 1; exact decide_eq_true (by omega)), rfl⟩
        case rest =>
          obtain ⟨rfl, rfl, rfl⟩ := hcut
          clear Hways HC
          cases q with
          | true =>
            obtain ⟨hx, ho⟩ : x ≤ 4294967296 ∧ pieceP T3.data.toList = some [UInt8.ofNat (x / 256), UInt8.ofNat x] := by
              rcases Hq.out with ⟨_, h⟩ | ⟨h, _⟩
              · exact h
              · cases h
            have Hstep := hid (show pieceAcc last [] (L.map (·.data.toList)) = pieceAcc last (out ++ [UInt8.ofNat (x / 256), UInt8.ofNat x]) ((L.map (·.data.toList)).drop (k + 1)) by rw [Hacc.out, Hdrop.out, pieceAcc_step ho])
            have Hcv0 := hid (show (x : Int) / 256 % 256 = ((UInt8.ofNat (x / 256)).toNat : Int) by rw [UInt8.toNat_ofNat']; omega)
            have Hcv1 := hid (show (x : Int) % 256 = ((UInt8.ofNat x).toNat : Int) by rw [UInt8.toNat_ofNat']; omega)
            clear ho HB
            go_wp2_with (at_builtin; go_loud (refine app2 rfl _ _ rfl rfl wb.heap.size out (UInt8.ofNat (x / 256)) (UInt8.ofNat x) _ _ Hcv0.out Hcv1.out (.slice ao out.length cap) rfl Own.out rfl (by omega) hsz ?_); intro v' w5 happ)
            have hbn := app_below Hbel.out Own.out happ hsz
            exact ⟨⟨k + 1, out ++ [UInt8.ofNat (x / 256), UInt8.ofNat x], by omega, by go_num, by simp; omega, hid ⟨Hstep.out, happ.1, hbn⟩⟩, by simp only [RowKit.intOf]; omega⟩
          | false =>
            have hp : pieceP T3.data.toList = none := by
              rcases Hq.out with ⟨h, _⟩ | ⟨_, h⟩
              · cases h
              · exact h
            have Hp := hid hp
            clear hp Hq
            go_wp2_with fail
            refine (HB.out _).mono ?_
            intro e w2 hres
            rcases hres with ⟨hno, rfl, hb⟩ | ⟨y, v4, hy, rfl, hown4, hb⟩
            · have Hno := hid (show takeP last s.data.toList = none by rw [HF.out, Hacc.out, Hdrop.out, pieceAcc_no Hp.out (.inr (.inl hno))])
              have Hb2 := hid (Hb1.out.trans ((Hbel.out.trans (hb.mono hsz)).mono Hb1.out.size))
              clear hno hb
              go_wp2
              go_ret2
              exact .inl ⟨Hno.out, rfl, Hb2.out⟩
            · have Hy4 := hid (octP_len hy)
              have Hy := hid hy
              have Hbel2 := hid (Hbel.out.trans (hb.mono hsz))
              have Hb2 := hid (Hb1.out.trans (Hbel2.out.mono Hb1.out.size))
              have Own2 := hid ((Touch.of_below (S := fun _ => False) hb).own Own.out (fun _ _ h => h))
              obtain ⟨ao4, cap4, hv4⟩ := slice_of_row hown4
              obtain ⟨ad, had, hcy⟩ := row_cells hown4 hv4 (by rw [byteCells_length, Hy4.out]; decide)
              obtain ⟨y4, hy4⟩ : ∃ y4, y4 = y.length := ⟨_, rfl⟩
              rw [← hy4] at hv4
              have Hy5 := hid hy4
              subst hv4 had
              have Hcy := hid hcy
              have hsz2 : wb.heap.size ≤ w2.heap.size := Hbel2.out.size
              clear hb hy hcy hown4 hy4
              by_cases hgood : last = true ∧ k = M
              · obtain ⟨rfl, hkM⟩ := hgood
                have hkl : ¬ (k : Int) < (M : Int) := by omega
                have hnil : (L.map (·.data.toList)).drop (k + 1) = [] := List.drop_eq_nil_of_le (by rw [List.length_map, ← Hn.out]; have := HM.out; omega)
                have Hstep := hid (show pieceAcc true [] (L.map (·.data.toList)) = pieceAcc true (out ++ y) ((L.map (·.data.toList)).drop (k + 1)) by rw [Hacc.out, Hdrop.out, hnil, pieceAcc_four Hp.out, if_pos rfl, Hy.out]; rfl)
                clear hkM hnil
                go_wp2_with (at_builtin; refine appRow rfl _ _ rfl rfl wb.heap.size out y (.slice ao out.length cap) rfl Own2.out ad y4 cap4 Hy5.out rfl Hcy.out (by rw [Hy4.out]; omega) hsz2 ?_; intro v' w5 happ)
                have hbn := app_below Hbel2.out Own2.out happ hsz2
                exact ⟨⟨k + 1, out ++ y, by omega, by go_num, by rw [List.length_append, Hy4.out]; omega, hid ⟨Hstep.out, happ.1, hbn⟩⟩, by simp only [RowKit.intOf]; omega⟩
              · have Hno := hid (show takeP last s.data.toList = none by
                  rw [HF.out, Hacc.out, Hdrop.out]
                  apply pieceAcc_no Hp.out
                  cases last with
                  | false => exact .inl rfl
                  | true =>
                    right; right
                    intro e
                    have := List.drop_eq_nil_iff.1 e
                    rw [List.length_map, ← Hn.out] at this
                    have := HM.out
                    exact hgood ⟨rfl, by omega⟩)
                cases last with
                | false =>
                  clear hgood
                  go_wp2
                  go_ret2
                  exact .inl ⟨Hno.out, rfl, Hb2.out⟩
                | true =>
                  have hkl : (k : Int) < (M : Int) := by
                    have := HM.out
                    have : k ≠ M := fun h => hgood ⟨rfl, h⟩
                    omega
                  clear hgood
                  go_wp2
                  go_ret2
                  exact .inl ⟨Hno.out, rfl, Hb2.out⟩
      · have hnil : (L.map (·.data.toList)).drop k = [] := List.drop_eq_nil_of_le (by rw [List.length_map, ← Hn.out]; omega)
        rw [hnil] at hacc
        have Hres := hid (show ∀ v e, e = .returned (.tuple #[v, .bool true]) → wr.ownsRow wb.heap.size 5 1 v out.length (byteCells out) → RowRet (takeP last s.data.toList) w e wr from fun v e he ho => .inr ⟨out, v, by rw [HF.out, hacc]; rfl, he, ownsRow_mono ho Hb1.out.size, Hb1.out.trans (Hbel.out.mono Hb1.out.size)⟩)
        clear hacc hbel hnil hown
        go_wp2
        go_ret2
        exact Hres.out _ _ rfl Own.out
end Go.Proofs.YtiookngmgednjaaDoor
