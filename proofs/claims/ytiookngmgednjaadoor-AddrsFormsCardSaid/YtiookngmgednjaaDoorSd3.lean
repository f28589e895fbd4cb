/- Walk: a side of a text of sixteen bytes: (*side).take. -/
import Derived.Test.YtiookngmgednjaaDoorSd2
namespace Go.Proofs.YtiookngmgednjaaDoor
open Go.RowKit Go.Lib Go.Proofs.Foot

theorem pieceAcc_more {e : Bool} {out p q : List UInt8} {ps : List (List UInt8)} {x : List UInt8} (h : pieceP p = some x) : pieceAcc e out (p :: q :: ps) = pieceAcc e (out ++ x) (q :: ps) := by rw [pieceAcc, h]
theorem pieceAcc_none {e : Bool} {out p q : List UInt8} {ps : List (List UInt8)} (h : pieceP p = none) : pieceAcc e out (p :: q :: ps) = none := by rw [pieceAcc, h]
theorem pieceAcc_last {e : Bool} {out p : List UInt8} {x : List UInt8} (h : pieceP p = some x) : pieceAcc e out [p] = some (out ++ x) := by rw [pieceAcc, h]
theorem pieceAcc_four {e : Bool} {out p : List UInt8} (h : pieceP p = none) : pieceAcc e out [p] = if e = true then (fourP p).map (out ++ ·) else none := by rw [pieceAcc, h]
theorem piece_dot {p : List UInt8} (h : 46 ∈ p) : pieceP p = none := by
  unfold pieceP
  rw [cntB_no h (by decide)]
theorem four_nodot {p : List UInt8} (h : 46 ∉ p) : fourP p = none := by
  unfold fourP
  rw [cutAt_free h]; rfl
theorem pieceP_len {p x : List UInt8} (h : pieceP p = some x) : x.length = 2 := by
  obtain ⟨n, _, _, _, rfl⟩ := pieceP_yes h
  rfl
theorem octAcc_len (ps : List (List UInt8)) : ∀ out x, octAcc out ps = some x → x.length = out.length + ps.length := by
  induction ps with
  | nil => intro out x h; rw [octAcc] at h; injection h with h; rw [h]; rfl
  | cons p ps ih =>
    intro out x h
    rw [octAcc] at h
    split at h
    · have := ih _ _ h
      rw [this, List.length_append, List.length_cons]; simp; omega
    · cases h
theorem dot_yes {l : List UInt8} (h : 46 ∈ l) : decide (0 ≤ Lib.indexByte l 46) = true := by
  rw [decide_eq_true_eq]
  have hg := Lib.indexByte_ge l 46
  rcases Int.lt_or_le (Lib.indexByte l 46) 0 with hn | hn
  · have e : Lib.indexByte l 46 = -1 := by omega
    obtain ⟨k, hk, hkk⟩ := List.mem_iff_getElem.1 h
    exact absurd (by rw [List.getElem?_eq_getElem hk, hkk]) (Lib.indexByte_none e k)
  · exact hn
theorem dot_no {l : List UInt8} (h : 46 ∉ l) : decide (0 ≤ Lib.indexByte l 46) = false := by
  rw [decide_eq_false_iff_not]
  intro hn
  obtain ⟨o, ho⟩ := Int.eq_ofNat_of_zero_le hn
  exact h (List.mem_of_getElem? (Lib.indexByte_some ho).1)
theorem contains_dot (s : ByteArray) (w : World) : Calls Tryd.prog 47 #[.string s, .string ⟨#[46]⟩] w fun e w' => e = .returned (.bool (decide (0 ≤ Lib.indexByte s.data.toList 46))) ∧ w = w' :=
  (Tryd.strings_Contains_one s 46 w).mono fun _ _ ⟨h1, h2⟩ => ⟨h1, h2.symm⟩
/-- What take answers. -/
def TakeSide (base b : Nat) (last : Bool) (l0 : List UInt8) (v : Value) (w : World) (o : Option (List UInt8)) (e : Ending) (w' : World) : Prop :=
  (o = none ∧ e = .returned (.bool false) ∧ Touch (SideBlk b v) w w') ∨ ∃ x v', o = some x ∧ e = .returned (.bool true) ∧ SideRun base b last v w (l0 ++ x) v' w'
set_option maxHeartbeats 2000000 in
set_option maxRecDepth 100000 in
theorem takeA_any (s : ByteArray) (hs : s.size ≤ 1048576) (w0 w : World) (A0 : Amb w0) (hw : Below w0.heap.size w0 w) (base b : Nat) (hb0 : w0.heap.size ≤ b) (l0 : List UInt8) (last : Bool) (v : Value) (hS : SideAt w base b l0 last v) (hbase : base ≤ w.heap.size) (hl : l0.length ≤ 1048576) :
    Calls Tryd.prog 32 #[.pointer (some ⟨b, 0, none⟩), .string s] w (TakeSide base b last l0 v w (takeP last s.data.toList)) := by
  by_cases h0 : s.size = 0
  · have hl : s.data.toList = [] := List.eq_nil_of_length_eq_zero (by rw [← Lib.size_eq]; exact h0)
    have hse : s = ⟨#[]⟩ := by cases s; simp at hl; rw [hl]
    subst hse
    have Hres := hid (show TakeSide base b last l0 v w (takeP last (⟨#[]⟩ : ByteArray).data.toList) (.returned (.bool true)) w from .inr ⟨[], v, rfl, rfl, by rw [List.append_nil]; exact SideRun.refl hS⟩)
    clear hl h0 hS A0 hw
    go_enter Tryd.func32, Tryd.ntmps32
    go_wp2
    go_ret
    exact Hres.out
  · have hne : s.data.toList ≠ [] := fun e => h0 (by rw [Lib.size_eq, e]; rfl)
    have hemp := empty_not (T := s) hne
    have htk : takeP last s.data.toList = pieceAcc last [] (cutAt 58 s.data.toList) := by unfold takeP; rw [if_neg hne]
    rw [htk]
    obtain ⟨L, hcut, h1, hLs, hel, hsp⟩ := split_at s 58 w (by omega) (A0.below hw).sh
    have hLs2 : L.length ≤ s.size + 1 := by
      have := congrArg List.length hcut
      rw [List.length_map, cutAt_length] at this
      have h2 := List.count_le_length (a := (58 : UInt8)) (l := s.data.toList)
      rw [← Lib.size_eq] at h2
      omega
    have hes : ∀ t ∈ L, t.size ≤ s.size := fun t ht => by
      have hm : t.data.toList ∈ cutAt 58 s.data.toList := by rw [← hcut]; exact List.mem_map_of_mem ht
      have := cutAt_le4 58 _ _ hm
      rw [Lib.size_eq, Lib.size_eq]; exact this
    rw [← hcut]
    have Hsp := hid hsp
    have HS := hid hS
    have HA := hid A0
    have Hw := hid hw
    have Hes := hid hes
    have hbw : b < w.heap.size := hS.in_heap
    obtain ⟨n, hn⟩ : ∃ n, n = L.length := ⟨_, rfl⟩
    have Hn := hid hn
    rw [← hn] at hLs hLs2 h1 Hsp
    obtain ⟨M, hM⟩ : ∃ M, n = M + 1 := ⟨n - 1, by omega⟩
    have HM := hid hM
    have qm : IntKind.i64.wrap ((n : Int) - 1) = (M : Int) := by rw [IntWalk.i64_in _ (by omega)]; omega
    clear hsp hS A0 hw hel hcut hn htk hne hes hM h0
    go_enter Tryd.func32, Tryd.ntmps32
    go_wp2_with (go_at_call 25; refine Hsp.out.mono ?_; rintro e w1 ⟨rfl, hTx, hb1, hlt⟩)
    have HTx := hid hTx
    have Hb1 := hid hb1
    have HS1 := hid (HS.out.below hb1)
    have hbase1 : base ≤ w1.heap.size := Nat.le_trans hbase hb1.size
    have Hw1 := hid (below_chain Hw.out hb1)
    have Hlt := hid hlt
    have hgb : ¬ SideBlk b v w.heap.size := fun h => by
      rcases h with h | h
      · omega
      · have := (HS.out.own.lt _ h).2; omega
    have Hgb := hid hgb
    clear hTx hb1 hlt hgb
    go_loopw [15] (fun iv wr => ∃ (k : Nat) (out : List UInt8) (vk : Value), k ≤ n ∧ iv = .int .i64 k ∧ out.length ≤ 4 * k ∧ Hid (pieceAcc last [] (L.map (·.data.toList)) = pieceAcc last out ((L.map (·.data.toList)).drop k) ∧ SideRun base b last v w1 (l0 ++ out) vk wr)) (fun iv _ => n - (RowKit.intOf iv).toNat)
    case atStart => exact ⟨0, [], v, Nat.zero_le _, rfl, Nat.le_refl _, hid ⟨rfl, by rw [List.append_nil]; exact SideRun.refl HS1.out⟩⟩
    case round =>
      obtain ⟨k, out, vk, hk, rfl, hout, hh⟩ := hrel
      obtain ⟨hacc, hrun⟩ := hh.out
      clear hh
      have Hrun := hid hrun
      have Hacc := hid hacc
      have hbelow := side_below Hw1.out HS1.out hb0 hrun.touch
      have Hbelow := hid hbelow
      have Hamb := hid (HA.out.below hbelow)
      by_cases hlt : k < n
      · obtain ⟨T3, hT3⟩ : ∃ T3, L[k]? = some T3 := ⟨_, List.getElem?_eq_getElem (by rw [← Hn.out]; exact hlt)⟩
        have hz3 : T3.size ≤ 1048576 := Nat.le_trans (Hes.out T3 (List.mem_of_getElem? hT3)) hs
        have hc3 : wr.cell? ⟨w.heap.size, k, none⟩ = some (.string T3) := by
          have h1 := HTx.out k T3 hT3
          rw [Nat.zero_add] at h1
          rw [World.cell?_of_block (hrun.touch.block w.heap.size Hlt.out Hgb.out)]
          exact h1
        have hdrop := parts_drop hT3
        have Hdrop := hid hdrop
        have hsz : base ≤ wr.heap.size := Nat.le_trans hbase1 hrun.touch.size
        have hll : (l0 ++ out).length ≤ 16777216 := by rw [List.length_append]; omega
        have Hll := hid hll
        clear hrun hacc hT3 hdrop hbelow hll
        by_cases hkM : k = M
        · have hke : ((k : Int) == (M : Int)) = true := by rw [beq_iff_eq]; omega
          have hnil : (L.map (·.data.toList)).drop (k + 1) = [] := List.drop_eq_nil_of_le (by rw [List.length_map, ← Hn.out]; have := HM.out; omega)
          have Hnil := hid hnil
          clear hnil hkM
          by_cases hdot : (46 : UInt8) ∈ T3.data.toList
          · have hpd := piece_dot hdot
            have hix : decide (0 ≤ Lib.indexByte T3.data.toList 46) = true := dot_yes hdot
            have HC := hid (fun w => contains_dot T3 w)
            rw [hix] at HC
            have HP := hid (fourSide_any T3 (by omega) w0 wr HA.out Hbelow.out base b hb0 (l0 ++ out) last vk Hrun.out.at' hsz Hll.out)
            have hspec : pieceAcc last [] (L.map (·.data.toList)) = if last = true then (fourP T3.data.toList).map (out ++ ·) else none := by rw [Hacc.out, Hdrop.out, Hnil.out, pieceAcc_four hpd]
            have Hspec := hid hspec
            clear hpd hix hspec
            go_wp2_with (go_at_call 47; refine (HC.out _).mono ?_; rintro e w' ⟨rfl, rfl⟩)
            refine HP.out.mono ?_
            intro e w2 hres
            rcases hres with ⟨ho, rfl, ht⟩ | ⟨x, v2, ho, rfl, hr2⟩
            · have Hno := hid (show pieceAcc last [] (L.map (·.data.toList)) = none by
                rw [Hspec.out]
                unfold fourP
                rw [ho]
                split
                · split <;> rfl
                · rfl)
              have Hrn := hid (show Touch (SideBlk b v) w w2 from touch_two (SideRun.after Hb1.out Hrun.out).touch (SideRun.after Hb1.out Hrun.out).row ht)
              clear ho ht
              go_wp2
              go_ret
              exact .inl ⟨Hno.out, rfl, Hrn.out⟩
            · obtain ⟨q, hq⟩ : ∃ q, q = (last && decide ((cutAt 46 T3.data.toList).length = 4)) := ⟨_, rfl⟩
              rw [← hq]
              cases q with
              | true =>
                have hq' := hq.symm
                rw [Bool.and_eq_true, decide_eq_true_eq] at hq'
                have hx4 := octAcc_len _ _ _ ho
                rw [hq'.2] at hx4
                have hx2 : x.length = 4 := by rw [hx4]; rfl
                have hfin : pieceAcc last [] (L.map (·.data.toList)) = some (out ++ x) := by
                  rw [Hspec.out, if_pos hq'.1]
                  unfold fourP
                  rw [if_pos hq'.2, ho]; rfl
                have hrn := Hrun.out.trans hr2
                rw [List.append_assoc] at hrn
                have Hrn := hid (And.intro (show pieceAcc last [] (L.map (·.data.toList)) = pieceAcc last (out ++ x) ((L.map (·.data.toList)).drop (k + 1)) by rw [hfin, Hnil.out]; rfl) hrn)
                clear hrn hr2 hfin hq hq' ho hx4
                go_wp2_with fail
                exact ⟨⟨k + 1, out ++ x, _, by omega, by go_num, by rw [List.length_append, hx2]; omega, Hrn⟩, by simp only [RowKit.intOf]; omega⟩
              | false =>
                have Hno := hid (show pieceAcc last [] (L.map (·.data.toList)) = none by
                  rw [Hspec.out]
                  cases hl2 : last with
                  | false => rw [if_neg (by decide)]
                  | true =>
                    rw [hl2, Bool.true_and] at hq
                    have h4 : ¬ (cutAt 46 T3.data.toList).length = 4 := of_decide_eq_false hq.symm
                    rw [if_pos rfl]
                    unfold fourP
                    rw [if_neg h4]; rfl)
                have Hrn := hid (show Touch (SideBlk b v) w w2 from touch_two (SideRun.after Hb1.out Hrun.out).touch (SideRun.after Hb1.out Hrun.out).row hr2.touch)
                clear hq ho hr2
                go_wp2
                go_ret
                exact .inl ⟨Hno.out, rfl, Hrn.out⟩
          · have hix : decide (0 ≤ Lib.indexByte T3.data.toList 46) = false := dot_no hdot
            have HC := hid (fun w => contains_dot T3 w)
            rw [hix] at HC
            cases hp : pieceP T3.data.toList with
            | some x =>
              have hx2 := pieceP_len hp
              have HP := hid (pieceA_yes T3 x hp (by omega) wr Hamb.out.err base b (l0 ++ out) last vk Hrun.out.at' hsz Hll.out)
              have Hstep := hid (show pieceAcc last [] (L.map (·.data.toList)) = pieceAcc last (out ++ x) ((L.map (·.data.toList)).drop (k + 1)) by rw [Hacc.out, Hdrop.out, Hnil.out, pieceAcc_last hp]; rfl)
              clear hp hix
              go_wp2_with (go_at_call 47; refine (HC.out _).mono ?_; rintro e w' ⟨rfl, rfl⟩)
              refine (HP.out).mono ?_
              rintro e w2 ⟨v2, rfl, hr2⟩
              have hrn := Hrun.out.trans hr2
              rw [List.append_assoc] at hrn
              have Hrn := hid (And.intro Hstep.out hrn)
              clear hrn hr2
              go_wp2_with fail
              exact ⟨⟨k + 1, out ++ x, _, by omega, by go_num, by rw [List.length_append, hx2]; omega, Hrn⟩, by simp only [RowKit.intOf]; omega⟩
            | none =>
              have HP := hid (pieceA_no T3 hp (by omega) wr Hamb.out.err b vk)
              have Hno := hid (show pieceAcc last [] (L.map (·.data.toList)) = none by
                rw [Hacc.out, Hdrop.out, Hnil.out, pieceAcc_four hp, four_nodot hdot]
                split <;> rfl)
              clear hp hix
              go_wp2_with (go_at_call 47; refine (HC.out _).mono ?_; rintro e w' ⟨rfl, rfl⟩)
              refine (HP.out).mono ?_
              rintro e w2 ⟨rfl, hr2⟩
              have Hrn := hid (show Touch (SideBlk b v) w w2 from touch_two (SideRun.after Hb1.out Hrun.out).touch (SideRun.after Hb1.out Hrun.out).row hr2)
              clear hr2
              go_wp2
              go_ret
              exact .inl ⟨Hno.out, rfl, Hrn.out⟩
        · have hkne : ((k : Int) == (M : Int)) = false := by rw [beq_eq_false_iff_ne]; omega
          obtain ⟨T4, hT4⟩ : ∃ T4, L[k + 1]? = some T4 := ⟨_, List.getElem?_eq_getElem (by rw [← Hn.out]; have := HM.out; omega)⟩
          have hdrop4 := parts_drop hT4
          cases hp : pieceP T3.data.toList with
          | some x =>
            have hx2 := pieceP_len hp
            have HP := hid (pieceA_yes T3 x hp (by omega) wr Hamb.out.err base b (l0 ++ out) last vk Hrun.out.at' hsz Hll.out)
            have Hstep := hid (show pieceAcc last [] (L.map (·.data.toList)) = pieceAcc last (out ++ x) ((L.map (·.data.toList)).drop (k + 1)) by rw [Hacc.out, Hdrop.out, hdrop4, pieceAcc_more hp])
            clear hp hT4 hdrop4
            go_wp2_with fail
            refine (HP.out).mono ?_
            rintro e w2 ⟨v2, rfl, hr2⟩
            have hrn := Hrun.out.trans hr2
            rw [List.append_assoc] at hrn
            have Hrn := hid (And.intro Hstep.out hrn)
            clear hrn hr2
            go_wp2_with fail
            exact ⟨⟨k + 1, out ++ x, _, by omega, by go_num, by rw [List.length_append, hx2]; omega, Hrn⟩, by simp only [RowKit.intOf]; omega⟩
          | none =>
            have HP := hid (pieceA_no T3 hp (by omega) wr Hamb.out.err b vk)
            have Hno := hid (show pieceAcc last [] (L.map (·.data.toList)) = none by rw [Hacc.out, Hdrop.out, hdrop4, pieceAcc_none hp])
            clear hp hT4 hdrop4
            go_wp2_with fail
            refine (HP.out).mono ?_
            rintro e w2 ⟨rfl, hr2⟩
            have Hrn := hid (show Touch (SideBlk b v) w w2 from touch_two (SideRun.after Hb1.out Hrun.out).touch (SideRun.after Hb1.out Hrun.out).row hr2)
            clear hr2
            go_wp2
            go_ret
            exact .inl ⟨Hno.out, rfl, Hrn.out⟩
      · have hnil : (L.map (·.data.toList)).drop k = [] := List.drop_eq_nil_of_le (by rw [List.length_map, ← Hn.out]; omega)
        rw [hnil, pieceAcc] at hacc
        have Hres := hid (show TakeSide base b last l0 v w (pieceAcc last [] (L.map (·.data.toList))) (.returned (.bool true)) wr from .inr ⟨out, vk, hacc, rfl, SideRun.after Hb1.out hrun⟩)
        clear hacc hrun hbelow hnil
        go_wp2
        go_ret
        exact Hres.out
end Go.Proofs.YtiookngmgednjaaDoor
