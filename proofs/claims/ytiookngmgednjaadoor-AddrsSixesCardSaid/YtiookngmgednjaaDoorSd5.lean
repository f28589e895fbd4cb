/- Walk: footmanref04.bytes. -/
import Derived.Test.YtiookngmgednjaaDoorSd4
namespace Go.Proofs.YtiookngmgednjaaDoor
open Go.RowKit Go.Lib Go.Proofs.Foot

theorem okB_dig (c : UInt8) : okB 10 c = digB c := by
  have h : ∀ n < 256, okB 10 (UInt8.ofNat n) = digB (UInt8.ofNat n) := by decide +kernel
  have := h c.toNat c.toNat_lt
  rwa [UInt8.ofNat_toNat] at this
theorem valB_dig (l : List UInt8) (h : ∀ c ∈ l, digB c = true) : ∀ acc, valB 10 acc l = digV acc l := by
  induction l with
  | nil => intro acc; rfl
  | cons c l ih =>
    intro acc
    have hc := (digB_iff c).1 (h c (by simp))
    rw [valB_cons, digV_cons, hexI_dig4 hc, show ((c.toNat : Int) - 48).toNat = c.toNat - 48 from by omega]
    exact ih (fun d hd => h d (List.mem_cons_of_mem _ hd)) _
theorem cnt10_some {l : List UInt8} {x : Nat} (h : cntB 10 l = some x) : (∀ c ∈ l, digB c = true) ∧ x = min 4294967296 (digV 0 l) := by
  unfold cntB at h
  split at h
  · rename_i ha
    have hd : ∀ c ∈ l, digB c = true := fun c hc => by rw [← okB_dig]; exact List.all_eq_true.1 ha c hc
    injection h with h
    exact ⟨hd, by rw [← h, valB_dig l hd]⟩
  · cases h
theorem cnt10_none {l : List UInt8} (h : cntB 10 l = none) : octB l = none := by
  unfold octB
  rw [if_neg]
  rintro ⟨_, hd, _⟩
  unfold cntB at h
  rw [if_pos (List.all_eq_true.2 (fun c hc => by rw [okB_dig]; exact hd c hc))] at h
  cases h
theorem oct_is {l : List UInt8} {x : Nat} (h : cntB 10 l = some x) (h0 : l ≠ []) (hc : l.length ≤ 1 ∨ l.head? ≠ some 48) : (x ≤ 255 ∧ octB l = some x) ∨ (255 < x ∧ octB l = none) := by
  obtain ⟨hd, hx⟩ := cnt10_some h
  unfold octB
  by_cases hv : digV 0 l ≤ 255
  · left
    rw [if_pos ⟨h0, hd, hv, hc⟩]
    have : x = digV 0 l := by omega
    exact ⟨by omega, by rw [this]⟩
  · right
    rw [if_neg (fun h => hv h.2.2.1)]
    exact ⟨by omega, rfl⟩
/-- The ways in which the test of a number may go. -/
theorem oct_ways {s : ByteArray} {x : Nat} {ok : Bool} (h : optV (cntB 10 s.data.toList) = .tuple #[.int .i64 x, .bool ok]) :
    ∃ q, ((q = true ∧ octB s.data.toList = none) ∨ (q = false ∧ x ≤ 255 ∧ octB s.data.toList = some x)) ∧
      ((ok = false ∧ q = true) ∨ (ok = true ∧ ((((s.size : Int) == 0) = true ∧ q = true) ∨ (((s.size : Int) == 0) = false ∧
        ((¬ (s.size : Int) > 1 ∧ (((x : Int) > 255 ∧ q = true) ∨ (¬ (x : Int) > 255 ∧ q = false))) ∨
         ∃ (c : UInt8) (h0 : 0 < s.size), (s.size : Int) > 1 ∧ s[0]'h0 = c ∧ ((((c.toNat : Int) == 48) = true ∧ q = true) ∨ (((c.toNat : Int) == 48) = false ∧ (((x : Int) > 255 ∧ q = true) ∨ (¬ (x : Int) > 255 ∧ q = false))))))))) := by
  cases ok with
  | false => exact ⟨true, .inl ⟨rfl, cnt10_none (optV_none h)⟩, .inl ⟨rfl, rfl⟩⟩
  | true =>
    have hy := optV_yes h
    by_cases h0 : s.size = 0
    · have hl : s.data.toList = [] := List.eq_nil_of_length_eq_zero (by rw [← Lib.size_eq]; exact h0)
      exact ⟨true, .inl ⟨rfl, by rw [hl]; rfl⟩, .inr ⟨rfl, .inl ⟨by rw [beq_iff_eq]; omega, rfl⟩⟩⟩
    · have hne : s.data.toList ≠ [] := fun e => h0 (by rw [Lib.size_eq, e]; rfl)
      have e0 : ((s.size : Int) == 0) = false := by rw [beq_eq_false_iff_ne]; omega
      have hp : 0 < s.size := by omega
      obtain ⟨a, r, hl, ha⟩ := one_of hp
      have hsl := Lib.size_eq s
      by_cases h1 : 1 < s.size
      · by_cases h48 : a = 48
        · refine ⟨true, .inl ⟨rfl, ?_⟩, .inr ⟨rfl, .inr ⟨e0, .inr ⟨a, hp, by omega, ha, .inl ⟨by rw [h48]; rfl, rfl⟩⟩⟩⟩⟩
          unfold octB
          rw [if_neg]
          rintro ⟨_, _, _, hc | hc⟩
          · omega
          · rw [hl, h48] at hc; exact hc rfl
        · have e48 : ((a.toNat : Int) == 48) = false := by
            rw [beq_eq_false_iff_ne]; intro e; exact h48 (UInt8.toNat.inj (by have : (48 : UInt8).toNat = 48 := rfl; omega))
          rcases oct_is hy hne (.inr (by rw [hl]; intro e; injection e with e; exact h48 e)) with ⟨hx, ho⟩ | ⟨hx, ho⟩
          · exact ⟨false, .inr ⟨rfl, hx, ho⟩, .inr ⟨rfl, .inr ⟨e0, .inr ⟨a, hp, by omega, ha, .inr ⟨e48, .inr ⟨by omega, rfl⟩⟩⟩⟩⟩⟩
          · exact ⟨true, .inl ⟨rfl, ho⟩, .inr ⟨rfl, .inr ⟨e0, .inr ⟨a, hp, by omega, ha, .inr ⟨e48, .inl ⟨by omega, rfl⟩⟩⟩⟩⟩⟩
      · rcases oct_is hy hne (.inl (by omega)) with ⟨hx, ho⟩ | ⟨hx, ho⟩
        · exact ⟨false, .inr ⟨rfl, hx, ho⟩, .inr ⟨rfl, .inr ⟨e0, .inl ⟨by omega, .inr ⟨by omega, rfl⟩⟩⟩⟩⟩
        · exact ⟨true, .inl ⟨rfl, ho⟩, .inr ⟨rfl, .inr ⟨e0, .inl ⟨by omega, .inl ⟨by omega, rfl⟩⟩⟩⟩⟩
/-- What bytes and pieces answer. -/
def RowRet (o : Option (List UInt8)) (w : World) (e : Ending) (w' : World) : Prop :=
  (o = none ∧ e = .returned (.tuple #[.slice none 0 0, .bool false]) ∧ Below w.heap.size w w') ∨ ∃ x v, o = some x ∧ e = .returned (.tuple #[v, .bool true]) ∧ w'.ownsRow w.heap.size 5 1 v x.length (byteCells x) ∧ Below w.heap.size w w'
theorem app_below {w0 w w' : World} {base : Nat} {l m : List UInt8} {v v' : Value} (hb : Below base w0 w) (hown : w.ownsRow base 5 1 v l.length (byteCells l)) (ha : Appd base l m v w v' w') (hz : base ≤ w.heap.size) : Below base w0 w' :=
  hb.trans (ha.2.1.below (fun k hk => (hown.lt k hk).1) hz)
set_option maxHeartbeats 2000000 in
set_option maxRecDepth 100000 in
theorem bytesR_any (s : ByteArray) (hs : s.size ≤ 4194304) (w : World) :
    Calls Tryd.prog 49 #[.string s] w (RowRet (fourP s.data.toList) w) := by
  have HP := hid (fun w => partsR_any s 46 w hs)
  go_enter Tryd.func49, Tryd.ntmps49
  go_wp2_with fail
  refine (HP.out _).mono ?_
  rintro e wb ⟨L, gl, capL, hcut, h1, hel, hLs, rfl, hLc, hTx, hg1, hg2, hb1⟩
  obtain ⟨n, hn⟩ : ∃ n, n = L.length := ⟨_, rfl⟩
  rw [← hn] at h1 hLs hLc ⊢
  have hlen : (cutAt 46 s.data.toList).length = n := by rw [← hcut, List.length_map]; exact hn.symm
  by_cases h4 : n = 4
  · have h4' : ((n : Int) != 4) = false := by rw [bne_eq_false_iff_eq]; omega
    have hF : fourP s.data.toList = octAcc [] (L.map (·.data.toList)) := by unfold fourP; rw [if_pos (by rw [hlen]; exact h4), hcut]
    have HF := hid hF
    have Hn := hid hn
    have Hel := hid hel
    have HTx := hid hTx
    have Hb1 := hid hb1
    have H4 := hid h4
    have k4 : 4 ≤ n := by omega
    clear hF hn hel hTx hb1 hlen hcut h4 HP
    go_wp2_with fail
    go_loopw [5, 6] (fun ov iv wr => ∃ (k : Nat) (out : List UInt8), k ≤ 4 ∧ iv = .int .i64 k ∧ out.length ≤ k ∧ Hid (octAcc [] (L.map (·.data.toList)) = octAcc out ((L.map (·.data.toList)).drop k) ∧ wr.ownsRow wb.heap.size 5 1 ov out.length (byteCells out) ∧ Below wb.heap.size wb wr)) (fun _ iv _ => 4 - (RowKit.intOf iv).toNat)
    case atStart => exact ⟨0, [], Nat.zero_le _, rfl, Nat.le_refl _, hid ⟨rfl, World.ownsRow_nil _ _ _ _, Below.refl _ _⟩⟩
    case round =>
      obtain ⟨k, out, hk, rfl, hout, hh⟩ := hrel
      obtain ⟨hacc, hown, hbel⟩ := hh.out
      clear hh
      have Own := hid hown
      have Hbel := hid hbel
      have Hacc := hid hacc
      by_cases hlt : k < 4
      · obtain ⟨T3, hT3⟩ : ∃ T3, L[k]? = some T3 := ⟨_, List.getElem?_eq_getElem (by rw [← Hn.out]; omega)⟩
        have hz3 : T3.size ≤ 16777216 := Hel.out T3 (List.mem_of_getElem? hT3)
        have hc3 := (HTx.out.below hbel hg2) k T3 hT3
        rw [Nat.zero_add] at hc3
        have hdrop := parts_drop hT3
        obtain ⟨x, ok, hx⟩ := optV_pair (cntB 10 T3.data.toList)
        have HC := hid (count_pair (b := 10) (by omega) (by omega) hz3 hx)
        obtain ⟨q, hq, hways⟩ := oct_ways hx
        obtain ⟨ao, cap, hvs⟩ := slice_of_row hown
        subst hvs
        have hsz : wb.heap.size ≤ wr.heap.size := hbel.size
        have Hq := hid hq
        have Hways := hid hways
        have Hdrop := hid hdrop
        have k0 : (k : Int) < (n : Int) := by omega
        clear hq hways hx hdrop hT3 hown hbel hacc
        cases ok with
        | false =>
          have ho : octB T3.data.toList = none := by
            rcases Hways.out with ⟨_, h⟩ | ⟨h, _⟩
            · rcases Hq.out with ⟨_, h⟩ | ⟨h', _⟩
              · exact h
              · rw [h] at h'; cases h'
            · cases h
          have Hno := hid (show fourP s.data.toList = none by rw [HF.out, Hacc.out, Hdrop.out, octAcc_no ho])
          clear ho
          go_wp2_with fail
          refine (HC.out _).mono ?_
          rintro e w' ⟨rfl, rfl⟩
          go_wp2
          go_ret2
          exact .inl ⟨Hno.out, rfl, Hb1.out.trans (Hbel.out.mono Hb1.out.size)⟩
        | true =>
          go_wp2_with fail
          refine (HC.out _).mono ?_
          rintro e w' ⟨rfl, rfl⟩
          go_upto_region 9 with fail
          go_cut [55] (fun v wx => v = .bool q ∧ wr = wx)
          case first =>
            rcases Hways.out with ⟨hok, _⟩ | ⟨_, ⟨h0, hq⟩ | ⟨h0, ⟨h1, ⟨hx, hq⟩ | ⟨hx, hq⟩⟩ | ⟨c, h00, h1, h2, ⟨h48, hq⟩ | ⟨h48, ⟨hx, hq⟩ | ⟨hx, hq⟩⟩⟩⟩⟩
            · cases hok
            all_goals
              have hqq := hid hq
              clear hq
              go_wp2
              go_meet
              exact ⟨by rw [hqq.out]; first | done | rfl | (congr 1; exact decide_eq_false (by omega)), rfl⟩
          case rest =>
            obtain ⟨rfl, rfl⟩ := hcut
            clear Hways HC
            cases q with
            | true =>
              have ho : octB T3.data.toList = none := by
                rcases Hq.out with ⟨_, h⟩ | ⟨h, _⟩
                · exact h
                · cases h
              have Hno := hid (show fourP s.data.toList = none by rw [HF.out, Hacc.out, Hdrop.out, octAcc_no ho])
              clear ho
              go_wp2
              go_ret2
              exact .inl ⟨Hno.out, rfl, Hb1.out.trans (Hbel.out.mono Hb1.out.size)⟩
            | false =>
              obtain ⟨hx, ho⟩ : x ≤ 255 ∧ octB T3.data.toList = some x := by
                rcases Hq.out with ⟨h, _⟩ | ⟨_, h⟩
                · cases h
                · exact h
              have Hstep := hid (show octAcc [] (L.map (·.data.toList)) = octAcc (out ++ [UInt8.ofNat x]) ((L.map (·.data.toList)).drop (k + 1)) by rw [Hacc.out, Hdrop.out, octAcc_yes ho])
              have hcv : IntKind.u8.wrap (x : Int) = ((UInt8.ofNat x).toNat : Int) := by rw [IntKind.wrap_u8, UInt8.toNat_ofNat']; omega
              clear ho
              go_wp2_with (at_builtin; refine app1z rfl _ _ rfl rfl wb.heap.size out (UInt8.ofNat x) _ hcv (.slice ao out.length cap) rfl Own.out rfl (by omega) hsz ?_; intro v' w5 happ)
              have hbn := app_below Hbel.out Own.out happ hsz
              exact ⟨⟨k + 1, out ++ [UInt8.ofNat x], by omega, by go_num, by simp; omega, hid ⟨Hstep.out, happ.1, hbn⟩⟩, by simp only [RowKit.intOf]; omega⟩
      · have hnil : (L.map (·.data.toList)).drop k = [] := List.drop_eq_nil_of_le (by rw [List.length_map, ← Hn.out]; have := H4.out; omega)
        rw [hnil] at hacc
        have Hres := hid (show ∀ v e, e = .returned (.tuple #[v, .bool true]) → wr.ownsRow wb.heap.size 5 1 v out.length (byteCells out) → RowRet (fourP s.data.toList) w e wr from fun v e he ho => .inr ⟨out, v, by rw [HF.out, hacc]; rfl, he, ownsRow_mono ho Hb1.out.size, Hb1.out.trans (Hbel.out.mono Hb1.out.size)⟩)
        clear hacc hbel hnil hown
        go_wp2
        go_ret2
        exact Hres.out _ _ rfl Own.out
  · have h4' : ((n : Int) != 4) = true := by rw [bne_iff_ne]; omega
    have Hno := hid (show fourP s.data.toList = none by unfold fourP; rw [if_neg (by rw [hlen]; exact h4)])
    have Hb1 := hid hb1
    clear hn hel hTx hb1 hlen hcut h4 HP
    go_wp2
    go_ret2
    exact .inl ⟨Hno.out, rfl, Hb1.out⟩
end Go.Proofs.YtiookngmgednjaaDoor
