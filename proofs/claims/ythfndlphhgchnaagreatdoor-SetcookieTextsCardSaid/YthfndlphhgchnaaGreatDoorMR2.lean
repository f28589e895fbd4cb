/- Walk: the reference's parts of a text, at its semicolons (chapter 10). -/
import Derived.Test.YthfndlphhgchnaaGreatDoorTxA
import Derived.Test.YthfndlphhgchnaaGreatDoorSpec01e
import Derived.Test.YthfndlphhgchnaaGreatDoorTrimR
import Derived.Test.YthfndlphhgchnaaGreatDoorMR1
import Derived.Test.YthfndlphhgchnaaGreatDoorSc0
import Derived.Test.YthfndlphhgchnaaGreatDoorSpec10e
import Derived.Deep.Cut
import Derived.Deep.DeepCutAuto
import Derived.Deep.QuietTactic
import Derived.BigQuiet
import Derived.IntWalk
import Derived.Test.YthfndlphhgchnaaGreatDoorLowR
import Derived.Test.YthfndlphhgchnaaGreatDoorSc4
namespace Go.Proofs.YthfndlphhgchnaaGreatDoor
open Go.RowKit Go.Lib Go.Proofs.Foot

/-- What stands while the parts are gathered: the parts so far, and no such byte since f. -/
def PartsAt (a : UInt8) (l : List UInt8) (ps : List ByteArray) (f k : Nat) : Prop := (∀ t ∈ ps, t.size ≤ 16777216) ∧ ps.length ≤ k ∧
  ((k ≤ l.length ∧ f ≤ k ∧ cutAt a l = ps.map (·.data.toList) ++ cutAt a (l.drop f) ∧ a ∉ (l.drop f).take (k - f)) ∨ (k = l.length + 1 ∧ cutAt a l = ps.map (·.data.toList)))
theorem PartsAt.start (a : UInt8) (l : List UInt8) : PartsAt a l [] 0 0 := ⟨by simp, Nat.le_refl _, .inl ⟨Nat.zero_le _, Nat.le_refl _, by simp, by simp⟩⟩
theorem drop_split {l : List UInt8} {f k : Nat} (hf : f ≤ k) (hk : k < l.length) : l.drop f = (l.drop f).take (k - f) ++ l[k] :: l.drop (k + 1) := by
  have h1 : l.drop k = l[k] :: l.drop (k + 1) := List.drop_eq_getElem_cons hk
  have h2 := List.take_append_drop (k - f) (l.drop f)
  rw [List.drop_drop, show f + (k - f) = k from by omega, h1] at h2
  exact h2.symm
theorem PartsAt.skip {a : UInt8} {l : List UInt8} {ps : List ByteArray} {f k : Nat} (h : PartsAt a l ps f k) (hk : k < l.length) (hc : l[k] ≠ a) : PartsAt a l ps f (k + 1) := by
  obtain ⟨h1, h2, h3⟩ := h
  rcases h3 with ⟨_, hf, he, hn⟩ | ⟨h, _⟩
  · refine ⟨h1, by omega, .inl ⟨by omega, by omega, he, ?_⟩⟩
    have e : (l.drop f).take (k + 1 - f) = (l.drop f).take (k - f) ++ [l[k]] := by
      have hl : k - f < (l.drop f).length := by rw [List.length_drop]; omega
      rw [show k + 1 - f = k - f + 1 from by omega, List.take_succ_eq_append_getElem hl]
      congr 2
      rw [List.getElem_drop]
      congr 1; omega
    rw [e, List.mem_append]
    rintro (h | h)
    · exact hn h
    · exact hc (List.mem_singleton.1 h).symm
  · omega
theorem PartsAt.cut {a : UInt8} {l : List UInt8} {ps : List ByteArray} {f k : Nat} (h : PartsAt a l ps f k) (hk : k < l.length) (hc : l[k] = a) {t : ByteArray} (ht : t.data.toList = (l.drop f).take (k - f)) (hz : t.size ≤ 16777216) : PartsAt a l (ps ++ [t]) (k + 1) (k + 1) := by
  obtain ⟨h1, h2, h3⟩ := h
  rcases h3 with ⟨_, hf, he, hn⟩ | ⟨h, _⟩
  · refine ⟨fun x hx => ?_, by simp; omega, .inl ⟨by omega, Nat.le_refl _, ?_, by simp⟩⟩
    · rcases List.mem_append.1 hx with h | h
      · exact h1 x h
      · rw [List.mem_singleton.1 h]; exact hz
    · have hs := drop_split hf hk
      rw [hc] at hs
      rw [he, hs, cutAt_at hn, ← ht]
      simp
  · omega
theorem PartsAt.last {a : UInt8} {l : List UInt8} {ps : List ByteArray} {f k : Nat} (h : PartsAt a l ps f k) (hk : k = l.length) {t : ByteArray} (ht : t.data.toList = (l.drop f).take (k - f)) (hz : t.size ≤ 16777216) : PartsAt a l (ps ++ [t]) (k + 1) (k + 1) := by
  obtain ⟨h1, h2, h3⟩ := h
  rcases h3 with ⟨_, hf, he, hn⟩ | ⟨h, _⟩
  · refine ⟨fun x hx => ?_, by simp; omega, .inr ⟨by omega, ?_⟩⟩
    · rcases List.mem_append.1 hx with h | h
      · exact h1 x h
      · rw [List.mem_singleton.1 h]; exact hz
    · have e : (l.drop f).take (k - f) = l.drop f := List.take_of_length_le (by rw [List.length_drop]; omega)
      rw [e] at hn ht
      rw [he, cutAt_free hn, ← ht]
      simp
  · omega
theorem PartsAt.fin {a : UInt8} {l : List UInt8} {ps : List ByteArray} {f k : Nat} (h : PartsAt a l ps f k) (hk : l.length < k) : ps.map (·.data.toList) = cutAt a l := by
  obtain ⟨h1, h2, h3⟩ := h
  rcases h3 with ⟨h, _⟩ | ⟨_, he⟩
  · omega
  · exact he.symm
theorem PartsAt.from_le {a : UInt8} {l : List UInt8} {ps : List ByteArray} {f k : Nat} (h : PartsAt a l ps f k) (hk : k ≤ l.length) : f ≤ k := by
  obtain ⟨h1, h2, h3⟩ := h
  rcases h3 with ⟨_, hf, _⟩ | ⟨h, _⟩
  · exact hf
  · omega
/-- The parts lie in a row of the call's own. -/
def PartsRet (a : UInt8) (s : ByteArray) (w : World) (e : Ending) (w' : World) : Prop := ∃ (L : List ByteArray) (g cap : Nat), L.map (·.data.toList) = cutAt a s.data.toList ∧ 1 ≤ L.length ∧ (∀ t ∈ L, t.size ≤ 16777216) ∧ L.length ≤ s.size + 1 ∧ e = .returned (.slice (some ⟨g, 0, none⟩) L.length cap) ∧ L.length ≤ cap ∧ TextsAt w' g 0 L ∧ w.heap.size ≤ g ∧ g < w'.heap.size ∧ Below w.heap.size w w'
set_option maxHeartbeats 2000000 in
set_option maxRecDepth 100000 in
theorem partsR_any (s : ByteArray) (w : World) (hs : s.size ≤ 4194304) :
    Calls Tryz.prog 29 #[.string s] w (PartsRet 59 s w) := by
  have hsl : s.data.toList.length = s.size := (Lib.size_eq s).symm
  have Hsl := hid hsl
  clear hsl
  go_enter Tryz.func29, Tryz.ntmps29
  go_wp2
  go_loopw [3, 4, 5] (fun lv fv iv wr => ∃ (k f : Nat) (ps : List ByteArray), k ≤ s.size + 1 ∧ iv = .int .i64 k ∧ fv = .int .i64 f ∧ ps.length ≤ k ∧ Hid (wr.ownsRow w.heap.size 9 1 lv ps.length (ps.map Value.string) ∧ Below w.heap.size w wr ∧ PartsAt 59 s.data.toList ps f k)) (fun _ _ iv _ => s.size + 1 - (RowKit.intOf iv).toNat)
  case atStart => exact ⟨0, 0, [], Nat.zero_le _, rfl, rfl, Nat.le_refl _, hid ⟨World.ownsRow_nil _ _ _ _, Below.refl _ _, PartsAt.start 59 _⟩⟩
  case round =>
    obtain ⟨k, f, ps, hk, rfl, rfl, hps, hh⟩ := hrel
    obtain ⟨hown, hbel, hpa⟩ := hh.out
    obtain ⟨ao, cap, hvs⟩ := slice_of_rowS hown
    have Own := hid hown
    have Hb := hid hbel
    have Hpa := hid hpa
    by_cases hle : k ≤ s.size
    · have hfk := hpa.from_le (by rw [Hsl.out]; exact hle)
      have hsz : w.heap.size ≤ wr.heap.size := hbel.size
      subst hvs
      have i1 : (k : Int) ≤ (s.size : Int) := by omega
      by_cases hlt : k < s.size
      · have hl : k < s.data.toList.length := by rw [Hsl.out]; exact hlt
        obtain ⟨c, hc⟩ : ∃ c, s[k]'hlt = c := ⟨_, rfl⟩
        have hcl : s.data.toList[k]'hl = c := hc
        have i2 : ((k : Int) == (s.size : Int)) = false := by rw [beq_eq_false_iff_ne]; omega
        by_cases hca : c = 59
        · have i3 : ((c.toNat : Int) == 59) = true := by rw [hca]; rfl
          have htl : (s.extract f k).data.toList = (s.data.toList.drop f).take (k - f) := by rw [extract_eq]
          have htz : (s.extract f k).size ≤ 16777216 := by rw [Lib.size_eq, htl, List.length_take]; omega
          have Hpn := hid (hpa.cut hl (by rw [hcl, hca]) htl htz)
          have Hc := hid hcl
          clear hh hown hbel hpa hca htl hcl htz
          go_wp2_with (at_builtin; refine appS1 rfl _ _ rfl rfl w.heap.size ps (s.extract f k) (.slice ao ps.length cap) rfl Own.out rfl (by omega) hsz ?_; intro v' w5 happ)
          have Happ := hid happ
          clear happ
          refine ⟨⟨k + 1, k + 1, ps ++ [s.extract f k], by omega, by go_num, by go_num, by simp; omega, hid ⟨Happ.out.1, Happ.out.below Own.out Hb.out (Nat.le_refl _), Hpn.out⟩⟩, ?_⟩
          simp only [RowKit.intOf]; omega
        · have i3 : ((c.toNat : Int) == 59) = false := by
            rw [beq_eq_false_iff_ne]; intro h; exact hca (UInt8.toNat.inj (by rw [show (59 : UInt8).toNat = 59 from rfl]; omega))
          have Hpn := hid (hpa.skip hl (by rw [hcl]; exact hca))
          have Hc := hid hcl
          clear hh hown hbel hpa hca hcl
          go_wp2
          refine ⟨⟨k + 1, f, ps, by omega, by go_num, rfl, by omega, hid ⟨Own.out, Hb.out, Hpn.out⟩⟩, ?_⟩
          simp only [RowKit.intOf]; omega
      · have hks : k = s.size := by omega
        have i2 : ((k : Int) == (s.size : Int)) = true := by rw [beq_iff_eq]; omega
        have htl : (s.extract f k).data.toList = (s.data.toList.drop f).take (k - f) := by rw [extract_eq]
        have htz : (s.extract f k).size ≤ 16777216 := by rw [Lib.size_eq, htl, List.length_take]; omega
        have Hpn := hid (hpa.last (by rw [Hsl.out]; exact hks) htl htz)
        have Hks := hid hks
        clear hh hown hbel hpa htl htz hks
        go_wp2_with (at_builtin; refine appS1 rfl _ _ rfl rfl w.heap.size ps (s.extract f k) (.slice ao ps.length cap) rfl Own.out rfl (by omega) hsz ?_; intro v' w5 happ)
        have Happ := hid happ
        clear happ
        refine ⟨⟨k + 1, k + 1, ps ++ [s.extract f k], by omega, by go_num, by go_num, by simp; omega, hid ⟨Happ.out.1, Happ.out.below Own.out Hb.out (Nat.le_refl _), Hpn.out⟩⟩, ?_⟩
        simp only [RowKit.intOf]; omega
    · have hgt : s.data.toList.length < k := by rw [Hsl.out]; omega
      have hfin := hpa.fin hgt
      have i1 : ¬ (k : Int) ≤ (s.size : Int) := by omega
      have hne : 1 ≤ ps.length := by
        have := congrArg List.length hfin
        rw [List.length_map, cutAt_length] at this; omega
      obtain ⟨g, cap2, rfl, hg1, hg2, hg3, hTx⟩ := row_texts hown hne
      have Hfin : Hid (PartsRet 59 s w (.returned (.slice (some ⟨g, 0, none⟩) ps.length cap2)) wr) := hid ⟨ps, g, cap2, hfin, hne, hpa.1, by omega, rfl, hg3, hTx, hg1, hg2, hbel⟩
      clear hh hown hbel hpa hfin hTx hvs Own Hb Hpa
      go_wp2
      go_ret
      exact Hfin.out
end Go.Proofs.YthfndlphhgchnaaGreatDoor
/- Walks: the reference's pair and age (chapter 10). -/
namespace Go.Proofs.YthfndlphhgchnaaGreatDoor
open Go.RowKit Go.Lib Go.Proofs.Foot

theorem trimQ (s : ByteArray) (w : World) (hs : s.size ≤ 16777216) :
    Calls Tryz.prog 48 #[.string s] w fun e w' => e = .returned (.string (tx (trim s.data.toList))) ∧ w' = w := by
  refine (trimR_any s w hs).mono ?_
  rintro e w' ⟨he, h⟩
  exact ⟨he, h.symm⟩
set_option maxHeartbeats 1000000 in
set_option maxRecDepth 100000 in
theorem pairR_any (s : ByteArray) (hs : s.size ≤ 16777216) (w : World) :
    Calls Tryz.prog 30 #[.string s] w fun e w' => e = .returned (.tuple #[.string (tx (nameP s.data.toList)), .string (tx (valP s.data.toList)), .bool (hasE s.data.toList)]) ∧ Below w.heap.size w w' := by
  have hsl : s.data.toList.length = s.size := (Lib.size_eq s).symm
  have Hsl := hid hsl
  have HQ := hid trimQ
  clear hsl
  go_enter Tryz.func30, Tryz.ntmps30
  go_wp2
  go_loop [5] (fun i => ∃ k : Nat, k ≤ s.size ∧ i = .int .i64 k ∧ Hid ((61 : UInt8) ∉ s.data.toList.take k)) (fun i => s.size - (RowKit.intOf i).toNat)
  case atStart => exact ⟨0, Nat.zero_le _, rfl, hid (by simp)⟩
  case round =>
    obtain ⟨k, hk, rfl, hfree⟩ := hrel
    by_cases hlt : k < s.size
    · obtain ⟨c, hc⟩ : ∃ c, s[k]'hlt = c := ⟨_, rfl⟩
      have hl : k < s.data.toList.length := by rw [Hsl.out]; exact hlt
      have hcl : s.data.toList[k]'hl = c := hc
      have hc256 : (c.toNat : Int) < 256 := by have := UInt8.toNat_lt c; omega
      by_cases h61 : c = 61
      · have i1 : ((c.toNat : Int) == 61) = true := by rw [h61]; rfl
        have hsplit : s.data.toList = s.data.toList.take k ++ 61 :: s.data.toList.drop (k + 1) := by
          have h1 : s.data.toList.drop k = s.data.toList[k] :: s.data.toList.drop (k + 1) := List.drop_eq_getElem_cons hl
          rw [hcl, h61] at h1
          rw [← h1, List.take_append_drop]
        obtain ⟨b1, b2, b3⟩ := befE_at hfree.out (s.data.toList.drop (k + 1))
        rw [← hsplit] at b1 b2 b3
        have hsl := Hsl.out
        have x1 : (s.extract 0 k).data.toList = s.data.toList.take k := by rw [extract_eq]; simp
        have x2 : (s.extract (k + 1) s.size).data.toList = s.data.toList.drop (k + 1) := by
          rw [extract_eq, List.take_of_length_le (by rw [List.length_drop]; omega)]
        have z1 : (s.extract 0 k).size ≤ 16777216 := by rw [Lib.size_eq, x1, List.length_take]; omega
        have z2 : (s.extract (k + 1) s.size).size ≤ 16777216 := by rw [Lib.size_eq, x2, List.length_drop]; omega
        have e1 := hid (show nameP s.data.toList = trim (s.extract 0 k).data.toList by rw [nameP, b1, x1])
        have e2 := hid (show valP s.data.toList = trim (s.extract (k + 1) s.size).data.toList by rw [valP, b2, x2])
        have e3 := hid b3
        have k1 : IntKind.i64.wrap ((k : Int) + 1) = (k : Int) + 1 := IntWalk.i64_in _ (by omega)
        have k2 : (0 : Int) ≤ (k : Int) + 1 := by omega
        have k3 : ((k : Int) + 1).toNat = k + 1 := by omega
        have k4 : (k : Int) + 1 ≤ (s.size : Int) := by omega
        have k5 : (k : Int) ≤ (s.size : Int) := by omega
        clear hcl hsplit b1 b2 b3 x1 x2 h61 hfree hsl
        go_wp2_with fail
        go_quiet ((go_at_call 48; exact Calls.quiet_of_same (HQ.out _ _ (by assumption))))
        clear k1 k3
        go_wp2
        go_ret3
        exact ⟨ret_val (by rw [e1.out, e2.out, e3.out]; rfl), below_drewN (Below.refl _ _) _⟩
      · have i1 : ((c.toNat : Int) == 61) = false := by
          rw [beq_eq_false_iff_ne]; intro h; exact h61 (UInt8.toNat.inj (by rw [show (61 : UInt8).toNat = 61 from rfl]; omega))
        have Hn : Hid ((61 : UInt8) ∉ s.data.toList.take (k + 1)) := hid (by
          rw [take_snoc' hl, hcl, List.mem_append]
          rintro (h | h)
          · exact hfree.out h
          · exact h61 (List.mem_singleton.1 h).symm)
        clear hcl h61 hfree
        go_wp2
        go_round
        case rel => exact ⟨k + 1, by omega, by go_num, Hn⟩
        case measure => simp [RowKit.intOf]; omega
    · have hf : (61 : UInt8) ∉ s.data.toList := by
        have := hfree.out
        rwa [List.take_of_length_le (by rw [Hsl.out]; omega)] at this
      obtain ⟨b1, b2, b3⟩ := befE_free hf
      have e1 := hid (show nameP s.data.toList = trim s.data.toList by rw [nameP, b1])
      have e2 := hid (show valP s.data.toList = [] by rw [valP, b2]; rfl)
      have e3 := hid b3
      have HT := hid (trimQ s w hs)
      clear hf b1 b2 b3 hfree
      go_wp2_with (go_at_call 48; refine HT.out.mono ?_; rintro e w1 ⟨rfl, rfl⟩)
      go_ret3
      exact ⟨ret_val (by rw [e1.out, e2.out, e3.out]; rfl), Below.refl _ _⟩
/-- An age's value. -/
def ageV (o : Option Int) : Int × Bool := match o with | some x => (x, true) | none => (0, false)
theorem min_snoc {l : List UInt8} {k : Nat} (h : k < l.length) : min maxN (digV 0 (l.take (k + 1))) = min maxN (10 * min maxN (digV 0 (l.take k)) + (l[k].toNat - 48)) := by
  rw [digV_snoc h]
  unfold maxN
  omega
theorem head_ext (s : ByteArray) (h : 0 < s.size) : s.data.toList.head? = some (s[0]'h) ∧ (s.extract 1 s.size).data.toList = s.data.toList.drop 1 := by
  have h1 := ext_tail s h
  refine ⟨by rw [h1]; rfl, ?_⟩
  rw [extract_eq, List.take_of_length_le (by rw [List.length_drop]; rw [← Lib.size_eq]; omega)]
theorem empty_noR {T : ByteArray} (h : T.data.toList ≠ []) : T.toList.isEmpty = false := by
  rw [← decide_eq_emptyBytes]
  exact decide_eq_false (fun e => h (by rw [e]; rfl))
set_option maxHeartbeats 2000000 in
set_option maxRecDepth 100000 in
theorem ageR_any (s : ByteArray) (hs : s.size ≤ 16777216) (w : World) (v : Int) (o : Bool) (ho : ageV (ageO s.data.toList) = (v, o)) :
    Calls Tryz.prog 51 #[.string s] w fun e w' => e = .returned (.tuple #[.int .i64 v, .bool o]) ∧ w = w' := by
  obtain ⟨q, hq⟩ : ∃ q, q = decide (s.data.toList.head? = some 45) := ⟨_, rfl⟩
  obtain ⟨T, hT⟩ : ∃ T : ByteArray, T = if q = true then s.extract 1 s.size else s := ⟨_, rfl⟩
  obtain ⟨sg, hsg⟩ : ∃ sg : Int, sg = if q = true then -1 else 1 := ⟨_, rfl⟩
  have hTl : T.data.toList = offH 45 s.data.toList := by
    rw [hT]
    cases q with
    | true =>
      rw [if_pos rfl]
      have hh := of_decide_eq_true hq.symm
      unfold offH
      rw [if_pos hh]
      have h0 : 0 < s.size := by
        rw [Lib.size_eq]
        cases hl : s.data.toList with
        | nil => rw [hl] at hh; cases hh
        | cons _ _ => simp
      exact (head_ext s h0).2
    | false =>
      rw [if_neg (by decide), offH_no (of_decide_eq_false hq.symm)]
  have hTs : T.size ≤ 16777216 := by have := offH_len 45 s.data.toList; rw [← hTl, ← Lib.size_eq, ← Lib.size_eq] at this; omega
  have Hno : Hid ((T.data.toList = [] ∨ ∃ c ∈ T.data.toList, digB c = false) → v = 0 ∧ o = false) := hid (fun h => by
    rw [ageO_no (by rw [← hTl]; exact h)] at ho
    have : ((0 : Int), false) = (v, o) := ho
    injection this with a b
    exact ⟨a.symm, b.symm⟩)
  have Hyes : Hid (T.data.toList ≠ [] → (∀ c ∈ T.data.toList, digB c = true) → v = (if q = true then -((min maxN (digV 0 T.data.toList) : Nat) : Int) else ((min maxN (digV 0 T.data.toList) : Nat) : Int)) ∧ o = true) := hid (fun h1 h2 => by
    rw [ageO_yes (by rw [← hTl]; exact h1) (by rw [← hTl]; exact h2) rfl] at ho
    have : ((if s.data.toList.head? = some 45 then -((min maxN (digV 0 (offH 45 s.data.toList)) : Nat) : Int) else ((min maxN (digV 0 (offH 45 s.data.toList)) : Nat) : Int)), true) = (v, o) := ho
    injection this with a b
    refine ⟨?_, b.symm⟩
    rw [← a, ← hTl, hq]
    by_cases hh : s.data.toList.head? = some 45
    · rw [if_pos hh, if_pos (by rw [decide_eq_true hh])]
    · rw [if_neg hh, if_neg (by rw [decide_eq_false hh]; decide)])
  have HTT := hid hT
  have Hq := hid hq
  have Hsg := hid hsg
  have htl : T.data.toList.length = T.size := (Lib.size_eq T).symm
  have Htl := hid htl
  clear hTl ho hT hsg htl hq
  go_enter Tryz.func51, Tryz.ntmps51
  go_upto_region 2 with fail
  go_cut [13] (fun va wx => va = .bool q ∧ w = wx)
  case first =>
    have hq := Hq.out
    by_cases h0 : s.size = 0
    · have hl0 : s.data.toList = [] := List.eq_nil_of_length_eq_zero (by rw [← Lib.size_eq]; exact h0)
      obtain rfl : s = ⟨#[]⟩ := by cases s; simp at hl0; rw [hl0]
      have hqq := hid (show q = false by rw [hq]; rfl)
      clear hq h0 hl0
      go_wp2
      go_meet
      exact ⟨by rw [hqq.out], rfl⟩
    · have h1 : 0 < s.size := by omega
      obtain ⟨c, hc⟩ : ∃ c, s[0]'h1 = c := ⟨_, rfl⟩
      have hh := (head_ext s h1).1
      rw [hc] at hh
      have hemp := empty_noR (T := s) (by intro e; rw [e] at hh; cases hh)
      have hc256 : (c.toNat : Int) < 256 := by have := UInt8.toNat_lt c; omega
      rw [hh] at hq
      by_cases h45 : c = 45
      · have i1 : ((c.toNat : Int) == 45) = true := by rw [h45]; rfl
        have hqq := hid (show q = true by rw [hq, h45]; rfl)
        clear hq hh h0 h45
        go_wp2
        go_meet
        exact ⟨by rw [hqq.out], rfl⟩
      · have i1 : ((c.toNat : Int) == 45) = false := by
          rw [beq_eq_false_iff_ne]; intro h; exact h45 (UInt8.toNat.inj (by rw [show (45 : UInt8).toNat = 45 from rfl]; omega))
        have hqq := hid (show q = false by rw [hq]; exact decide_eq_false (fun e => h45 (by injection e)))
        clear hq hh h0 h45
        go_wp2
        go_meet
        exact ⟨by rw [hqq.out], rfl⟩
  case rest =>
    obtain ⟨rfl, rfl⟩ := hcut
    go_upto_if 13 with fail
    go_cut [0, 4] (fun va vb wx => va = .string T ∧ vb = .int .i64 sg ∧ w = wx)
    case first =>
      have hT := HTT.out
      have hsg := Hsg.out
      cases q with
      | true =>
        have h1 : 1 ≤ s.size := by
          have hh := of_decide_eq_true Hq.out.symm
          rw [Lib.size_eq]
          cases hl : s.data.toList with
          | nil => rw [hl] at hh; cases hh
          | cons _ _ => simp
        rw [if_pos rfl] at hT hsg
        have HT2 := hid hT
        have HS2 := hid hsg
        clear hT hsg
        go_wp2
        go_meet
        exact ⟨by rw [HT2.out], by rw [HS2.out], rfl⟩
      | false =>
        rw [if_neg (by decide)] at hT hsg
        have HT2 := hid hT
        have HS2 := hid hsg
        clear hT hsg
        go_wp2
        go_meet
        exact ⟨by rw [HT2.out], by rw [HS2.out], rfl⟩
    case rest =>
      obtain ⟨rfl, rfl, rfl⟩ := hcut
      go_wp2
      go_loop [5, 6] (fun n i => ∃ k m : Nat, k ≤ T.size ∧ i = .int .i64 k ∧ n = .int .i64 m ∧ m ≤ 2147483647 ∧ Hid (m = min maxN (digV 0 (T.data.toList.take k)) ∧ ∀ c ∈ T.data.toList.take k, digB c = true)) (fun _ i => T.size - (RowKit.intOf i).toNat)
      case atStart => exact ⟨0, 0, Nat.zero_le _, rfl, rfl, Nat.zero_le _, hid ⟨rfl, by simp⟩⟩
      case round =>
        obtain ⟨k, m, hk, rfl, rfl, hm, hall⟩ := hrel
        by_cases hlt : k < T.size
        · obtain ⟨c, hc⟩ : ∃ c, T[k]'hlt = c := ⟨_, rfl⟩
          have hl : k < T.data.toList.length := by rw [Htl.out]; exact hlt
          have hcl : T.data.toList[k]'hl = c := hc
          have hc256 : (c.toNat : Int) < 256 := by have := UInt8.toNat_lt c; omega
          cases hdg : digB c with
          | true =>
            have h48 := (digB_iff _).1 hdg
            obtain ⟨c0, c1⟩ := h48
            have hsn := min_snoc hl
            rw [hcl, ← hall.out.1] at hsn
            obtain ⟨m2, hm2⟩ : ∃ m2 : Nat, m2 = min 2147483647 (10 * m + (c.toNat - 48)) := ⟨_, rfl⟩
            have Hall : Hid (m2 = min maxN (digV 0 (T.data.toList.take (k + 1))) ∧ ∀ d ∈ T.data.toList.take (k + 1), digB d = true) := by
              refine hid ⟨by rw [hsn, hm2]; rfl, fun d hd => ?_⟩
              rw [List.take_add_one, List.getElem?_eq_getElem hl, Option.toList_some, hcl] at hd
              rcases List.mem_append.1 hd with h | h
              · exact hall.out.2 d h
              · rw [List.mem_singleton.1 h]; exact hdg
            have hmm : min (2147483647 : Int) (10 * (m : Int) + ((c.toNat : Int) - 48)) = (m2 : Int) := by omega
            have hm2b : m2 ≤ 2147483647 := by omega
            have Hdg := hid hdg
            have Hm2 := hid hm2
            have Hmm := hid hmm
            clear hsn hcl hdg hall hl hm2 hmm
            go_wp2_with (go_at_call 76; refine (digit_is c true Hdg.out _).mono ?_; rintro e w1 ⟨rfl, rfl⟩)
            go_round
            case rel => exact ⟨k + 1, m2, by omega, by go_num, by first | rw [Hmm.out] | (have := Hmm.out; go_num), hm2b, Hall⟩
            case measure => simp [RowKit.intOf]; omega
          | false =>
            obtain ⟨rfl, rfl⟩ := Hno.out (.inr ⟨c, by rw [← hcl]; exact List.getElem_mem hl, hdg⟩)
            have Hdg := hid hdg
            clear hcl hdg hall hl
            go_wp2_with (go_at_call 76; refine (digit_is c false Hdg.out _).mono ?_; rintro e w1 ⟨rfl, rfl⟩)
            go_ret2
            exact ⟨rfl, rfl⟩
        · have hfull : T.data.toList.take k = T.data.toList := List.take_of_length_le (by rw [Htl.out]; omega)
          obtain ⟨hm1, hd⟩ := hall.out
          rw [hfull] at hm1 hd
          by_cases hne : T.data.toList = []
          · obtain ⟨rfl, rfl⟩ := Hno.out (.inl hne)
            have hm0 : m = 0 := by rw [hm1, hne]; rfl
            subst hm0
            have h0 : T = ⟨#[]⟩ := by cases T; simp at hne; rw [hne]
            have hs2 : sg = -1 ∨ sg = 1 := by rw [Hsg.out]; cases q <;> simp
            subst h0
            clear hm1 hd hfull hall hne
            rcases hs2 with rfl | rfl
            all_goals
              go_wp2
              go_ret2
              exact ⟨rfl, rfl⟩
          · obtain ⟨hv, rfl⟩ := Hyes.out hne hd
            rw [← hm1] at hv
            have hemp := empty_noR hne
            have hs2 : (q = true ∧ sg = -1) ∨ (q = false ∧ sg = 1) := by rw [Hsg.out]; cases q <;> simp
            clear hm1 hd hfull hall hne
            rcases hs2 with ⟨rfl, rfl⟩ | ⟨rfl, rfl⟩
            · rw [if_pos rfl] at hv
              have Hv := hid hv
              clear hv
              go_wp2
              go_ret2
              exact ⟨ret_val (by rw [Hv.out]; first | rfl | (simp)), rfl⟩
            · rw [if_neg (by decide)] at hv
              have Hv := hid hv
              clear hv
              go_wp2
              go_ret2
              exact ⟨ret_val (by rw [Hv.out]; first | rfl | (simp)), rfl⟩
end Go.Proofs.YthfndlphhgchnaaGreatDoor
/- Walk: the reference's says: what an attribute does. -/
namespace Go.Proofs.YthfndlphhgchnaaGreatDoor
open Go.RowKit Go.Lib Go.Proofs.Foot

/-- What it does, with the cookie in block g. -/
def SaysT (g : Nat) (t : CkT) (w : World) (e : Ending) (w' : World) : Prop := e = .returned (.tuple #[]) ∧ Blk w' g 24 (rowC t) ∧ w.grownBy w' (some g)
theorem lowerR_to (s : ByteArray) (hs : s.size ≤ 16777216) (w : World) (T : ByteArray) (hT : lower s.data.toList = T.data.toList) :
    Calls Tryz.prog 49 #[.string s] w fun e w' => e = .returned (.string T) ∧ Below w.heap.size w w' := by
  have := lowerR_any s w (by unfold maxLen; omega)
  rw [hT] at this; exact this
theorem cookieRO (s : ByteArray) (hs : s.size ≤ 16777216) (w : World) (v : Int) (o : Bool) (h : (match dateO s.data.toList with | some x => (x, true) | none => (0, false)) = (v, o)) :
    Calls Tryz.prog 50 #[.string s] w fun e w' => e = .returned (.tuple #[.int .i64 v, .bool o]) ∧ Below w.heap.size w w' := by
  refine (cookieR_any s hs w).mono ?_
  rintro e w' ⟨he, hb⟩
  refine ⟨he.trans ?_, hb⟩
  rw [dateV_D]
  unfold dateO at h
  cases hd : dateD (dateP s.data.toList) with
  | none => rw [hd] at h; simp at h; rw [← h.1, ← h.2]
  | some x => rw [hd] at h; simp at h; rw [← h.1, ← h.2]
theorem grown_more {w w1 w2 : World} {r : Option Nat} (h : w.grownBy w1 r) (hb : Below w1.heap.size w1 w2) : w.grownBy w2 r :=
  ⟨hb.os.trans h.os, hb.tape.trans h.tape, hb.output.trans h.output, Nat.le_trans h.size hb.size, fun k hk hne => (hb.block k (Nat.lt_of_lt_of_le hk h.size)).trans (h.block k hk hne)⟩
theorem str_no {T : ByteArray} {l : List UInt8} (h : T.data.toList ≠ l) : (T.toList == l) = false := by
  rw [beq_eq_false_iff_ne, Lib.toList_data]; exact h
theorem str_is {T : ByteArray} {l : List UInt8} (h : T.data.toList = l) : T = ⟨l.toArray⟩ := by rw [← h]
/-- A date is told. -/
def expT (t : CkT) (o : Option Int) : CkT := match o with | some x => { t with exp := x, hasExp := true } | none => t
/-- The head of a text, and what is behind it. -/
theorem head_ways (s : ByteArray) (a : UInt8) (A : Int) (hA : A = (a.toNat : Int)) : (s = ⟨#[]⟩) ∨ ∃ h : 0 < s.size, s.toList.isEmpty = false ∧ ((((s[0]'h).toNat : Int) == A) = decide (s.data.toList.head? = some a)) := by
  subst hA
  by_cases h0 : s.size = 0
  · left
    have hl0 : s.data.toList = [] := List.eq_nil_of_length_eq_zero (by rw [← Lib.size_eq]; exact h0)
    cases s; simp at hl0; rw [hl0]
  · right
    have h1 : 0 < s.size := by omega
    have hh := (head_ext s h1).1
    refine ⟨h1, empty_noR (by intro e; rw [e] at hh; cases hh), ?_⟩
    rw [hh]
    by_cases hc : s[0]'h1 = a
    · rw [hc]; simp
    · rw [decide_eq_false (fun e => hc (by injection e)), beq_eq_false_iff_ne]
      intro h; exact hc (UInt8.toNat.inj (by omega))
set_option maxHeartbeats 2000000 in
set_option maxRecDepth 100000 in
theorem saysR_secure (g : Nat) (t : CkT) (n v : ByteArray) (hn : n.size ≤ 16777216) (w : World) (hg : Blk w g 24 (rowC t)) (hL : lower n.data.toList = [115, 101, 99, 117, 114, 101]) :
    Calls Tryz.prog 31 #[.pointer (some ⟨g, 0, none⟩), .string n, .string v] w (SaysT g { t with secure := true } w) := by
  have H0 := hid (fun w => lowerR_to n hn w ⟨#[115, 101, 99, 117, 114, 101]⟩ hL)
  have Hg := hid hg
  clear hg
  go_enter Tryz.func31, Tryz.ntmps31
  go_wp2_with fail
  refine (H0.out _).mono ?_
  rintro e w1 ⟨rfl, hb1⟩
  have Hg1 := hid (Hg.out.keep hb1)
  have Hr1 := hid (grown_below hb1 (some g))
  clear hb1
  have c8 : w1.cell? ⟨g, 8, none⟩ = some (.bool t.secure) := Hg1.out.cell rfl
  have f8 := Hg1.out.free 8
  go_wp2
  go_end0
  exact ⟨rfl, (Hg1.out.put 8 _).eq rfl, grown_set Hr1.out _ _⟩
set_option maxHeartbeats 2000000 in
set_option maxRecDepth 100000 in
theorem saysR_hidden (g : Nat) (t : CkT) (n v : ByteArray) (hn : n.size ≤ 16777216) (w : World) (hg : Blk w g 24 (rowC t)) (hL : lower n.data.toList = [104, 116, 116, 112, 111, 110, 108, 121]) :
    Calls Tryz.prog 31 #[.pointer (some ⟨g, 0, none⟩), .string n, .string v] w (SaysT g { t with hidden := true } w) := by
  have H0 := hid (fun w => lowerR_to n hn w ⟨#[104, 116, 116, 112, 111, 110, 108, 121]⟩ hL)
  have Hg := hid hg
  clear hg
  go_enter Tryz.func31, Tryz.ntmps31
  go_wp2_with fail
  refine (H0.out _).mono ?_
  rintro e w1 ⟨rfl, hb1⟩
  have Hg1 := hid (Hg.out.keep hb1)
  have Hr1 := hid (grown_below hb1 (some g))
  clear hb1
  have c9 : w1.cell? ⟨g, 9, none⟩ = some (.bool t.hidden) := Hg1.out.cell rfl
  have f9 := Hg1.out.free 9
  go_wp2
  go_end0
  exact ⟨rfl, (Hg1.out.put 9 _).eq rfl, grown_set Hr1.out _ _⟩
set_option maxHeartbeats 2000000 in
set_option maxRecDepth 100000 in
theorem saysR_expires (g : Nat) (t : CkT) (n v : ByteArray) (hn : n.size ≤ 16777216) (hv : v.size ≤ 16777216) (w : World) (hg : Blk w g 24 (rowC t)) (hL : lower n.data.toList = [101, 120, 112, 105, 114, 101, 115]) :
    Calls Tryz.prog 31 #[.pointer (some ⟨g, 0, none⟩), .string n, .string v] w (SaysT g (expT t (dateO v.data.toList)) w) := by
  have H0 := hid (fun w => lowerR_to n hn w ⟨#[101, 120, 112, 105, 114, 101, 115]⟩ hL)
  have Hg := hid hg
  clear hg
  have H1 := fun W x y h => cookieRO v hv W x y h
  cases hd : dateO v.data.toList with
  | none =>
    have H := hid (fun W => H1 W 0 false (by rw [hd]))
    clear H1 hd
    go_enter Tryz.func31, Tryz.ntmps31
    go_wp2_with fail
    refine (H0.out _).mono ?_
    rintro e w1 ⟨rfl, hb1⟩
    have Hg1 := hid (Hg.out.keep hb1)
    have Hr1 := hid (grown_below hb1 (some g))
    clear hb1
    go_wp2_with fail
    refine (H.out _).mono ?_
    rintro e w2 ⟨rfl, hb2⟩
    have Hg2 := hid (Hg1.out.keep hb2)
    have Hr2 := hid (grown_more Hr1.out hb2)
    clear hb2
    go_wp2
    go_end0
    exact ⟨rfl, Hg2.out, Hr2.out⟩
  | some x =>
    have H := hid (fun W => H1 W x true (by rw [hd]))
    clear H1 hd
    go_enter Tryz.func31, Tryz.ntmps31
    go_wp2_with fail
    refine (H0.out _).mono ?_
    rintro e w1 ⟨rfl, hb1⟩
    have Hg1 := hid (Hg.out.keep hb1)
    have Hr1 := hid (grown_below hb1 (some g))
    clear hb1
    go_wp2_with fail
    refine (H.out _).mono ?_
    rintro e w2 ⟨rfl, hb2⟩
    have Hg2 := hid (Hg1.out.keep hb2)
    have Hr2 := hid (grown_more Hr1.out hb2)
    clear hb2
    have c4 : w2.cell? ⟨g, 4, none⟩ = some (.int .i64 t.exp) := Hg2.out.cell rfl
    have f4 := Hg2.out.free 4
    have c5 : w2.cell? ⟨g, 5, none⟩ = some (.bool t.hasExp) := Hg2.out.cell rfl
    have f5 := Hg2.out.free 5
    go_wp2
    go_end0
    exact ⟨rfl, ((Hg2.out.put 4 _).put 5 _).eq rfl, grown_set (grown_set Hr2.out _ _) _ _⟩
set_option maxHeartbeats 2000000 in
set_option maxRecDepth 100000 in
theorem saysR_age (g : Nat) (t : CkT) (n v : ByteArray) (hn : n.size ≤ 16777216) (hv : v.size ≤ 16777216) (w : World) (hg : Blk w g 24 (rowC t)) (hL : lower n.data.toList = [109, 97, 120, 45, 97, 103, 101]) :
    Calls Tryz.prog 31 #[.pointer (some ⟨g, 0, none⟩), .string n, .string v] w (SaysT g (ageT t (ageO v.data.toList)) w) := by
  have H0 := hid (fun w => lowerR_to n hn w ⟨#[109, 97, 120, 45, 97, 103, 101]⟩ hL)
  have Hg := hid hg
  clear hg
  have H1 := fun W x y h => ageR_any v hv W x y h
  cases hd : ageO v.data.toList with
  | none =>
    have H := hid (fun W => H1 W 0 false (by rw [hd]; rfl))
    clear H1 hd
    go_enter Tryz.func31, Tryz.ntmps31
    go_wp2_with fail
    refine (H0.out _).mono ?_
    rintro e w1 ⟨rfl, hb1⟩
    have Hg1 := hid (Hg.out.keep hb1)
    have Hr1 := hid (grown_below hb1 (some g))
    clear hb1
    go_wp2_with (go_at_call 51; refine (H.out _).mono ?_; rintro e w2 ⟨rfl, rfl⟩)
    go_end0
    exact ⟨rfl, Hg1.out, Hr1.out⟩
  | some x =>
    have H := hid (fun W => H1 W x true (by rw [hd]; rfl))
    clear H1 hd
    go_enter Tryz.func31, Tryz.ntmps31
    go_wp2_with fail
    refine (H0.out _).mono ?_
    rintro e w1 ⟨rfl, hb1⟩
    have Hg1 := hid (Hg.out.keep hb1)
    have Hr1 := hid (grown_below hb1 (some g))
    clear hb1
    have c6 : w1.cell? ⟨g, 6, none⟩ = some (.int .i64 t.age) := Hg1.out.cell rfl
    have f6 := Hg1.out.free 6
    have c7 : w1.cell? ⟨g, 7, none⟩ = some (.bool t.hasAge) := Hg1.out.cell rfl
    have f7 := Hg1.out.free 7
    go_wp2_with (go_at_call 51; refine (H.out _).mono ?_; rintro e w2 ⟨rfl, rfl⟩)
    go_end0
    exact ⟨rfl, ((Hg1.out.put 6 _).put 7 _).eq rfl, grown_set (grown_set Hr1.out _ _) _ _⟩
set_option maxHeartbeats 2000000 in
set_option maxRecDepth 100000 in
theorem saysR_domain (g : Nat) (t : CkT) (n v : ByteArray) (hn : n.size ≤ 16777216) (hv : v.size ≤ 16777216) (w : World) (hg : Blk w g 24 (rowC t)) (hL : lower n.data.toList = [100, 111, 109, 97, 105, 110]) :
    Calls Tryz.prog 31 #[.pointer (some ⟨g, 0, none⟩), .string n, .string v] w (SaysT g { t with domain := lower (offH 46 v.data.toList) } w) := by
  have H0 := hid (fun w => lowerR_to n hn w ⟨#[100, 111, 109, 97, 105, 110]⟩ hL)
  have Hg := hid hg
  clear hg
  obtain ⟨T, hT⟩ : ∃ T : ByteArray, offH 46 v.data.toList = T.data.toList := ⟨tx _, (tx_list _).symm⟩
  have hTs : T.size ≤ 16777216 := by have := offH_len 46 v.data.toList; rw [hT, ← Lib.size_eq, ← Lib.size_eq] at this; omega
  obtain ⟨D, hD⟩ : ∃ D : ByteArray, lower T.data.toList = D.data.toList := ⟨tx _, (tx_list _).symm⟩
  have H2 := hid (fun w => lowerR_to T hTs w D hD)
  have hDD := hid (show D = tx (lower (offH 46 v.data.toList)) by rw [hT, hD, tx_of])
  rcases head_ways v 46 46 rfl with rfl | ⟨h0, hemp, hc⟩
  · obtain rfl : T = ⟨#[]⟩ := by have : T.data.toList = [] := hT.symm; cases T; simp at this; rw [this]
    clear hT hTs hD
    go_enter Tryz.func31, Tryz.ntmps31
    go_wp2_with fail
    refine (H0.out _).mono ?_
    rintro e w1 ⟨rfl, hb1⟩
    have Hg1 := hid (Hg.out.keep hb1)
    have Hr1 := hid (grown_below hb1 (some g))
    clear hb1
    go_wp2_with fail
    refine (H2.out _).mono ?_
    rintro e w2 ⟨rfl, hb2⟩
    have Hg2 := hid (Hg1.out.keep hb2)
    have Hr2 := hid (grown_more Hr1.out hb2)
    clear hb2
    have c2 : w2.cell? ⟨g, 2, none⟩ = some (.string (tx t.domain)) := Hg2.out.cell rfl
    have f2 := Hg2.out.free 2
    go_wp2
    go_end0
    exact ⟨rfl, (Hg2.out.put 2 _).eq (by show _ = rowC { t with domain := lower (offH 46 (⟨#[]⟩ : ByteArray).data.toList) }; unfold rowC; rw [← hDD.out]; rfl), grown_set Hr2.out _ _⟩
  · by_cases hh : v.data.toList.head? = some 46
    · have hTe := hid (show v.extract 1 v.size = T from by
        have h2 := (head_ext v h0).2
        unfold offH at hT; rw [if_pos hh] at hT
        rw [← tx_of (v.extract 1 v.size), h2, hT, tx_of])
      rw [decide_eq_true hh] at hc
      have h1 : 1 ≤ v.size := h0
      clear hT hTs hD hh
      go_enter Tryz.func31, Tryz.ntmps31
      go_wp2_with fail
      refine (H0.out _).mono ?_
      rintro e w1 ⟨rfl, hb1⟩
      have Hg1 := hid (Hg.out.keep hb1)
      have Hr1 := hid (grown_below hb1 (some g))
      clear hb1
      go_wp2_with fail
      rw [hTe.out]
      refine (H2.out _).mono ?_
      rintro e w2 ⟨rfl, hb2⟩
      have Hg2 := hid (Hg1.out.keep hb2)
      have Hr2 := hid (grown_more Hr1.out hb2)
      clear hb2
      have c2 : w2.cell? ⟨g, 2, none⟩ = some (.string (tx t.domain)) := Hg2.out.cell rfl
      have f2 := Hg2.out.free 2
      go_wp2
      go_end0
      exact ⟨rfl, (Hg2.out.put 2 _).eq (by show _ = rowC { t with domain := lower (offH 46 v.data.toList) }; unfold rowC; rw [← hDD.out]; rfl), grown_set Hr2.out _ _⟩
    · obtain rfl : T = v := by rw [offH_no hh] at hT; rw [← tx_of T, ← hT, tx_of]
      rw [decide_eq_false hh] at hc
      clear hT hTs hD hh
      go_enter Tryz.func31, Tryz.ntmps31
      go_wp2_with fail
      refine (H0.out _).mono ?_
      rintro e w1 ⟨rfl, hb1⟩
      have Hg1 := hid (Hg.out.keep hb1)
      have Hr1 := hid (grown_below hb1 (some g))
      clear hb1
      go_wp2_with fail
      refine (H2.out _).mono ?_
      rintro e w2 ⟨rfl, hb2⟩
      have Hg2 := hid (Hg1.out.keep hb2)
      have Hr2 := hid (grown_more Hr1.out hb2)
      clear hb2
      have c2 : w2.cell? ⟨g, 2, none⟩ = some (.string (tx t.domain)) := Hg2.out.cell rfl
      have f2 := Hg2.out.free 2
      go_wp2
      go_end0
      exact ⟨rfl, (Hg2.out.put 2 _).eq (by show _ = rowC { t with domain := lower (offH 46 T.data.toList) }; unfold rowC; rw [← hDD.out]; rfl), grown_set Hr2.out _ _⟩
set_option maxHeartbeats 2000000 in
set_option maxRecDepth 100000 in
theorem saysR_path (g : Nat) (t : CkT) (n v : ByteArray) (hn : n.size ≤ 16777216) (w : World) (hg : Blk w g 24 (rowC t)) (hL : lower n.data.toList = [112, 97, 116, 104]) :
    Calls Tryz.prog 31 #[.pointer (some ⟨g, 0, none⟩), .string n, .string v] w (SaysT g { t with path := pathO v.data.toList } w) := by
  have H0 := hid (fun w => lowerR_to n hn w ⟨#[112, 97, 116, 104]⟩ hL)
  have Hg := hid hg
  clear hg
  rcases head_ways v 47 47 rfl with rfl | ⟨h0, hemp, hc⟩
  · have hp := hid (show (⟨#[]⟩ : ByteArray) = tx (pathO (⟨#[]⟩ : ByteArray).data.toList) from rfl)
    go_enter Tryz.func31, Tryz.ntmps31
    go_wp2_with fail
    refine (H0.out _).mono ?_
    rintro e w1 ⟨rfl, hb1⟩
    have Hg1 := hid (Hg.out.keep hb1)
    have Hr1 := hid (grown_below hb1 (some g))
    clear hb1
    have c3 : w1.cell? ⟨g, 3, none⟩ = some (.string (tx t.path)) := Hg1.out.cell rfl
    have f3 := Hg1.out.free 3
    go_wp2
    go_end0
    exact ⟨rfl, (Hg1.out.put 3 _).eq (by show _ = rowC { t with path := pathO (⟨#[]⟩ : ByteArray).data.toList }; unfold rowC; rw [← hp.out]; rfl), grown_set Hr1.out _ _⟩
  · by_cases hh : v.data.toList.head? = some 47
    · have hp := hid (show v = tx (pathO v.data.toList) by unfold pathO; rw [if_pos hh, tx_of])
      rw [decide_eq_true hh] at hc
      clear hh
      go_enter Tryz.func31, Tryz.ntmps31
      go_wp2_with fail
      refine (H0.out _).mono ?_
      rintro e w1 ⟨rfl, hb1⟩
      have Hg1 := hid (Hg.out.keep hb1)
      have Hr1 := hid (grown_below hb1 (some g))
      clear hb1
      have c3 : w1.cell? ⟨g, 3, none⟩ = some (.string (tx t.path)) := Hg1.out.cell rfl
      have f3 := Hg1.out.free 3
      go_wp2
      go_end0
      exact ⟨rfl, ((Hg1.out.put 3 _).put 3 _).eq (by show _ = rowC { t with path := pathO v.data.toList }; unfold rowC; rw [← hp.out]; rfl), grown_set (grown_set Hr1.out _ _) _ _⟩
    · have hp := hid (show (⟨#[]⟩ : ByteArray) = tx (pathO v.data.toList) by unfold pathO; rw [if_neg hh]; rfl)
      rw [decide_eq_false hh] at hc
      clear hh
      go_enter Tryz.func31, Tryz.ntmps31
      go_wp2_with fail
      refine (H0.out _).mono ?_
      rintro e w1 ⟨rfl, hb1⟩
      have Hg1 := hid (Hg.out.keep hb1)
      have Hr1 := hid (grown_below hb1 (some g))
      clear hb1
      have c3 : w1.cell? ⟨g, 3, none⟩ = some (.string (tx t.path)) := Hg1.out.cell rfl
      have f3 := Hg1.out.free 3
      go_wp2
      go_end0
      exact ⟨rfl, (Hg1.out.put 3 _).eq (by show _ = rowC { t with path := pathO v.data.toList }; unfold rowC; rw [← hp.out]; rfl), grown_set Hr1.out _ _⟩
set_option maxHeartbeats 2000000 in
set_option maxRecDepth 100000 in
theorem saysR_site (g : Nat) (t : CkT) (n v : ByteArray) (hn : n.size ≤ 16777216) (hv : v.size ≤ 16777216) (w : World) (hg : Blk w g 24 (rowC t)) (hL : lower n.data.toList = [115, 97, 109, 101, 115, 105, 116, 101]) :
    Calls Tryz.prog 31 #[.pointer (some ⟨g, 0, none⟩), .string n, .string v] w (SaysT g { t with site := siteO v.data.toList } w) := by
  have H0 := hid (fun w => lowerR_to n hn w ⟨#[115, 97, 109, 101, 115, 105, 116, 101]⟩ hL)
  have Hg := hid hg
  clear hg
  obtain ⟨D, hD⟩ : ∃ D : ByteArray, lower v.data.toList = D.data.toList := ⟨tx _, (tx_list _).symm⟩
  have H2 := hid (fun w => lowerR_to v hv w D hD)
  by_cases h1 : D.data.toList = [115, 116, 114, 105, 99, 116]
  · obtain rfl := str_is h1
    have hS := hid (show siteO v.data.toList = 1 by unfold siteO; rw [hD]; rfl)
    clear hD h1
    go_enter Tryz.func31, Tryz.ntmps31
    go_wp2_with fail
    refine (H0.out _).mono ?_
    rintro e w1 ⟨rfl, hb1⟩
    have Hg1 := hid (Hg.out.keep hb1)
    have Hr1 := hid (grown_below hb1 (some g))
    clear hb1
    have c10 : w1.cell? ⟨g, 10, none⟩ = some (.int .u8 (t.site : Nat)) := Hg1.out.cell rfl
    have f10 := Hg1.out.free 10
    go_wp2_with fail
    refine (H2.out _).mono ?_
    rintro e w2 ⟨rfl, hb2⟩
    have Hg2 := hid ((Hg1.out.put 10 (.int .u8 0)).keep hb2)
    have Hr2 := hid (grown_more (grown_set Hr1.out 10 (.int .u8 0)) hb2)
    have c10' : w2.cell? ⟨g, 10, none⟩ = some (.int .u8 0) := Hg2.out.cell rfl
    have f10' := Hg2.out.free 10
    clear hb2 c10 f10
    go_wp2
    go_end0
    exact ⟨rfl, (Hg2.out.put 10 _).eq (by show _ = rowC { t with site := siteO v.data.toList }; unfold rowC; rw [hS.out]; rfl), grown_set Hr2.out _ _⟩
  · by_cases h2 : D.data.toList = [108, 97, 120]
    · obtain rfl := str_is h2
      have hS := hid (show siteO v.data.toList = 2 by unfold siteO; rw [hD]; rfl)
      clear hD h1 h2
      go_enter Tryz.func31, Tryz.ntmps31
      go_wp2_with fail
      refine (H0.out _).mono ?_
      rintro e w1 ⟨rfl, hb1⟩
      have Hg1 := hid (Hg.out.keep hb1)
      have Hr1 := hid (grown_below hb1 (some g))
      clear hb1
      have c10 : w1.cell? ⟨g, 10, none⟩ = some (.int .u8 (t.site : Nat)) := Hg1.out.cell rfl
      have f10 := Hg1.out.free 10
      go_wp2_with fail
      refine (H2.out _).mono ?_
      rintro e w2 ⟨rfl, hb2⟩
      have Hg2 := hid ((Hg1.out.put 10 (.int .u8 0)).keep hb2)
      have Hr2 := hid (grown_more (grown_set Hr1.out 10 (.int .u8 0)) hb2)
      have c10' : w2.cell? ⟨g, 10, none⟩ = some (.int .u8 0) := Hg2.out.cell rfl
      have f10' := Hg2.out.free 10
      clear hb2 c10 f10
      go_wp2
      go_end0
      exact ⟨rfl, (Hg2.out.put 10 _).eq (by show _ = rowC { t with site := siteO v.data.toList }; unfold rowC; rw [hS.out]; rfl), grown_set Hr2.out _ _⟩
    · by_cases h3 : D.data.toList = [110, 111, 110, 101]
      · obtain rfl := str_is h3
        have hS := hid (show siteO v.data.toList = 3 by unfold siteO; rw [hD]; rfl)
        clear hD h1 h2 h3
        go_enter Tryz.func31, Tryz.ntmps31
        go_wp2_with fail
        refine (H0.out _).mono ?_
        rintro e w1 ⟨rfl, hb1⟩
        have Hg1 := hid (Hg.out.keep hb1)
        have Hr1 := hid (grown_below hb1 (some g))
        clear hb1
        have c10 : w1.cell? ⟨g, 10, none⟩ = some (.int .u8 (t.site : Nat)) := Hg1.out.cell rfl
        have f10 := Hg1.out.free 10
        go_wp2_with fail
        refine (H2.out _).mono ?_
        rintro e w2 ⟨rfl, hb2⟩
        have Hg2 := hid ((Hg1.out.put 10 (.int .u8 0)).keep hb2)
        have Hr2 := hid (grown_more (grown_set Hr1.out 10 (.int .u8 0)) hb2)
        have c10' : w2.cell? ⟨g, 10, none⟩ = some (.int .u8 0) := Hg2.out.cell rfl
        have f10' := Hg2.out.free 10
        clear hb2 c10 f10
        go_wp2
        go_end0
        exact ⟨rfl, (Hg2.out.put 10 _).eq (by show _ = rowC { t with site := siteO v.data.toList }; unfold rowC; rw [hS.out]; rfl), grown_set Hr2.out _ _⟩
      · have q1 := str_no h1
        have q2 := str_no h2
        have q3 := str_no h3
        have hS := hid (show siteO v.data.toList = 0 by unfold siteO; rw [hD]; rw [if_neg h1, if_neg h2, if_neg h3])
        clear hD h1 h2 h3
        go_enter Tryz.func31, Tryz.ntmps31
        go_wp2_with fail
        refine (H0.out _).mono ?_
        rintro e w1 ⟨rfl, hb1⟩
        have Hg1 := hid (Hg.out.keep hb1)
        have Hr1 := hid (grown_below hb1 (some g))
        clear hb1
        have c10 : w1.cell? ⟨g, 10, none⟩ = some (.int .u8 (t.site : Nat)) := Hg1.out.cell rfl
        have f10 := Hg1.out.free 10
        go_wp2_with fail
        refine (H2.out _).mono ?_
        rintro e w2 ⟨rfl, hb2⟩
        have Hg2 := hid ((Hg1.out.put 10 (.int .u8 0)).keep hb2)
        have Hr2 := hid (grown_more (grown_set Hr1.out 10 (.int .u8 0)) hb2)
        have c10' : w2.cell? ⟨g, 10, none⟩ = some (.int .u8 0) := Hg2.out.cell rfl
        have f10' := Hg2.out.free 10
        clear hb2 c10 f10
        go_wp2
        go_end0
        exact ⟨rfl, Hg2.out.eq (by show _ = rowC { t with site := siteO v.data.toList }; unfold rowC; rw [hS.out]; rfl), Hr2.out⟩
set_option maxHeartbeats 2000000 in
set_option maxRecDepth 100000 in
theorem saysR_none (g : Nat) (t : CkT) (n v : ByteArray) (hn : n.size ≤ 16777216) (w : World) (hg : Blk w g 24 (rowC t)) (D : ByteArray) (hL : lower n.data.toList = D.data.toList) (hn7 : D.data.toList ∉ [expL, ageL, domL, pathL, secL, hidL, siteL]) :
    Calls Tryz.prog 31 #[.pointer (some ⟨g, 0, none⟩), .string n, .string v] w (SaysT g t w) := by
  simp only [List.mem_cons, List.mem_nil_iff, or_false, not_or] at hn7
  obtain ⟨h1, h2, h3, h4, h5, h6, h7⟩ := hn7
  have q1 : (D.toList == [101, 120, 112, 105, 114, 101, 115]) = false := str_no h1
  have q2 : (D.toList == [109, 97, 120, 45, 97, 103, 101]) = false := str_no h2
  have q3 : (D.toList == [100, 111, 109, 97, 105, 110]) = false := str_no h3
  have q4 : (D.toList == [112, 97, 116, 104]) = false := str_no h4
  have q5 : (D.toList == [115, 101, 99, 117, 114, 101]) = false := str_no h5
  have q6 : (D.toList == [104, 116, 116, 112, 111, 110, 108, 121]) = false := str_no h6
  have q7 : (D.toList == [115, 97, 109, 101, 115, 105, 116, 101]) = false := str_no h7
  have H0 := hid (fun w => lowerR_to n hn w D hL)
  have Hg := hid hg
  clear hg h1 h2 h3 h4 h5 h6 h7
  go_enter Tryz.func31, Tryz.ntmps31
  go_wp2_with fail
  refine (H0.out _).mono ?_
  rintro e w1 ⟨rfl, hb1⟩
  have Hg1 := hid (Hg.out.keep hb1)
  have Hr1 := hid (grown_below hb1 (some g))
  clear hb1
  go_wp2
  go_end0
  exact ⟨rfl, Hg1.out, Hr1.out⟩
/-- Whatever the attribute. -/
theorem saysR_any (g : Nat) (t : CkT) (n v : ByteArray) (hn : n.size ≤ 16777216) (hv : v.size ≤ 16777216) (w : World) (hg : Blk w g 24 (rowC t)) : Calls Tryz.prog 31 #[.pointer (some ⟨g, 0, none⟩), .string n, .string v] w (SaysT g (attrC t (lower n.data.toList) v.data.toList) w) := by
  obtain ⟨D, hD⟩ : ∃ D : ByteArray, lower n.data.toList = D.data.toList := ⟨tx _, (tx_list _).symm⟩
  by_cases h7 : D.data.toList ∈ [expL, ageL, domL, pathL, secL, hidL, siteL]
  · simp only [List.mem_cons, List.mem_nil_iff, or_false] at h7
    rw [← hD] at h7
    rcases h7 with h | h | h | h | h | h | h
    · rw [h]; exact saysR_expires g t n v hn hv w hg h
    · rw [h]; exact saysR_age g t n v hn hv w hg h
    · rw [h]; exact saysR_domain g t n v hn hv w hg h
    · rw [h]; exact saysR_path g t n v hn w hg h
    · rw [h]; exact saysR_secure g t n v hn w hg h
    · rw [h]; exact saysR_hidden g t n v hn w hg h
    · rw [h]; exact saysR_site g t n v hn hv w hg h
  · rw [attrC_none (by rw [hD]; exact h7)]
    exact saysR_none g t n v hn w hg D hD h7
end Go.Proofs.YthfndlphhgchnaaGreatDoor
/- Walk: the reference's Parse (chapter 10). -/
namespace Go.Proofs.YthfndlphhgchnaaGreatDoor
open Go.RowKit Go.Lib Go.Proofs.Foot

theorem pairR_is (s : ByteArray) (hs : s.size ≤ 16777216) (w : World) (N V : ByteArray) (o : Bool) (hN : nameP s.data.toList = N.data.toList) (hV : valP s.data.toList = V.data.toList) (ho : hasE s.data.toList = o) :
    Calls Tryz.prog 30 #[.string s] w fun e w' => e = .returned (.tuple #[.string N, .string V, .bool o]) ∧ Below w.heap.size w w' := by
  have := pairR_any s hs w
  rw [hN, hV, ho, tx_of, tx_of] at this
  exact this
/-- What the loop over the parts keeps. -/
structure RHead (w : World) (gp gt : Nat) (L : List ByteArray) (t : CkT) (wr : World) : Prop where
  res : Blk wr w.heap.size 24 (rowC {})
  ck : Blk wr gt 24 (rowC t)
  tx : TextsAt wr gp 0 L
  below : Below w.heap.size w wr
  lt : w.heap.size < gt
  ne : gp ≠ gt
  gp : gp < wr.heap.size
theorem RHead.go {w wr w' : World} {gp gt : Nat} {L : List ByteArray} {t : CkT} (h : RHead w gp gt L t wr) (hb : Below wr.heap.size wr w') : RHead w gp gt L t w' :=
  ⟨h.res.keep hb, h.ck.keep hb, h.tx.below hb h.gp, below_chain h.below hb, h.lt, h.ne, Nat.lt_of_lt_of_le h.gp hb.size⟩
theorem RHead.says {w wr w' : World} {gp gt : Nat} {L : List ByteArray} {t t' : CkT} (h : RHead w gp gt L t wr) (hb : Blk w' gt 24 (rowC t')) (hg : wr.grownBy w' (some gt)) : RHead w gp gt L t' w' := by
  have lt := h.lt
  have hr := h.res.lt
  refine ⟨(hg.block _ hr (fun e => by injection e with e; omega)).trans h.res, hb, fun j x hj => ?_, h.below.trans ?_, lt, h.ne, Nat.lt_of_lt_of_le h.gp hg.size⟩
  · have := h.tx j x hj
    rw [World.cell?_of_block (a := ⟨gp, 0 + j, none⟩) (hg.block gp h.gp (fun e => h.ne (by injection e)))]
    exact this
  · exact ⟨hg.os, hg.tape, hg.output, hg.size, fun k hk => hg.block k (by omega) (fun e => by injection e with e; omega)⟩
theorem parseR_long (s : ByteArray) (hs : 65536 < s.size) (w : World) : Calls Tryz.prog 15 #[.string s] w (TellsR s.data.toList w) := by
  have hP := hid (parseC_long (l := s.data.toList) (by rw [← Lib.size_eq]; exact hs))
  have hgt : (s.size : Int) > 65536 := by omega
  go_enter Tryz.func15, Tryz.ntmps15
  go_wp2_with (refine wpList_store_row rfl 24 _ _ rfl w.heap.size (rowC {}) rfl rfl _ _ (heap_alloc_new w _) (infoTd _) rfl (rowC_one _) ?_)
  exact bodyPost_ret (v := .tuple #[.agg (rowC {}), .int .i64 3]) (results_row2 (p := 2) (u := 3) rfl _ _ w.heap.size _ (rowC {}) _ _ rfl (setRow_heap _ w.heap.size _ (rowC {}) _ _ (heap_alloc_new w _)) Tryz.underlying24 rfl (infoTd _)) rfl
    (TellsR.mk hP.out (below_setRow ((Below.refl _ _).alloc (Nat.le_refl _) _) (Nat.le_refl _) _))
set_option maxHeartbeats 4000000 in
set_option maxRecDepth 100000 in
theorem parseR_short (s : ByteArray) (hs : ¬ 65536 < s.size) (w : World) : Calls Tryz.prog 15 #[.string s] w (TellsR s.data.toList w) := by
  have hgt : ¬ ((s.size : Int) > 65536) := by omega
  have hsl : s.data.toList.length = s.size := (Lib.size_eq s).symm
  have Hsl := hid hsl
  have hnl := hid (show ¬ 65536 < s.data.toList.length by omega)
  have hr0 : Blk (w.alloc (.cells #[.string ⟨#[]⟩, .string ⟨#[]⟩, .string ⟨#[]⟩, .string ⟨#[]⟩, .int .i64 0, .bool false, .int .i64 0, .bool false, .bool false, .bool false, .int .u8 0] 24)) w.heap.size 24 (rowC {}) := heap_alloc_new w _
  have hfin : Below w.heap.size w (w.alloc (.cells #[.string ⟨#[]⟩, .string ⟨#[]⟩, .string ⟨#[]⟩, .string ⟨#[]⟩, .int .i64 0, .bool false, .int .i64 0, .bool false, .bool false, .bool false, .int .u8 0] 24)) := (Below.refl w.heap.size w).alloc (Nat.le_refl _) _
  have Hr0 := hid hr0
  have Hfin := hid hfin
  clear hsl hr0 hfin
  go_enter Tryz.func15, Tryz.ntmps15
  go_wp2
  generalize World.alloc w _ = w2 at *
  go_loop [4] (fun i => ∃ k : Nat, k ≤ s.size ∧ i = .int .i64 k ∧ Hid ((s.data.toList.take k).any badB = false)) (fun i => s.size - (RowKit.intOf i).toNat)
  case atStart => exact ⟨0, Nat.zero_le _, rfl, hid rfl⟩
  case round =>
    obtain ⟨k, hk, rfl, ht⟩ := hrel
    by_cases hlt : k < s.size
    · have hl : k < s.data.toList.length := by rw [Hsl.out]; exact hlt
      obtain ⟨x, hx⟩ : ∃ x : UInt8, s[k]'hlt = x := ⟨_, rfl⟩
      have hxl : s.data.toList[k]'hl = x := hx
      have hx256 : (x.toNat : Int) < 256 := by have := UInt8.toNat_lt x; omega
      have Hyes := hid (fun h : badB x = true => any_at hl (by rw [hxl]; exact h))
      have Hno := hid (fun h : badB x = false => any_take_snoc hl ht.out (by rw [hxl]; exact h))
      clear hxl hl
      by_cases hbad : (x.toNat < 32 ∧ x.toNat ≠ 9) ∨ x.toNat = 127
      · have hb : badB x = true := by
          rcases hbad with ⟨a, b⟩ | a
          · exact badB_one a b
          · exact badB_127 a
        have HP := hid (parseC_bad hnl.out (Hyes.out hb))
        have hR := Hr0.out
        have Hb := hid hbad
        clear hbad hb
        rcases Hb.out with ⟨a, b⟩ | a
        · have d1 : (x.toNat : Int) < 32 := by omega
          have d2 : ((x.toNat : Int) == 9) = false := by rw [beq_eq_false_iff_ne]; omega
          have d3 : ((x.toNat : Int) != 9) = true := by rw [bne, d2]; rfl
          have d4 : ((x.toNat : Int) == 127) = false := by rw [beq_eq_false_iff_ne]; omega
          clear a b
          go_wp2_with (refine wpList_store_row rfl 24 _ _ rfl w.heap.size (rowC {}) rfl rfl _ _ hR (infoTd _) rfl (rowC_one _) ?_)
          exact bodyPost_ret (v := .tuple #[.agg (rowC {}), .int .i64 4]) (results_row2 (p := 2) (u := 3) rfl _ _ w.heap.size _ (rowC {}) _ _ rfl (setRow_heap _ w.heap.size _ (rowC {}) _ _ Hr0.out) Tryz.underlying24 rfl (infoTd _)) rfl
            (TellsR.mk HP.out (below_setRow Hfin.out (Nat.le_refl _) _))
        · have d2 : ((x.toNat : Int) == 127) = true := by rw [beq_iff_eq]; omega
          clear a
          go_wp2_with (refine wpList_store_row rfl 24 _ _ rfl w.heap.size (rowC {}) rfl rfl _ _ hR (infoTd _) rfl (rowC_one _) ?_)
          exact bodyPost_ret (v := .tuple #[.agg (rowC {}), .int .i64 4]) (results_row2 (p := 2) (u := 3) rfl _ _ w.heap.size _ (rowC {}) _ _ rfl (setRow_heap _ w.heap.size _ (rowC {}) _ _ Hr0.out) Tryz.underlying24 rfl (infoTd _)) rfl
            (TellsR.mk HP.out (below_setRow Hfin.out (Nat.le_refl _) _))
      · have Hn := hid (Hno.out (badB_no (by omega)))
        have e127 : ((x.toNat : Int) == 127) = false := by rw [beq_eq_false_iff_ne]; omega
        by_cases h9 : x.toNat = 9
        · have d1 : (x.toNat : Int) < 32 := by omega
          have d2 : ((x.toNat : Int) == 9) = true := by rw [beq_iff_eq]; omega
          have d3 : ((x.toNat : Int) != 9) = false := by rw [bne, d2]; rfl
          clear hbad h9
          go_wp2
          go_round
          case rel => exact ⟨k + 1, by omega, by go_num, Hn⟩
          case measure => simp [RowKit.intOf]; omega
        · have d1 : ¬ (x.toNat : Int) < 32 := by omega
          clear hbad h9
          go_wp2
          go_round
          case rel => exact ⟨k + 1, by omega, by go_num, Hn⟩
          case measure => simp [RowKit.intOf]; omega
    · have hclean : s.data.toList.any badB = false := by
        have := ht.out
        rwa [List.take_of_length_le (by rw [Hsl.out]; omega)] at this
      have Hclean := hid hclean
      clear hclean ht
      go_wp2_with fail
      refine (partsR_any s w2 (by omega)).mono ?_
      rintro e w3 ⟨L, gp, cap, hL, hL1, hLz, hLn, rfl, hcap, hTx, hgp1, hgp2, hb3⟩
      obtain ⟨P, hP⟩ : ∃ P, L[0]? = some P := ⟨_, List.getElem?_eq_getElem (by omega)⟩
      have hparts : cutAt 59 s.data.toList = P.data.toList :: (L.map (·.data.toList)).drop 1 := by
        rw [← hL]
        cases L with
        | nil => cases hP
        | cons x r => simp at hP; subst hP; rfl
      have hmem : P.data.toList ∈ cutAt 59 s.data.toList := by rw [hparts]; simp
      have hpl := cutAt_size 59 _ _ hmem
      rw [← Lib.size_eq, ← Lib.size_eq] at hpl
      have Hall := hid (show ∀ (j : Nat) Q, L[j]? = some Q → Q.size ≤ 65536 from fun j Q hj => by
        have hm : Q.data.toList ∈ cutAt 59 s.data.toList := by rw [← hL]; exact List.mem_map_of_mem (List.mem_of_getElem? hj)
        have := cutAt_size 59 _ _ hm
        rw [← Lib.size_eq, ← Lib.size_eq] at this; omega)
      obtain ⟨N, hN⟩ : ∃ N : ByteArray, nameP P.data.toList = N.data.toList := ⟨tx _, (tx_list _).symm⟩
      obtain ⟨V, hV⟩ : ∃ V : ByteArray, valP P.data.toList = V.data.toList := ⟨tx _, (tx_list _).symm⟩
      obtain ⟨o, ho⟩ : ∃ o, hasE P.data.toList = o := ⟨_, rfl⟩
      obtain ⟨N0, hN0⟩ : ∃ N0 : ByteArray, N0 = if o = true then N else ⟨#[]⟩ := ⟨_, rfl⟩
      obtain ⟨V0, hV0⟩ : ∃ V0 : ByteArray, V0 = if o = true then V else N := ⟨_, rfl⟩
      have hNl := name_len P.data.toList
      have hVl := val_len P.data.toList
      rw [hN, ← Lib.size_eq, ← Lib.size_eq] at hNl
      rw [hV, ← Lib.size_eq, ← Lib.size_eq] at hVl
      have eN0 : name0 P.data.toList = N0.data.toList := by unfold name0; rw [ho, hN0]; split <;> simp [hN]
      have eV0 : value0 P.data.toList = V0.data.toList := by unfold value0; rw [ho, hV0]; split <;> simp [hV, hN]
      have hN0s : N0.size ≤ 65536 := by
        rw [hN0]; split
        · omega
        · exact Nat.zero_le _
      have hV0s : V0.size ≤ 65536 := by rw [hV0]; split <;> omega
      have hgo := parseC_go hnl.out Hclean.out hparts
      have hst : startC P.data.toList ((L.map (·.data.toList)).drop 1) = if 4096 < N0.size + V0.size then ({}, 3) else if N0.data.toList = [] ∧ V0.data.toList = [] then ({}, 4) else (moreC { name := N0.data.toList, value := V0.data.toList } ((L.map (·.data.toList)).drop 1), 0) := by
        unfold startC
        rw [eN0, eV0, ← Lib.size_eq, ← Lib.size_eq]
      have Hgo := hid (hgo.trans hst)
      have HPr := hid (fun W => pairR_is P (by omega) W N V o hN hV ho)
      have Hb3 := hid (below_chain Hfin.out hb3)
      have Hr3 := hid (Hr0.out.keep hb3)
      have hcell : w3.cell? ⟨gp, 0, none⟩ = some (.string P) := by have := hTx 0 P hP; simpa using this
      have HTx := hid hTx
      have HL := hid hL
      have hL1' : (0 : Int) < (L.length : Int) := by omega
      have hgpw : w.heap.size < gp := by have := Hr0.out.lt; omega
      have hLm : (L.length : Int) ≤ 9223372036854775807 := by omega
      clear hparts hmem hpl hN hV ho hgo hst eN0 eV0 hNl hVl hb3 hTx hL hP hLz hgp1 hlt hk
      go_wp2_with fail
      have hz4 : (w3.alloc (.cells #[.string ⟨#[]⟩, .string ⟨#[]⟩, .string ⟨#[]⟩, .string ⟨#[]⟩, .int .i64 0, .bool false, .int .i64 0, .bool false, .bool false, .bool false, .int .u8 0] 24)).heap.size = w3.heap.size + 1 := by simp
      have hck4 : Blk (w3.alloc (.cells #[.string ⟨#[]⟩, .string ⟨#[]⟩, .string ⟨#[]⟩, .string ⟨#[]⟩, .int .i64 0, .bool false, .int .i64 0, .bool false, .bool false, .bool false, .int .u8 0] 24)) w3.heap.size 24 (rowC {}) := heap_alloc_new w3 _
      have hb4 : Below w3.heap.size w3 (w3.alloc (.cells #[.string ⟨#[]⟩, .string ⟨#[]⟩, .string ⟨#[]⟩, .string ⟨#[]⟩, .int .i64 0, .bool false, .int .i64 0, .bool false, .bool false, .bool false, .int .u8 0] 24)) := (Below.refl _ _).alloc (Nat.le_refl _) _
      have R4 : RHead w gp w3.heap.size L {} (w3.alloc (.cells #[.string ⟨#[]⟩, .string ⟨#[]⟩, .string ⟨#[]⟩, .string ⟨#[]⟩, .int .i64 0, .bool false, .int .i64 0, .bool false, .bool false, .bool false, .int .u8 0] 24)) :=
        ⟨Hr3.out.keep hb4, hck4, HTx.out.below hb4 hgp2, below_chain Hb3.out hb4, Hr3.out.lt, by omega, by rw [hz4]; omega⟩
      have HR4 := hid R4
      clear hz4 hck4 hb4 R4 hcell
      generalize World.alloc w3 _ = w4 at *
      obtain ⟨gt, hgt2⟩ : ∃ gt, gt = w3.heap.size := ⟨_, rfl⟩
      rw [← hgt2] at HR4 ⊢
      clear hgt2 Hr3 Hb3 HTx hgp2
      refine (HPr.out _).mono ?_
      rintro e w5 ⟨rfl, hb5⟩
      have HR5 := hid (HR4.out.go hb5)
      clear hb5
      go_upto_if 52 with fail
      go_cut [7, 8] (fun va vb wx => va = .string N0 ∧ vb = .string V0 ∧ w5 = wx)
      case first =>
        have HN0 := hid hN0
        have HV0 := hid hV0
        clear hN0 hV0
        cases o with
        | true =>
          go_wp2
          go_meet
          exact ⟨by rw [HN0.out]; rfl, by rw [HV0.out]; rfl, rfl⟩
        | false =>
          go_wp2
          go_meet
          exact ⟨by rw [HN0.out]; rfl, by rw [HV0.out]; rfl, rfl⟩
      case rest =>
        obtain ⟨rfl, rfl, rfl⟩ := hcut
        clear hN0 hV0
        have hR5 := HR5.out.res
        by_cases hbig : 4096 < N0.size + V0.size
        · have hgt2 : (N0.size : Int) + (V0.size : Int) > 4096 := by omega
          have HP := hid (Hgo.out.trans (if_pos hbig))
          clear hbig
          go_wp2_with (refine wpList_store_row rfl 24 _ _ rfl w.heap.size (rowC {}) rfl rfl _ _ hR5 (infoTd _) rfl (rowC_one _) ?_)
          exact bodyPost_ret (v := .tuple #[.agg (rowC {}), .int .i64 3]) (results_row2 (p := 2) (u := 3) rfl _ _ w.heap.size _ (rowC {}) _ _ rfl (setRow_heap _ w.heap.size _ (rowC {}) _ _ HR5.out.res) Tryz.underlying24 rfl (infoTd _)) rfl
            (TellsR.mk HP.out (below_setRow HR5.out.below (Nat.le_refl _) _))
        · have hgt2 : ¬ ((N0.size : Int) + (V0.size : Int) > 4096) := by omega
          have Hgo2 := hid (Hgo.out.trans (if_neg hbig))
          clear hbig
          by_cases hemp : N0.data.toList = [] ∧ V0.data.toList = []
          · have HP := hid (Hgo2.out.trans (if_pos hemp))
            obtain ⟨e1, e2⟩ := hemp
            obtain rfl := empty_is e1
            obtain rfl := empty_is e2
            clear e1 e2
            go_wp2_with (refine wpList_store_row rfl 24 _ _ rfl w.heap.size (rowC {}) rfl rfl _ _ hR5 (infoTd _) rfl (rowC_one _) ?_)
            exact bodyPost_ret (v := .tuple #[.agg (rowC {}), .int .i64 4]) (results_row2 (p := 2) (u := 3) rfl _ _ w.heap.size _ (rowC {}) _ _ rfl (setRow_heap _ w.heap.size _ (rowC {}) _ _ HR5.out.res) Tryz.underlying24 rfl (infoTd _)) rfl
              (TellsR.mk HP.out (below_setRow HR5.out.below (Nat.le_refl _) _))
          · have HP := hid (Hgo2.out.trans (if_neg hemp))
            obtain ⟨C0, hC0⟩ : ∃ C0 : CkT, C0 = { name := N0.data.toList, value := V0.data.toList } := ⟨_, rfl⟩
            rw [← hC0] at HP
            obtain ⟨fin, hfin⟩ : ∃ fin, fin = moreC C0 ((L.map (·.data.toList)).drop 1) := ⟨_, rfl⟩
            rw [← hfin] at HP
            have Hfin2 := hid hfin.symm
            have hw : N0.toList.isEmpty = false ∨ (N0 = ⟨#[]⟩ ∧ V0.toList.isEmpty = false) := by
              by_cases h : N0.data.toList = []
              · exact .inr ⟨empty_is h, empty_no (fun e => hemp ⟨h, e⟩)⟩
              · exact .inl (empty_no h)
            have Hw := hid hw
            have HC0 := hid hC0
            clear hemp hC0 hfin hw hR5
            go_upto_region 16 with fail
            go_cut [66] (fun va wx => va = .bool false ∧ w5 = wx)
            case first =>
              rcases Hw.out with a | ⟨rfl, a⟩
              all_goals
                go_wp2
                go_meet
                exact ⟨rfl, rfl⟩
            case rest =>
              obtain ⟨rfl, rfl⟩ := hcut
              have c0 : w5.cell? ⟨gt, 0, none⟩ = some (.string ⟨#[]⟩) := HR5.out.ck.cell rfl
              have f0 := HR5.out.ck.free 0
              have c1 : w5.cell? ⟨gt, 1, none⟩ = some (.string ⟨#[]⟩) := HR5.out.ck.cell rfl
              have f1 := HR5.out.ck.free 1
              have HR6 := hid (HR5.out.says (t' := C0) (((HR5.out.ck.put 0 (.string N0)).put 1 (.string V0)).eq (by rw [HC0.out]; unfold rowC; rw [tx_of, tx_of]; rfl)) (grown_set (grown_set (grown_refl _ _) _ _) _ _))
              clear Hw HR5 HR4 Hgo Hgo2
              go_wp2
              clear c0 f0 c1 f1
              go_loopw [10] (fun iv wr => ∃ (k : Nat) (t : CkT), 1 ≤ k ∧ k ≤ L.length ∧ iv = .int .i64 k ∧ Hid (RHead w gp gt L t wr ∧ moreC t ((L.map (·.data.toList)).drop k) = fin)) (fun iv _ => L.length - (RowKit.intOf iv).toNat)
              case atStart => exact ⟨1, C0, Nat.le_refl _, hL1, rfl, hid ⟨HR6.out, Hfin2.out⟩⟩
              case round =>
                obtain ⟨k, t, hk1, hk, rfl, hh⟩ := hrel
                obtain ⟨rh, heq⟩ := hh.out
                have RH := hid rh
                have Heq := hid heq
                clear rh heq hh
                by_cases hlt : k < L.length
                · obtain ⟨Q, hQ⟩ : ∃ Q, L[k]? = some Q := ⟨_, List.getElem?_eq_getElem hlt⟩
                  have hQs := Hall.out k Q hQ
                  have hcell : wr.cell? ⟨gp, k, none⟩ = some (.string Q) := by have := RH.out.tx k Q hQ; rwa [Nat.zero_add] at this
                  have hd : (L.map (·.data.toList)).drop k = Q.data.toList :: (L.map (·.data.toList)).drop (k + 1) := by
                    have hlen : k < (L.map (·.data.toList)).length := by rw [List.length_map]; exact hlt
                    rw [List.drop_eq_getElem_cons hlen]
                    congr 1
                    have h1 : (L.map (·.data.toList))[k]? = some Q.data.toList := by rw [List.getElem?_map, hQ]; rfl
                    rw [List.getElem?_eq_getElem hlen] at h1
                    exact Option.some.inj h1
                  have hf := Heq.out
                  rw [hd, moreC_cons] at hf
                  obtain ⟨N, hN⟩ : ∃ N : ByteArray, nameP Q.data.toList = N.data.toList := ⟨tx _, (tx_list _).symm⟩
                  obtain ⟨V, hV⟩ : ∃ V : ByteArray, valP Q.data.toList = V.data.toList := ⟨tx _, (tx_list _).symm⟩
                  obtain ⟨o, ho⟩ : ∃ o, hasE Q.data.toList = o := ⟨_, rfl⟩
                  rw [hN, hV] at hf
                  have hNl := name_len Q.data.toList
                  have hVl := val_len Q.data.toList
                  rw [hN, ← Lib.size_eq, ← Lib.size_eq] at hNl
                  rw [hV, ← Lib.size_eq, ← Lib.size_eq] at hVl
                  have HPr := hid (fun W => pairR_is Q (by omega) W N V o hN hV ho)
                  have HSy := hid (fun W (h : Blk W gt 24 (rowC t)) => saysR_any gt t N V (by omega) (by omega) W h)
                  have Hf := hid hf
                  have hki : (k : Int) < (L.length : Int) := by omega
                  clear hf hd hN hV ho hQ hNl hVl
                  go_wp2_with fail
                  refine (HPr.out _).mono ?_
                  rintro e wa ⟨rfl, hba⟩
                  have RHa := hid (RH.out.go hba)
                  clear hba hcell
                  by_cases hv : V.size ≤ 1024
                  · obtain ⟨t2, ht2⟩ : ∃ t2, t2 = applyC t N.data.toList V.data.toList := ⟨_, rfl⟩
                    have HK := HSy.out wa RHa.out.ck
                    rw [← apply_go (by rw [← Lib.size_eq]; exact hv), ← ht2] at HK
                    have HKK := hid HK
                    have Hf2 := hid (show moreC t2 ((L.map (·.data.toList)).drop (k + 1)) = fin by rw [ht2]; exact Hf.out)
                    clear ht2 HK
                    go_wp2_with fail
                    refine HKK.out.mono ?_
                    rintro e wd ⟨rfl, hblk, hgrow⟩
                    have RHd := hid (RHa.out.says hblk hgrow)
                    clear hblk hgrow
                    go_wp2
                    go_roundw
                    case rel => exact ⟨k + 1, t2, by omega, by omega, by go_num, hid ⟨RHd.out, Hf2.out⟩⟩
                    case measure => simp [RowKit.intOf]; omega
                  · have Ht := hid (show applyC t N.data.toList V.data.toList = t from if_neg (by rw [← Lib.size_eq]; exact hv))
                    go_wp2
                    go_roundw
                    case rel => exact ⟨k + 1, t, by omega, by omega, by go_num, hid ⟨RHa.out, by have := Hf.out; rw [Ht.out] at this; exact this⟩⟩
                    case measure => simp [RowKit.intOf]; omega
                · have hf := Heq.out
                  rw [List.drop_of_length_le (by rw [List.length_map]; omega), moreC_nil] at hf
                  subst hf
                  have hck := RH.out.ck
                  have hres := RH.out.res
                  go_wp2_with (first
                    | (refine wpList_load_row rfl 24 _ rfl gt rfl _ _ _ _ hck Tryz.underlying24 rfl (infoTd _) ?_)
                    | (refine wpList_store_row rfl 24 _ _ rfl w.heap.size (rowC t) rfl rfl _ _ hres (infoTd _) rfl (rowC_one _) ?_))
                  exact bodyPost_ret (v := .tuple #[.agg (rowC t), .int .i64 0]) (results_row2 (p := 2) (u := 3) rfl _ _ w.heap.size _ (rowC t) _ _ rfl (setRow_heap _ w.heap.size _ (rowC t) _ _ RH.out.res) Tryz.underlying24 rfl (infoTd _)) rfl
                    (TellsR.mk HP.out (below_setRow RH.out.below (Nat.le_refl _) _))
theorem parseR_any (s : ByteArray) (w : World) : Calls Tryz.prog 15 #[.string s] w (TellsR s.data.toList w) := by
  by_cases h : 65536 < s.size
  · exact parseR_long s h w
  · exact parseR_short s h w
end Go.Proofs.YthfndlphhgchnaaGreatDoor
