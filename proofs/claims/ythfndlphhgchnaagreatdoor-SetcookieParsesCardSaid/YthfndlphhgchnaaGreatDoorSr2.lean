/- Walks: the reference's pair and age (chapter 10). -/
import Derived.Test.YthfndlphhgchnaaGreatDoorTrimR
import Derived.Test.YthfndlphhgchnaaGreatDoorNumR
import Derived.Test.YthfndlphhgchnaaGreatDoorSc0
import Derived.Test.YthfndlphhgchnaaGreatDoorSpec10e
import Derived.Deep.Cut
import Derived.Deep.DeepCutAuto
import Derived.Deep.QuietTactic
import Derived.BigQuiet
import Derived.IntWalk
namespace Go.Proofs.YthfndlphhgchnaaGreatDoor
open Go.RowKit Go.Lib Go.Proofs.Foot

theorem trimQ (s : ByteArray) (w : World) (hs : s.size ≤ 16777216) :
    Calls Tryz.prog 48 #[.string s] w fun e w' => e = .returned (.string (tx (trim s.data.toList))) ∧ w' = w := by
  refine (trimR_any s w hs).mono ?_
  rintro e w' ⟨he, h⟩
  exact ⟨he, h.symm⟩
set_option maxHeartbeats 1000000 in
set_option maxRecDepth 100000 in
theorem pairR_any (s : ByteArray) (hs : s.size ≤ 16777216) (w : World) :
    Calls Tryz.prog 30 #[.string s] w fun e w' => e = .returned (.tuple #[.string (tx (nameP s.data.toList)), .string (tx (valP s.data.toList)), .bool (hasE s.data.toList)]) ∧ Below w.heap.size w w' := by
  have hsl : s.data.toList.length = s.size := (Lib.size_eq s).symm
  have Hsl := hid hsl
  have HQ := hid trimQ
  clear hsl
  go_enter Tryz.func30, Tryz.ntmps30
  go_wp2
  go_loop [5] (fun i => ∃ k : Nat, k ≤ s.size ∧ i = .int .i64 k ∧ Hid ((61 : UInt8) ∉ s.data.toList.take k)) (fun i => s.size - (RowKit.intOf i).toNat)
  case atStart => exact ⟨0, Nat.zero_le _, rfl, hid (by simp)⟩
  case round =>
    obtain ⟨k, hk, rfl, hfree⟩ := hrel
    by_cases hlt : k < s.size
    · obtain ⟨c, hc⟩ : ∃ c, s[k]'hlt = c := ⟨_, rfl⟩
      have hl : k < s.data.toList.length := by rw [Hsl.out]; exact hlt
      have hcl : s.data.toList[k]'hl = c := hc
      have hc256 : (c.toNat : Int) < 256 := by have := UInt8.toNat_lt c; omega
      by_cases h61 : c = 61
      · have i1 : ((c.toNat : Int) == 61) = true := by rw [h61]; rfl
        have hsplit : s.data.toList = s.data.toList.take k ++ 61 :: s.data.toList.drop (k + 1) := by
          have h1 : s.data.toList.drop k = s.data.toList[k] :: s.data.toList.drop (k + 1) := List.drop_eq_getElem_cons hl
          rw [hcl, h61] at h1
          rw [← h1, List.take_append_drop]
        obtain ⟨b1, b2, b3⟩ := befE_at hfree.out (s.data.toList.drop (k + 1))
        rw [← hsplit] at b1 b2 b3
        have hsl := Hsl.out
        have x1 : (s.extract 0 k).data.toList = s.data.toList.take k := by rw [extract_eq]; simp
        have x2 : (s.extract (k + 1) s.size).data.toList = s.data.toList.drop (k + 1) := by
          rw [extract_eq, List.take_of_length_le (by rw [List.length_drop]; omega)]
        have z1 : (s.extract 0 k).size ≤ 16777216 := by rw [Lib.size_eq, x1, List.length_take]; omega
        have z2 : (s.extract (k + 1) s.size).size ≤ 16777216 := by rw [Lib.size_eq, x2, List.length_drop]; omega
        have e1 := hid (show nameP s.data.toList = trim (s.extract 0 k).data.toList by rw [nameP, b1, x1])
        have e2 := hid (show valP s.data.toList = trim (s.extract (k + 1) s.size).data.toList by rw [valP, b2, x2])
        have e3 := hid b3
        have k1 : IntKind.i64.wrap ((k : Int) + 1) = (k : Int) + 1 := IntWalk.i64_in _ (by omega)
        have k2 : (0 : Int) ≤ (k : Int) + 1 := by omega
        have k3 : ((k : Int) + 1).toNat = k + 1 := by omega
        have k4 : (k : Int) + 1 ≤ (s.size : Int) := by omega
        have k5 : (k : Int) ≤ (s.size : Int) := by omega
        clear hcl hsplit b1 b2 b3 x1 x2 h61 hfree hsl
        go_wp2_with fail
        go_quiet ((go_at_call 48; exact Calls.quiet_of_same (HQ.out _ _ (by assumption))))
        clear k1 k3
        go_wp2
        go_ret3
        exact ⟨ret_val (by rw [e1.out, e2.out, e3.out]; rfl), below_drewN (Below.refl _ _) _⟩
      · have i1 : ((c.toNat : Int) == 61) = false := by
          rw [beq_eq_false_iff_ne]; intro h; exact h61 (UInt8.toNat.inj (by rw [show (61 : UInt8).toNat = 61 from rfl]; omega))
        have Hn : Hid ((61 : UInt8) ∉ s.data.toList.take (k + 1)) := hid (by
          rw [take_snoc' hl, hcl, List.mem_append]
          rintro (h | h)
          · exact hfree.out h
          · exact h61 (List.mem_singleton.1 h).symm)
        clear hcl h61 hfree
        go_wp2
        go_round
        case rel => exact ⟨k + 1, by omega, by go_num, Hn⟩
        case measure => simp [RowKit.intOf]; omega
    · have hf : (61 : UInt8) ∉ s.data.toList := by
        have := hfree.out
        rwa [List.take_of_length_le (by rw [Hsl.out]; omega)] at this
      obtain ⟨b1, b2, b3⟩ := befE_free hf
      have e1 := hid (show nameP s.data.toList = trim s.data.toList by rw [nameP, b1])
      have e2 := hid (show valP s.data.toList = [] by rw [valP, b2]; rfl)
      have e3 := hid b3
      have HT := hid (trimQ s w hs)
      clear hf b1 b2 b3 hfree
      go_wp2_with (go_at_call 48; refine HT.out.mono ?_; rintro e w1 ⟨rfl, rfl⟩)
      go_ret3
      exact ⟨ret_val (by rw [e1.out, e2.out, e3.out]; rfl), Below.refl _ _⟩
/-- An age's value. -/
def ageV (o : Option Int) : Int × Bool := match o with | some x => (x, true) | none => (0, false)
theorem min_snoc {l : List UInt8} {k : Nat} (h : k < l.length) : min maxN (digV 0 (l.take (k + 1))) = min maxN (10 * min maxN (digV 0 (l.take k)) + (l[k].toNat - 48)) := by
  rw [digV_snoc h]
  unfold maxN
  omega
theorem head_ext (s : ByteArray) (h : 0 < s.size) : s.data.toList.head? = some (s[0]'h) ∧ (s.extract 1 s.size).data.toList = s.data.toList.drop 1 := by
  have h1 := ext_tail s h
  refine ⟨by rw [h1]; rfl, ?_⟩
  rw [extract_eq, List.take_of_length_le (by rw [List.length_drop]; rw [← Lib.size_eq]; omega)]
theorem empty_noR {T : ByteArray} (h : T.data.toList ≠ []) : T.toList.isEmpty = false := by
  rw [← decide_eq_emptyBytes]
  exact decide_eq_false (fun e => h (by rw [e]; rfl))
set_option maxHeartbeats 2000000 in
set_option maxRecDepth 100000 in
theorem ageR_any (s : ByteArray) (hs : s.size ≤ 16777216) (w : World) (v : Int) (o : Bool) (ho : ageV (ageO s.data.toList) = (v, o)) :
    Calls Tryz.prog 51 #[.string s] w fun e w' => e = .returned (.tuple #[.int .i64 v, .bool o]) ∧ w = w' := by
  obtain ⟨q, hq⟩ : ∃ q, q = decide (s.data.toList.head? = some 45) := ⟨_, rfl⟩
  obtain ⟨T, hT⟩ : ∃ T : ByteArray, T = if q = true then s.extract 1 s.size else s := ⟨_, rfl⟩
  obtain ⟨sg, hsg⟩ : ∃ sg : Int, sg = if q = true then -1 else 1 := ⟨_, rfl⟩
  have hTl : T.data.toList = offH 45 s.data.toList := by
    rw [hT]
    cases q with
    | true =>
      rw [if_pos rfl]
      have hh := of_decide_eq_true hq.symm
      unfold offH
      rw [if_pos hh]
      have h0 : 0 < s.size := by
        rw [Lib.size_eq]
        cases hl : s.data.toList with
        | nil => rw [hl] at hh; cases hh
        | cons _ _ => simp
      exact (head_ext s h0).2
    | false =>
      rw [if_neg (by decide), offH_no (of_decide_eq_false hq.symm)]
  have hTs : T.size ≤ 16777216 := by have := offH_len 45 s.data.toList; rw [← hTl, ← Lib.size_eq, ← Lib.size_eq] at this; omega
  have Hno : Hid ((T.data.toList = [] ∨ ∃ c ∈ T.data.toList, digB c = false) → v = 0 ∧ o = false) := hid (fun h => by
    rw [ageO_no (by rw [← hTl]; exact h)] at ho
    have : ((0 : Int), false) = (v, o) := ho
    injection this with a b
    exact ⟨a.symm, b.symm⟩)
  have Hyes : Hid (T.data.toList ≠ [] → (∀ c ∈ T.data.toList, digB c = true) → v = (if q = true then -((min maxN (digV 0 T.data.toList) : Nat) : Int) else ((min maxN (digV 0 T.data.toList) : Nat) : Int)) ∧ o = true) := hid (fun h1 h2 => by
    rw [ageO_yes (by rw [← hTl]; exact h1) (by rw [← hTl]; exact h2) rfl] at ho
    have : ((if s.data.toList.head? = some 45 then -((min maxN (digV 0 (offH 45 s.data.toList)) : Nat) : Int) else ((min maxN (digV 0 (offH 45 s.data.toList)) : Nat) : Int)), true) = (v, o) := ho
    injection this with a b
    refine ⟨?_, b.symm⟩
    rw [← a, ← hTl, hq]
    by_cases hh : s.data.toList.head? = some 45
    · rw [if_pos hh, if_pos (by rw [decide_eq_true hh])]
    · rw [if_neg hh, if_neg (by rw [decide_eq_false hh]; decide)])
  have HTT := hid hT
  have Hq := hid hq
  have Hsg := hid hsg
  have htl : T.data.toList.length = T.size := (Lib.size_eq T).symm
  have Htl := hid htl
  clear hTl ho hT hsg htl hq
  go_enter Tryz.func51, Tryz.ntmps51
  go_upto_region 2 with fail
  go_cut [13] (fun va wx => va = .bool q ∧ w = wx)
  case first =>
    have hq := Hq.out
    by_cases h0 : s.size = 0
    · have hl0 : s.data.toList = [] := List.eq_nil_of_length_eq_zero (by rw [← Lib.size_eq]; exact h0)
      obtain rfl : s = ⟨#[]⟩ := by cases s; simp at hl0; rw [hl0]
      have hqq := hid (show q = false by rw [hq]; rfl)
      clear hq h0 hl0
      go_wp2
      go_meet
      exact ⟨by rw [hqq.out], rfl⟩
    · have h1 : 0 < s.size := by omega
      obtain ⟨c, hc⟩ : ∃ c, s[0]'h1 = c := ⟨_, rfl⟩
      have hh := (head_ext s h1).1
      rw [hc] at hh
      have hemp := empty_noR (T := s) (by intro e; rw [e] at hh; cases hh)
      have hc256 : (c.toNat : Int) < 256 := by have := UInt8.toNat_lt c; omega
      rw [hh] at hq
      by_cases h45 : c = 45
      · have i1 : ((c.toNat : Int) == 45) = true := by rw [h45]; rfl
        have hqq := hid (show q = true by rw [hq, h45]; rfl)
        clear hq hh h0 h45
        go_wp2
        go_meet
        exact ⟨by rw [hqq.out], rfl⟩
      · have i1 : ((c.toNat : Int) == 45) = false := by
          rw [beq_eq_false_iff_ne]; intro h; exact h45 (UInt8.toNat.inj (by rw [show (45 : UInt8).toNat = 45 from rfl]; omega))
        have hqq := hid (show q = false by rw [hq]; exact decide_eq_false (fun e => h45 (by injection e)))
        clear hq hh h0 h45
        go_wp2
        go_meet
        exact ⟨by rw [hqq.out], rfl⟩
  case rest =>
    obtain ⟨rfl, rfl⟩ := hcut
    go_upto_if 13 with fail
    go_cut [0, 4] (fun va vb wx => va = .string T ∧ vb = .int .i64 sg ∧ w = wx)
    case first =>
      have hT := HTT.out
      have hsg := Hsg.out
      cases q with
      | true =>
        have h1 : 1 ≤ s.size := by
          have hh := of_decide_eq_true Hq.out.symm
          rw [Lib.size_eq]
          cases hl : s.data.toList with
          | nil => rw [hl] at hh; cases hh
          | cons _ _ => simp
        rw [if_pos rfl] at hT hsg
        have HT2 := hid hT
        have HS2 := hid hsg
        clear hT hsg
        go_wp2
        go_meet
        exact ⟨by rw [HT2.out], by rw [HS2.out], rfl⟩
      | false =>
        rw [if_neg (by decide)] at hT hsg
        have HT2 := hid hT
        have HS2 := hid hsg
        clear hT hsg
        go_wp2
        go_meet
        exact ⟨by rw [HT2.out], by rw [HS2.out], rfl⟩
    case rest =>
      obtain ⟨rfl, rfl, rfl⟩ := hcut
      go_wp2
      go_loop [5, 6] (fun n i => ∃ k m : Nat, k ≤ T.size ∧ i = .int .i64 k ∧ n = .int .i64 m ∧ m ≤ 2147483647 ∧ Hid (m = min maxN (digV 0 (T.data.toList.take k)) ∧ ∀ c ∈ T.data.toList.take k, digB c = true)) (fun _ i => T.size - (RowKit.intOf i).toNat)
      case atStart => exact ⟨0, 0, Nat.zero_le _, rfl, rfl, Nat.zero_le _, hid ⟨rfl, by simp⟩⟩
      case round =>
        obtain ⟨k, m, hk, rfl, rfl, hm, hall⟩ := hrel
        by_cases hlt : k < T.size
        · obtain ⟨c, hc⟩ : ∃ c, T[k]'hlt = c := ⟨_, rfl⟩
          have hl : k < T.data.toList.length := by rw [Htl.out]; exact hlt
          have hcl : T.data.toList[k]'hl = c := hc
          have hc256 : (c.toNat : Int) < 256 := by have := UInt8.toNat_lt c; omega
          cases hdg : digB c with
          | true =>
            have h48 := (digB_iff _).1 hdg
            obtain ⟨c0, c1⟩ := h48
            have hsn := min_snoc hl
            rw [hcl, ← hall.out.1] at hsn
            obtain ⟨m2, hm2⟩ : ∃ m2 : Nat, m2 = min 2147483647 (10 * m + (c.toNat - 48)) := ⟨_, rfl⟩
            have Hall : Hid (m2 = min maxN (digV 0 (T.data.toList.take (k + 1))) ∧ ∀ d ∈ T.data.toList.take (k + 1), digB d = true) := by
              refine hid ⟨by rw [hsn, hm2]; rfl, fun d hd => ?_⟩
              rw [List.take_add_one, List.getElem?_eq_getElem hl, Option.toList_some, hcl] at hd
              rcases List.mem_append.1 hd with h | h
              · exact hall.out.2 d h
              · rw [List.mem_singleton.1 h]; exact hdg
            have hmm : min (2147483647 : Int) (10 * (m : Int) + ((c.toNat : Int) - 48)) = (m2 : Int) := by omega
            have hm2b : m2 ≤ 2147483647 := by omega
            have Hdg := hid hdg
            have Hm2 := hid hm2
            have Hmm := hid hmm
            clear hsn hcl hdg hall hl hm2 hmm
            go_wp2_with (go_at_call 76; refine (digit_is c true Hdg.out _).mono ?_; rintro e w1 ⟨rfl, rfl⟩)
            go_round
            case rel => exact ⟨k + 1, m2, by omega, by go_num, by first | rw [Hmm.out] | (have := Hmm.out; go_num), hm2b, Hall⟩
            case measure => simp [RowKit.intOf]; omega
          | false =>
            obtain ⟨rfl, rfl⟩ := Hno.out (.inr ⟨c, by rw [← hcl]; exact List.getElem_mem hl, hdg⟩)
            have Hdg := hid hdg
            clear hcl hdg hall hl
            go_wp2_with (go_at_call 76; refine (digit_is c false Hdg.out _).mono ?_; rintro e w1 ⟨rfl, rfl⟩)
            go_ret2
            exact ⟨rfl, rfl⟩
        · have hfull : T.data.toList.take k = T.data.toList := List.take_of_length_le (by rw [Htl.out]; omega)
          obtain ⟨hm1, hd⟩ := hall.out
          rw [hfull] at hm1 hd
          by_cases hne : T.data.toList = []
          · obtain ⟨rfl, rfl⟩ := Hno.out (.inl hne)
            have hm0 : m = 0 := by rw [hm1, hne]; rfl
            subst hm0
            have h0 : T = ⟨#[]⟩ := by cases T; simp at hne; rw [hne]
            have hs2 : sg = -1 ∨ sg = 1 := by rw [Hsg.out]; cases q <;> simp
            subst h0
            clear hm1 hd hfull hall hne
            rcases hs2 with rfl | rfl
            all_goals
              go_wp2
              go_ret2
              exact ⟨rfl, rfl⟩
          · obtain ⟨hv, rfl⟩ := Hyes.out hne hd
            rw [← hm1] at hv
            have hemp := empty_noR hne
            have hs2 : (q = true ∧ sg = -1) ∨ (q = false ∧ sg = 1) := by rw [Hsg.out]; cases q <;> simp
            clear hm1 hd hfull hall hne
            rcases hs2 with ⟨rfl, rfl⟩ | ⟨rfl, rfl⟩
            · rw [if_pos rfl] at hv
              have Hv := hid hv
              clear hv
              go_wp2
              go_ret2
              exact ⟨ret_val (by rw [Hv.out]; first | rfl | (simp)), rfl⟩
            · rw [if_neg (by decide)] at hv
              have Hv := hid hv
              clear hv
              go_wp2
              go_ret2
              exact ⟨ret_val (by rw [Hv.out]; first | rfl | (simp)), rfl⟩
end Go.Proofs.YthfndlphhgchnaaGreatDoor
