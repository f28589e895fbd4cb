/- Walk: the reference's Digit and Number. -/
import Derived.Test.YthfndlphhgchnaaGreatDoorNumV
import Derived.Test.YthfndlphhgchnaaGreatDoorSpec07b
import Derived.Test.YthfndlphhgchnaaGreatDoorLowR
import Derived.IntWalk
import Derived.Test.YthfndlphhgchnaaGreatDoorBlk
import Derived.Deep.DeepCutAuto
import Derived.Test.YthfndlphhgchnaaGreatDoorCk6
namespace Go.Proofs.YthfndlphhgchnaaGreatDoor
open Go.RowKit Go.Lib Go.Proofs.Foot

theorem digitN_any (c : UInt8) (w : World) :
    Calls Tryz.prog 76 #[.int .u8 c.toNat] w fun e w' => e = .returned (.bool (digB c)) ∧ w = w' := by
  go_enter Tryz.func76, Tryz.ntmps76
  go_wp2
  all_goals go_ret
  · refine ⟨ret_bool ?_, rfl⟩
    by_cases h : c.toNat ≤ 57
    · rw [digB_true (by omega)]; simp; omega
    · rw [digB_false (by omega)]; simp; omega
  · exact ⟨ret_bool (digB_false (by omega)).symm, rfl⟩
theorem digit_is (c : UInt8) (b : Bool) (h : digB c = b) (w : World) : Calls Tryz.prog 76 #[.int .u8 c.toNat] w fun e w' => e = .returned (.bool b) ∧ w = w' := by
  rw [← h]; exact digitN_any c w

set_option maxHeartbeats 1000000 in
set_option maxRecDepth 100000 in
theorem numberR_any (s : ByteArray) (most : Int) (w : World) (hs : s.size ≤ 16777216) :
    Calls Tryz.prog 123 #[.string s, .int .i64 most] w fun e w' => e = .returned (numV s.data.toList most) ∧ w = w' := by
  have hsl : s.data.toList.length = s.size := (Lib.size_eq s).symm
  by_cases h0 : s.size < 1
  · have H := hid (numV_no (l := s.data.toList) (most := most) (by
      rintro ⟨⟨⟨h, _⟩, _⟩, _⟩
      exact h (List.eq_nil_of_length_eq_zero (by omega))))
    clear hsl
    go_enter Tryz.func123, Tryz.ntmps123
    go_wp2
    go_ret2
    exact ⟨ret_val' H.out.symm, rfl⟩
  · by_cases h18 : s.size > 18
    · have H := hid (numV_no (l := s.data.toList) (most := most) (by rintro ⟨⟨⟨_, h⟩, _⟩, _⟩; omega))
      clear hsl
      go_enter Tryz.func123, Tryz.ntmps123
      go_wp2
      go_ret2
      exact ⟨ret_val' H.out.symm, rfl⟩
    · have hne : s.data.toList ≠ [] := fun e => by rw [e] at hsl; simp at hsl; omega
      have Hne := hid hne
      have Hsl := hid hsl
      clear hne hsl
      go_enter Tryz.func123, Tryz.ntmps123
      go_wp2
      go_loop [6, 7] (fun n i => ∃ k : Nat, k ≤ s.size ∧ i = .int .i64 k ∧ n = .int .i64 (digV 0 (s.data.toList.take k)) ∧ Hid (∀ c ∈ s.data.toList.take k, digB c = true)) (fun _ i => s.size - (RowKit.intOf i).toNat)
      case atStart => exact ⟨0, Nat.zero_le _, rfl, by rw [List.take_zero, digV_nil]; rfl, hid (by simp)⟩
      case round =>
        obtain ⟨k, hk, rfl, rfl, hall⟩ := hrel
        by_cases hlt : k < s.size
        · obtain ⟨c, hc⟩ : ∃ c, s[k]'hlt = c := ⟨_, rfl⟩
          have hl : k < s.data.toList.length := by rw [Hsl.out]; exact hlt
          have hcl : s.data.toList[k]'hl = c := hc
          have hsn := digV_snoc hl
          rw [hcl] at hsn
          have hv : digV 0 (s.data.toList.take k) < 100000000000000000 := by
            have h1 := digV_lt _ hall.out 0 1 (by decide)
            have h2 : (10 : Nat) ^ (s.data.toList.take k).length ≤ 10 ^ 17 := Nat.pow_le_pow_right (by decide) (by simp; omega)
            have e : (10 : Nat) ^ 17 = 100000000000000000 := rfl
            rw [e] at h2
            omega
          cases hdg : digB c with
          | true =>
            have h48 := (digB_iff _).1 hdg
            obtain ⟨c0, c1⟩ := h48
            have Hall : Hid (∀ d ∈ s.data.toList.take (k + 1), digB d = true) := by
              refine hid fun d hd => ?_
              rw [List.take_add_one, List.getElem?_eq_getElem hl, Option.toList_some, hcl] at hd
              rcases List.mem_append.1 hd with h | h
              · exact hall.out d h
              · rw [List.mem_singleton.1 h]; exact hdg
            have Hsn := hid hsn
            have Hdg := hid hdg
            obtain ⟨v, hvv⟩ : ∃ v, v = digV 0 (s.data.toList.take k) := ⟨_, rfl⟩
            rw [← hvv] at hv ⊢
            have Hvv := hid hvv
            clear hsn hcl hdg hall hvv hl
            go_wp2_with (go_at_call 76; refine (digit_is c true Hdg.out _).mono ?_; rintro e w1 ⟨rfl, rfl⟩)
            go_round
            case rel => exact ⟨k + 1, by omega, by go_num, by rw [Hsn.out, ← Hvv.out]; go_num, Hall⟩
            case measure => simp [RowKit.intOf]; omega
          | false =>
            have H := hid (numV_no (l := s.data.toList) (most := most) (by
              rintro ⟨⟨_, h⟩, _⟩
              have := h c (by rw [← hcl]; exact List.getElem_mem hl)
              rw [hdg] at this; cases this))
            have Hdg := hid hdg
            clear hsn hcl hdg hall hl hv
            go_wp2_with (go_at_call 76; refine (digit_is c false Hdg.out _).mono ?_; rintro e w1 ⟨rfl, rfl⟩)
            go_ret2
            exact ⟨ret_val' H.out.symm, rfl⟩
        · have e : s.data.toList.take k = s.data.toList := List.take_of_length_le (by rw [Hsl.out]; omega)
          rw [e] at hall ⊢
          clear e
          by_cases hm : (digV 0 s.data.toList : Int) ≤ most
          · have H := hid (numV_yes (most := most) Hne.out (by rw [Hsl.out]; omega) hall.out hm)
            obtain ⟨v, hv⟩ : ∃ v, v = digV 0 s.data.toList := ⟨_, rfl⟩
            rw [← hv] at hm H ⊢
            have hgt : ¬ ((v : Int) > most) := by omega
            clear hv hall
            go_wp2
            go_ret2
            exact ⟨ret_val' H.out.symm, rfl⟩
          · have H := hid (numV_no (l := s.data.toList) (most := most) (fun h => hm h.2))
            obtain ⟨v, hv⟩ : ∃ v, v = digV 0 s.data.toList := ⟨_, rfl⟩
            rw [← hv] at hm ⊢
            have hgt : (v : Int) > most := by omega
            clear hv hall hm
            go_wp2
            go_ret2
            exact ⟨ret_val' H.out.symm, rfl⟩
end Go.Proofs.YthfndlphhgchnaaGreatDoor
/- Walks: the reference's run and told. -/
namespace Go.Proofs.YthfndlphhgchnaaGreatDoor
open Go.RowKit Go.Lib Go.Proofs.Foot

theorem digsP_at {l : List UInt8} {k : Nat} (hk : k ≤ l.length) (hall : ∀ c ∈ l.take k, digB c = true) (hend : ∀ h : k < l.length, digB l[k] = false) : digsP l = l.take k := by
  have e := List.take_append_drop k l
  unfold digsP
  rw [← e, List.takeWhile_append_of_pos hall]
  have : (l.drop k).takeWhile digB = [] := by
    by_cases h : k < l.length
    · rw [List.drop_eq_getElem_cons h, List.takeWhile_cons_of_neg (by rw [hend h]; decide)]
    · rw [List.drop_eq_nil_of_le (by omega)]; rfl
  rw [this]; simp

set_option maxRecDepth 100000 in
theorem run_any (s : ByteArray) (w : World) (hs : s.size ≤ 16777216) :
    Calls Tryz.prog 122 #[.string s] w fun e w' => e = .returned (.int .i64 ((digsP s.data.toList).length : Nat)) ∧ w = w' := by
  have hsl : s.data.toList.length = s.size := (Lib.size_eq s).symm
  have Hsl := hid hsl
  clear hsl
  go_enter Tryz.func122, Tryz.ntmps122
  go_wp2
  go_loop [3] (fun n => ∃ k : Nat, k ≤ s.size ∧ n = .int .i64 k ∧ Hid (∀ c ∈ s.data.toList.take k, digB c = true)) (fun n => s.size - (RowKit.intOf n).toNat)
  case atStart => exact ⟨0, Nat.zero_le _, rfl, hid (by simp)⟩
  case round =>
    obtain ⟨k, hk, rfl, hall⟩ := hrel
    by_cases hlt : k < s.size
    · obtain ⟨c, hc⟩ : ∃ c, s[k]'hlt = c := ⟨_, rfl⟩
      have hl : k < s.data.toList.length := by rw [Hsl.out]; exact hlt
      have hcl : s.data.toList[k]'hl = c := hc
      cases hdg : digB c with
      | true =>
        have Hall : Hid (∀ d ∈ s.data.toList.take (k + 1), digB d = true) := by
          refine hid fun d hd => ?_
          rw [List.take_add_one, List.getElem?_eq_getElem hl, Option.toList_some, hcl] at hd
          rcases List.mem_append.1 hd with h | h
          · exact hall.out d h
          · rw [List.mem_singleton.1 h]; exact hdg
        have Hdg := hid hdg
        clear hcl hdg hall hl
        go_wp2_with (go_at_call 76; refine (digit_is c true Hdg.out _).mono ?_; rintro e w1 ⟨rfl, rfl⟩)
        go_round
        case rel => exact ⟨k + 1, by omega, by go_num, Hall⟩
        case measure => simp [RowKit.intOf]; omega
      | false =>
        have H := hid (digsP_at (Nat.le_of_lt hl) hall.out (fun h => by rw [show s.data.toList[k]'h = c from hc]; exact hdg))
        have hlen : ((s.data.toList.take k).length : Nat) = k := by rw [List.length_take]; omega
        have Hlen := hid hlen
        have Hdg := hid hdg
        clear hcl hdg hall hl hlen
        go_wp2_with (go_at_call 76; refine (digit_is c false Hdg.out _).mono ?_; rintro e w1 ⟨rfl, rfl⟩)
        go_ret
        exact ⟨ret_int (by rw [H.out, Hlen.out]), rfl⟩
    · have H := hid (digsP_at (l := s.data.toList) (k := k) (by rw [Hsl.out]; omega) hall.out (fun h => by rw [Hsl.out] at h; omega))
      have hlen : ((s.data.toList.take k).length : Nat) = k := by rw [List.length_take, Hsl.out]; omega
      have Hlen := hid hlen
      clear hall hlen
      go_wp2
      go_ret
      exact ⟨ret_int (by rw [H.out, Hlen.out]), rfl⟩

theorem told_yes (s : ByteArray) (a b : Nat) (A B : Int) (hA : A = a) (hB : B = b) (hb4 : b ≤ 4) (ha1 : 1 ≤ a) (hs : s.size ≤ 16777216) (n : Nat) (hn : numP s.data.toList a b = some n) (w : World) :
    Calls Tryz.prog 98 #[.string s, .int .i64 A, .int .i64 B] w fun e w' => e = .returned (.tuple #[.int .i64 n, .int .i64 ((digsP s.data.toList).length : Nat)]) ∧ w = w' := by
  subst hA hB
  obtain ⟨⟨n1, n2⟩, rfl⟩ := numP_some hn
  have hl := restP_length s.data.toList
  rw [← Lib.size_eq] at hl
  have hx : (s.extract 0 (digsP s.data.toList).length).data.toList = digsP s.data.toList := by
    rw [extract_eq]; simp only [List.drop_zero, Nat.sub_zero]; exact digsP_take _
  have hxs : (s.extract 0 (digsP s.data.toList).length).size ≤ 16777216 := by rw [Lib.size_eq, hx]; omega
  have h9 := numP_bd4 (a := a) (l := s.data.toList) (n := digV 0 (digsP s.data.toList)) (by rw [numP_yes ⟨n1, by omega⟩])
  have hv := numV_yes (l := digsP s.data.toList) (most := 9999) (by intro e; rw [e] at n1; simp at n1; omega) (by omega) (digsP_all _) (by omega)
  have HN := hid (fun w => numberR_any (s.extract 0 (digsP s.data.toList).length) 9999 w hxs)
  have HR := hid (fun w => run_any s w hs)
  rw [hx, hv] at HN
  obtain ⟨k, hk⟩ : ∃ k, k = (digsP s.data.toList).length := ⟨_, rfl⟩
  obtain ⟨v, hvv⟩ : ∃ v, v = digV 0 (digsP s.data.toList) := ⟨_, rfl⟩
  rw [← hk] at n1 n2 HN HR hl ⊢
  rw [← hvv] at HN ⊢
  have hks : k ≤ s.size := by omega
  have hk0 : ¬ k < a := by omega
  have hk1 : ¬ k > b := by omega
  clear hx hxs hv hk hvv h9 hn hl
  go_enter Tryz.func98, Tryz.ntmps98
  go_wp2_with (first
    | (go_at_call 122; refine (HR.out _).mono ?_; rintro e w1 ⟨rfl, rfl⟩)
    | (go_at_call 123; refine (HN.out _).mono ?_; rintro e w1 ⟨rfl, rfl⟩))
  go_ret2
  exact ⟨rfl, rfl⟩
theorem told_no (s : ByteArray) (a b : Nat) (A B : Int) (hA : A = a) (hB : B = b) (_hb4 : b ≤ 4) (hs : s.size ≤ 16777216) (hn : numP s.data.toList a b = none) (w : World) :
    Calls Tryz.prog 98 #[.string s, .int .i64 A, .int .i64 B] w fun e w' => e = .returned (.tuple #[.int .i64 0, .int .i64 0]) ∧ w = w' := by
  subst hA hB
  have hno := numP_none hn
  have HR := hid (fun w => run_any s w hs)
  obtain ⟨k, hk⟩ : ∃ k, k = (digsP s.data.toList).length := ⟨_, rfl⟩
  rw [← hk] at hno HR
  clear hn hk
  by_cases n1 : a ≤ k
  · have n2 : k > b := by omega
    have n3 : ¬ k < a := by omega
    clear hno
    go_enter Tryz.func98, Tryz.ntmps98
    go_wp2_with (go_at_call 122; refine (HR.out _).mono ?_; rintro e w1 ⟨rfl, rfl⟩)
    go_ret2
    exact ⟨rfl, rfl⟩
  · have n2 : k < a := by omega
    clear hno
    go_enter Tryz.func98, Tryz.ntmps98
    go_wp2_with (go_at_call 122; refine (HR.out _).mono ?_; rintro e w1 ⟨rfl, rfl⟩)
    go_ret2
    exact ⟨rfl, rfl⟩
end Go.Proofs.YthfndlphhgchnaaGreatDoor
/- Walk: the reference's clock. -/
namespace Go.Proofs.YthfndlphhgchnaaGreatDoor
open Go.RowKit Go.Lib Go.Proofs.Foot

theorem results_four {fn : Func} {t u v x : Tmp} (h : fn.results = #[.tmp t, .tmp u, .tmp v, .tmp x]) (tmps : Array Value) (P : Program) (w : World) :
    (results fn tmps).run P w = .ok (.tuple #[tmps.getD t undef, tmps.getD u undef, tmps.getD v undef, tmps.getD x undef]) w := by simp [results, h]

/-- How a text begins: no number; a number alone; a number and another byte; a number and a colon. -/
theorem step_cases (s : ByteArray) :
    numP s.data.toList 1 2 = none ∨
    (∃ h k, numP s.data.toList 1 2 = some h ∧ (digsP s.data.toList).length = k ∧ 1 ≤ k ∧ k = s.size ∧ colonP (restP s.data.toList) = none) ∨
    (∃ h k, ∃ c : UInt8, ∃ hk : k < s.size, numP s.data.toList 1 2 = some h ∧ (digsP s.data.toList).length = k ∧ 1 ≤ k ∧ s[k]'hk = c ∧ c.toNat ≠ 58 ∧ colonP (restP s.data.toList) = none) ∨
    (∃ h k, ∃ c : UInt8, ∃ hk : k < s.size, numP s.data.toList 1 2 = some h ∧ (digsP s.data.toList).length = k ∧ 1 ≤ k ∧ s[k]'hk = c ∧ c.toNat = 58 ∧ colonP (restP s.data.toList) = some (s.extract (k + 1) s.size).data.toList) := by
  cases hn : numP s.data.toList 1 2 with
  | none => exact .inl rfl
  | some h =>
    right
    obtain ⟨⟨n1, n2⟩, _⟩ := numP_some hn
    have hl := restP_length s.data.toList
    have hd := digs_rest s.data.toList
    rw [← Lib.size_eq] at hl
    by_cases hk : (digsP s.data.toList).length < s.size
    · have hlt : (digsP s.data.toList).length < s.data.toList.length := by rw [← Lib.size_eq]; exact hk
      have hr : restP s.data.toList = s.data.toList.drop (digsP s.data.toList).length := by
        have : (digsP s.data.toList ++ restP s.data.toList).drop (digsP s.data.toList).length = restP s.data.toList := List.drop_left
        rw [hd] at this; exact this.symm
      rw [List.drop_eq_getElem_cons hlt] at hr
      right
      by_cases h58 : (s[(digsP s.data.toList).length]'hk).toNat = 58
      · right
        refine ⟨h, _, _, hk, rfl, rfl, n1, rfl, h58, ?_⟩
        have hc : s.data.toList[(digsP s.data.toList).length]'hlt = 58 := UInt8.toNat.inj h58
        rw [hr, hc]
        show some _ = some _
        congr 1
        rw [extract_eq, List.take_of_length_le (by rw [List.length_drop, ← Lib.size_eq]; omega)]
      · left
        refine ⟨h, _, _, hk, rfl, rfl, n1, rfl, h58, ?_⟩
        rw [hr]
        unfold colonP
        split
        · rename_i e
          injection e with e1 e2
          exact absurd (congrArg UInt8.toNat e1) h58
        · rfl
    · left
      have hr : restP s.data.toList = [] := List.eq_nil_of_length_eq_zero (by omega)
      exact ⟨h, _, rfl, rfl, n1, by omega, by rw [hr]; rfl⟩

/-- What clock answers. -/
def ClockR (o : Option (Nat × Nat × Nat)) (w : World) (e : Ending) (w' : World) : Prop :=
  (∃ a b c : Int, e = .returned (.tuple #[.int .i64 a, .int .i64 b, .int .i64 c, .bool o.isSome]) ∧ ∀ t, o = some t → a = t.1 ∧ b = t.2.1 ∧ c = t.2.2) ∧ w = w'
theorem clockR_no {a b c : Int} {e : Ending} {w : World} {o : Option (Nat × Nat × Nat)} (h : o = none) (he : e = .returned (.tuple #[.int .i64 a, .int .i64 b, .int .i64 c, .bool false])) : ClockR o w e w := by
  subst h; exact ⟨⟨a, b, c, he, fun _ h => by cases h⟩, rfl⟩
theorem clockR_yes {a b c : Nat} {e : Ending} {w : World} {o : Option (Nat × Nat × Nat)} (h : o = some (a, b, c)) (he : e = .returned (.tuple #[.int .i64 a, .int .i64 b, .int .i64 c, .bool true])) : ClockR o w e w := by
  subst h; exact ⟨⟨a, b, c, he, fun _ h => by injection h with h; subst h; exact ⟨rfl, rfl, rfl⟩⟩, rfl⟩
theorem clockP_0 {l : List UInt8} (h : numP l 1 2 = none) : clockP l = none := by unfold clockP; rw [h]; rfl
theorem clockP_1 {l : List UInt8} (h : colonP (restP l) = none) : clockP l = none := by
  unfold clockP; cases numP l 1 2 <;> simp [h]
theorem clockP_2 {l l1 : List UInt8} (h : colonP (restP l) = some l1) (h2 : numP l1 1 2 = none) : clockP l = none := by
  unfold clockP; cases numP l 1 2 <;> simp [h, h2]
theorem clockP_3 {l l1 : List UInt8} (h : colonP (restP l) = some l1) (h2 : colonP (restP l1) = none) : clockP l = none := by
  unfold clockP; cases numP l 1 2 <;> simp [h, h2]
theorem clockP_4 {l l1 l2 : List UInt8} (h : colonP (restP l) = some l1) (h2 : colonP (restP l1) = some l2) (h3 : numP l2 1 2 = none) : clockP l = none := by
  unfold clockP; cases numP l 1 2 <;> simp [h, h2, h3]
theorem clockP_5 {l l1 l2 : List UInt8} {a b c : Nat} (g : numP l 1 2 = some a) (h : colonP (restP l) = some l1) (g1 : numP l1 1 2 = some b) (h2 : colonP (restP l1) = some l2) (h3 : numP l2 1 2 = some c) : clockP l = some (a, b, c) := by
  unfold clockP; simp [g, h, g1, h2, h3]
theorem ext_size (s : ByteArray) {k : Nat} (h : k ≤ s.size) : (s.extract k s.size).size = s.size - k := by
  rw [Lib.size_eq, extract_eq, List.length_take, List.length_drop, ← Lib.size_eq]; omega

set_option maxHeartbeats 2000000 in
set_option maxRecDepth 100000 in
theorem clock_any (s : ByteArray) (hs : s.size ≤ 16777216) (w : World) :
    Calls Tryz.prog 97 #[.string s] w (ClockR (clockP s.data.toList) w) := by
  rcases step_cases s with hn | ⟨h, k, hn, hd, k1, hk, hc⟩ | ⟨h, k, c, hk, hn, hd, k1, hc1, hc2, hc⟩ | ⟨h, k, c, hk, hn, hd, k1, hc1, hc2, hc⟩
  · have HT := hid (fun w => told_no s 1 2 1 2 rfl rfl (by omega) hs hn w)
    have Hf := hid (clockP_0 hn)
    clear hn
    go_enter Tryz.func97, Tryz.ntmps97
    go_wp2_with (go_at_call 98; refine (HT.out _).mono ?_; rintro e w1 ⟨rfl, rfl⟩)
    refine bodyPost_ret (results_four rfl _ _ _) rfl ?_
    exact clockR_no Hf.out rfl
  · have HT := hid (fun w => told_yes s 1 2 1 2 rfl rfl (by omega) (by omega) hs h hn w)
    rw [hd] at HT
    have Hf := hid (clockP_1 hc)
    have e1 : ((k : Int) == 0) = false := by rw [beq_eq_false_iff_ne]; omega
    have e2 : ((k : Int) == (s.size : Int)) = true := by rw [beq_iff_eq]; omega
    clear hn hd hc hk
    go_enter Tryz.func97, Tryz.ntmps97
    go_wp2_with (go_at_call 98; refine (HT.out _).mono ?_; rintro e w1 ⟨rfl, rfl⟩)
    refine bodyPost_ret (results_four rfl _ _ _) rfl ?_
    exact clockR_no Hf.out rfl
  · have HT := hid (fun w => told_yes s 1 2 1 2 rfl rfl (by omega) (by omega) hs h hn w)
    rw [hd] at HT
    have Hf := hid (clockP_1 hc)
    have e1 : ((k : Int) == 0) = false := by rw [beq_eq_false_iff_ne]; omega
    have e2 : ((k : Int) == (s.size : Int)) = false := by rw [beq_eq_false_iff_ne]; omega
    have e3 : ((c.toNat : Int) != 58) = true := by rw [bne_iff_ne]; omega
    clear hn hd hc hc2
    go_enter Tryz.func97, Tryz.ntmps97
    go_wp2_with (go_at_call 98; refine (HT.out _).mono ?_; rintro e w1 ⟨rfl, rfl⟩)
    refine bodyPost_ret (results_four rfl _ _ _) rfl ?_
    exact clockR_no Hf.out rfl
  · have HT := hid (fun w => told_yes s 1 2 1 2 rfl rfl (by omega) (by omega) hs h hn w)
    rw [hd] at HT
    have e1 : ((k : Int) == 0) = false := by rw [beq_eq_false_iff_ne]; omega
    have e2 : ((k : Int) == (s.size : Int)) = false := by rw [beq_eq_false_iff_ne]; omega
    have e3 : ((c.toNat : Int) != 58) = false := by rw [hc2]; rfl
    have hts := ext_size s (k := k + 1) (by omega)
    have htle : (s.extract (k + 1) s.size).size ≤ 16777216 := by omega
    have Hc := hid hc
    have Hn := hid hn
    clear hn hd hc hc2 hts
    go_enter Tryz.func97, Tryz.ntmps97
    go_wp2_with fail
    refine (HT.out _).mono ?_
    rintro e w1 ⟨rfl, rfl⟩
    go_wp2_with fail
    generalize s.extract (k + 1) s.size = T at *
    rcases step_cases T with hn | ⟨h', k', hn, hd, k1', hk', hc⟩ | ⟨h', k', c', hk', hn, hd, k1', hc1', hc2, hc⟩ | ⟨h', k', c', hk', hn, hd, k1', hc1', hc2, hc⟩
    · have Hf := hid (clockP_2 Hc.out hn)
      refine (told_no T 1 2 1 2 rfl rfl (by omega) htle hn _).mono ?_
      rintro e w1 ⟨rfl, rfl⟩
      clear hn
      go_wp2
      refine bodyPost_ret (results_four rfl _ _ _) rfl ?_
      exact clockR_no Hf.out rfl
    · have HT2 := hid (fun w => told_yes T 1 2 1 2 rfl rfl (by omega) (by omega) htle h' hn w)
      rw [hd] at HT2
      have Hf := hid (clockP_3 Hc.out hc)
      have e1' : ((k' : Int) == 0) = false := by rw [beq_eq_false_iff_ne]; omega
      have e2' : ((k' : Int) == (T.size : Int)) = true := by rw [beq_iff_eq]; omega
      clear hn hd hc hk'
      refine (HT2.out _).mono ?_
      rintro e w1 ⟨rfl, rfl⟩
      go_wp2
      refine bodyPost_ret (results_four rfl _ _ _) rfl ?_
      exact clockR_no Hf.out rfl
    · have HT2 := hid (fun w => told_yes T 1 2 1 2 rfl rfl (by omega) (by omega) htle h' hn w)
      rw [hd] at HT2
      have Hf := hid (clockP_3 Hc.out hc)
      have e1' : ((k' : Int) == 0) = false := by rw [beq_eq_false_iff_ne]; omega
      have e2' : ((k' : Int) == (T.size : Int)) = false := by rw [beq_eq_false_iff_ne]; omega
      have e3' : ((c'.toNat : Int) != 58) = true := by rw [bne_iff_ne]; omega
      clear hn hd hc hc2
      refine (HT2.out _).mono ?_
      rintro e w1 ⟨rfl, rfl⟩
      go_wp2
      refine bodyPost_ret (results_four rfl _ _ _) rfl ?_
      exact clockR_no Hf.out rfl
    · have HT2 := hid (fun w => told_yes T 1 2 1 2 rfl rfl (by omega) (by omega) htle h' hn w)
      rw [hd] at HT2
      have e1' : ((k' : Int) == 0) = false := by rw [beq_eq_false_iff_ne]; omega
      have e2' : ((k' : Int) == (T.size : Int)) = false := by rw [beq_eq_false_iff_ne]; omega
      have e3' : ((c'.toNat : Int) != 58) = false := by rw [hc2]; rfl
      have hts' := ext_size T (k := k' + 1) (by omega)
      have htle' : (T.extract (k' + 1) T.size).size ≤ 16777216 := by omega
      have Hc2 := hid hc
      have Hn2 := hid hn
      clear hn hd hc hc2 hts'
      refine (HT2.out _).mono ?_
      rintro e w1 ⟨rfl, rfl⟩
      go_wp2_with fail
      generalize T.extract (k' + 1) T.size = U at *
      cases hn : numP U.data.toList 1 2 with
      | none =>
        have Hf := hid (clockP_4 Hc.out Hc2.out hn)
        refine (told_no U 1 2 1 2 rfl rfl (by omega) htle' hn _).mono ?_
        rintro e w1 ⟨rfl, rfl⟩
        clear hn
        go_wp2
        refine bodyPost_ret (results_four rfl _ _ _) rfl ?_
        exact clockR_no Hf.out rfl
      | some x =>
        have Hf := hid (clockP_5 Hn.out Hc.out Hn2.out Hc2.out hn)
        have hpos := (numP_some hn).1.1
        refine (told_yes U 1 2 1 2 rfl rfl (by omega) (by omega) htle' x hn _).mono ?_
        rintro e w1 ⟨rfl, rfl⟩
        clear hn
        generalize (digsP U.data.toList).length = q at *
        have hq : decide (0 < q) = true := decide_eq_true (by omega)
        go_wp2
        refine bodyPost_ret (results_four rfl _ _ _) rfl ?_
        exact clockR_yes Hf.out rfl
end Go.Proofs.YthfndlphhgchnaaGreatDoor
/- Walk: the reference's named. -/
namespace Go.Proofs.YthfndlphhgchnaaGreatDoor
open Go.RowKit Go.Lib Go.Proofs.Foot

def monthsR : ByteArray := ⟨#[74, 97, 110, 70, 101, 98, 77, 97, 114, 65, 112, 114, 77, 97, 121, 74, 117, 110, 74, 117, 108, 65, 117, 103, 83, 101, 112, 79, 99, 116, 78, 111, 118, 68, 101, 99]⟩
theorem months_at (j : Nat) (hj : j < 12) (a b : Nat) (ha : a = 3 * j) (hb : b = 3 * j + 3) : lower (monthsR.extract a b).data.toList = monthNames.getD j [] := by
  subst ha hb
  have : ∀ j < 12, lower (monthsR.extract (3 * j) (3 * j + 3)).data.toList = monthNames.getD j [] := by decide +kernel
  exact this j hj
theorem names_len (j : Nat) (hj : j < 12) : (monthNames.getD j []).length = 3 := by
  have : ∀ j < 12, (monthNames.getD j []).length = 3 := by decide +kernel
  exact this j hj
theorem monthOf_name (j : Nat) (hj : j < 12) : monthOf (monthNames.getD j []) = j + 1 := by
  have : ∀ j < 12, monthOf (monthNames.getD j []) = j + 1 := by decide +kernel
  exact this j hj
theorem monthOf_none {t : List UInt8} (h : ∀ j < 12, monthNames.getD j [] ≠ t) : monthOf t = 0 := by
  unfold monthOf
  cases hi : monthNames.idxOf? t with
  | none => rfl
  | some i =>
    obtain ⟨hlt, he, _⟩ := List.idxOf?_eq_some_iff.1 hi
    have := h i hlt
    rw [List.getD, List.getElem?_eq_getElem hlt, Option.getD_some] at this
    exact absurd he this
theorem take_lowR (s : ByteArray) (h : 3 ≤ s.size) : (lower (s.extract 0 3).data.toList).length = 3 ∧ monthP s.data.toList = monthOf (lower (s.extract 0 3).data.toList) := by
  have e : (s.extract 0 3).data.toList = s.data.toList.take 3 := by rw [extract_eq]; rfl
  have hl : 3 ≤ s.data.toList.length := by rw [← Lib.size_eq]; exact h
  rw [e]
  refine ⟨by rw [lower_length, List.length_take]; omega, ?_⟩
  unfold monthP; rw [if_pos hl]
theorem ext_leR (s : ByteArray) (a b : Nat) : (s.extract a b).size ≤ s.size := by
  rw [Lib.size_eq, extract_eq, List.length_take, List.length_drop, Lib.size_eq s]; omega
theorem sameR_is (s t : ByteArray) (w : World) (hs : s.size ≤ 16777216) (ht : t.size ≤ 16777216) (b : Bool) (hb : sameB s.data.toList t.data.toList = b) :
    Calls Tryz.prog 124 #[.string s, .string t] w fun e w' => e = .returned (.bool b) ∧ Below w.heap.size w w' := by
  rw [← hb]; exact sameR_any s t w (by unfold maxLen; omega) (by unfold maxLen; omega)

set_option maxHeartbeats 4000000 in
set_option maxRecDepth 100000 in
theorem namedR_any (s : ByteArray) (hs : s.size ≤ 16777216) (w : World) :
    Calls Tryz.prog 99 #[.string s] w fun e w' => e = .returned (.int .i64 (monthP s.data.toList)) ∧ Below w.heap.size w w' := by
  by_cases h3 : s.size < 3
  · have h0 : monthP s.data.toList = 0 := by unfold monthP; rw [if_neg (by rw [← Lib.size_eq]; omega)]
    have H0 := hid h0
    clear h0
    have h3' : decide (3 ≤ s.size) = false := decide_eq_false (by omega)
    go_enter Tryz.func99, Tryz.ntmps99
    go_wp2
    refine wp_loop_rounds 1 ?_
    rw [rounds_succ]
    go_wp2
    go_ret
    exact ⟨ret_int (by rw [H0.out]; rfl), Below.refl _ _⟩
  · go_enter Tryz.func99, Tryz.ntmps99
    go_wp2
    go_loopw [3] (fun m wr => ∃ k : Nat, 1 ≤ k ∧ k ≤ 13 ∧ m = .int .i64 k ∧ Hid (Below w.heap.size w wr ∧ ∀ j < k - 1, monthNames.getD j [] ≠ lower (s.extract 0 3).data.toList)) (fun m _ => 13 - (RowKit.intOf m).toNat)
    case atStart => exact ⟨1, by omega, by omega, rfl, hid ⟨Below.refl _ _, (fun j hj => by omega)⟩⟩
    case round =>
      obtain ⟨k, hk1, hk, rfl, hh⟩ := hrel
      by_cases hk12 : k ≤ 12
      · have q1 : IntKind.i64.wrap (3 * (k : Int)) = 3 * (k : Int) := IntWalk.i64_in _ (by omega)
        have q2 : IntKind.i64.wrap (3 * (k : Int) - 3) = 3 * (k : Int) - 3 := IntWalk.i64_in _ (by omega)
        obtain ⟨NM, hNM⟩ : ∃ NM : ByteArray, NM = monthsR.extract (3 * (k : Int) - 3).toNat (3 * (k : Int)).toNat := ⟨_, rfl⟩
        have hsl : ∀ W, (Instr.slice 9 (.string ⟨#[74, 97, 110, 70, 101, 98, 77, 97, 114, 65, 112, 114, 77, 97, 121, 74, 117, 110, 74, 117, 108, 65, 117, 103, 83, 101, 112, 79, 99, 116, 78, 111, 118, 68, 101, 99]⟩) (some (.int .i64 (3 * (k : Int) - 3))) (some (.int .i64 (3 * (k : Int)))) none).run Tryz.prog W = .ok (.string NM) W := fun W => by
          rw [hNM]
          exact run_slice_string W _ _ _ _ _ _ Tryz.underlying9 (by omega) (by omega) (by show 3 * (k : Int) ≤ 36; omega)
        have hlow : lower NM.data.toList = monthNames.getD (k - 1) [] := by
          rw [hNM]; exact months_at (k - 1) (by omega) _ _ (by omega) (by omega)
        have hnz : NM.size ≤ 16777216 := by
          have := congrArg List.length hlow
          rw [lower_length, ← Lib.size_eq, names_len _ (by omega)] at this; omega
        have hname := monthOf_name (k - 1) (by omega)
        have hmp := (take_lowR s (by omega)).2
        have hext := ext_leR s 0 3
        obtain ⟨hbel, hno⟩ := hh.out
        have Hbel := hid hbel
        by_cases ht : lower (s.extract 0 3).data.toList = monthNames.getD (k - 1) []
        · have Hsame : Hid (sameB (s.extract 0 3).data.toList NM.data.toList = true) := hid (by unfold sameB; rw [ht, hlow]; simp)
          have Hfin : Hid (monthP s.data.toList = k) := hid (by rw [hmp, ht, hname]; omega)
          have HS := hid (fun w => sameR_is (s.extract 0 3) NM w (by omega) hnz true Hsame.out)
          clear hh hbel hno hNM hlow hname hmp ht hext hnz
          go_wp2_with fail
          go_region_with (go_at_call 124; refine (HS.out _).mono ?_; rintro e w5 ⟨rfl, hb5⟩)
          all_goals have Hb5 := hid (below_chain Hbel.out ((Below.refl _ wr).drew.trans hb5))
          all_goals clear hb5
          all_goals go_wp2
          all_goals go_ret
          all_goals exact ⟨ret_int (by rw [Hfin.out]), Hb5.out⟩
        · have Hsame : Hid (sameB (s.extract 0 3).data.toList NM.data.toList = false) := hid (by unfold sameB; rw [hlow, beq_eq_false_iff_ne]; exact ht)
          have Hno : Hid (∀ j < k + 1 - 1, monthNames.getD j [] ≠ lower (s.extract 0 3).data.toList) := hid (fun j hj => by
            by_cases hj2 : j = k - 1
            · rw [hj2]; exact fun h => ht h.symm
            · exact hno j (by omega))
          have HS := hid (fun w => sameR_is (s.extract 0 3) NM w (by omega) hnz false Hsame.out)
          clear hh hbel hno hNM hlow hname hmp ht hext hnz
          go_wp2_with fail
          go_region_with (go_at_call 124; refine (HS.out _).mono ?_; rintro e w5 ⟨rfl, hb5⟩)
          all_goals have Hb5 := hid (below_chain Hbel.out ((Below.refl _ wr).drew.trans hb5))
          all_goals clear hb5
          all_goals clear q1 q2 hsl
          all_goals go_wp2
          all_goals go_roundw
          all_goals first
            | exact ⟨k + 1, by omega, by omega, by go_num, hid ⟨Hb5.out, Hno.out⟩⟩
            | (simp [RowKit.intOf]; omega)
      · obtain rfl : k = 13 := by omega
        obtain ⟨hbel, hno⟩ := hh.out
        have hmp := (take_lowR s (by omega)).2
        have H0 : Hid (monthP s.data.toList = 0) := hid (by
          rw [hmp]; exact monthOf_none (fun j hj => (hno j (by omega))))
        have Hbel := hid hbel
        clear hh hbel hno hmp
        go_wp2
        go_ret
        exact ⟨ret_int (by rw [H0.out]; rfl), Hbel.out⟩
end Go.Proofs.YthfndlphhgchnaaGreatDoor
/- Walks: the reference's between and word. -/
namespace Go.Proofs.YthfndlphhgchnaaGreatDoor
open Go.RowKit Go.Lib Go.Proofs.Foot

set_option maxRecDepth 100000 in
theorem betR_any (c : UInt8) (w : World) :
    Calls Tryz.prog 73 #[.int .u8 c.toNat] w fun e w' => e = .returned (.bool (betB c)) ∧ w = w' := by
  have hc := c.toNat_lt
  have hc256 : (c.toNat : Int) < 256 := by omega
  by_cases h9 : c.toNat = 9
  · have e9 : ((c.toNat : Int) == 9) = true := by rw [h9]; rfl
    have H := hid ((betB_iff c).2 (.inl h9))
    clear h9
    go_enter Tryz.func73, Tryz.ntmps73
    go_wp2
    go_ret
    exact ⟨ret_bool H.out.symm, rfl⟩
  have e9 : ((c.toNat : Int) == 9) = false := by rw [beq_eq_false_iff_ne]; omega
  have hiff := betB_iff c
  have Hiff := hid hiff
  clear hiff h9
  go_enter Tryz.func73, Tryz.ntmps73
  go_wp2
  all_goals go_ret
  all_goals refine ⟨ret_bool ?_, rfl⟩
  all_goals rw [Bool.eq_iff_iff, Hiff.out]
  all_goals have e9' := e9
  all_goals rw [beq_eq_false_iff_ne] at e9'
  all_goals first
    | (simp only [true_iff]; omega)
    | (simp only [Bool.false_eq_true, false_iff]; omega)
    | (simp only [Bool.or_eq_true, decide_eq_true_eq]; omega)
    | (rw [decide_eq_true_eq]; omega)

/-- The reference's cells of what was told. -/
def row9 (h i x k m y : Nat) (t0 t1 t2 : Bool) : Array Value :=
  #[.int .i64 h, .int .i64 i, .int .i64 x, .int .i64 k, .int .i64 m, .int .i64 y, .bool t0, .bool t1, .bool t2]
def rowR (d : Dt) : Array Value :=
  row9 (d.clock.getD (0, 0, 0)).1 (d.clock.getD (0, 0, 0)).2.1 (d.clock.getD (0, 0, 0)).2.2 (d.day.getD 0) d.month (d.year.getD 0) d.clock.isSome d.day.isSome d.year.isSome
def WordRR (B g : Nat) (cs : Array Value) (w : World) (e : Ending) (w' : World) : Prop := e = .returned (.tuple #[]) ∧ Blk w' g 96 cs ∧ Below B w w'

/-- What told answers, in one form. -/
theorem told_one (s : ByteArray) (a b : Nat) (A B : Int) (hA : A = a) (hB : B = b) (hb4 : b ≤ 4) (ha1 : 1 ≤ a) (hs : s.size ≤ 16777216) : ∃ kk : Nat, (0 < kk ↔ (numP s.data.toList a b).isSome = true) ∧
    ∀ w, Calls Tryz.prog 98 #[.string s, .int .i64 A, .int .i64 B] w fun e w' => e = .returned (.tuple #[.int .i64 ((numP s.data.toList a b).getD 0 : Nat), .int .i64 kk]) ∧ w = w' := by
  cases hn : numP s.data.toList a b with
  | none => exact ⟨0, by simp, fun w => told_no s a b A B hA hB hb4 hs hn w⟩
  | some n => exact ⟨(digsP s.data.toList).length, by have := (numP_some hn).1.1; simp; omega, fun w => told_yes s a b A B hA hB hb4 ha1 hs n hn w⟩
theorem skip0 {d : Dt} {l : List UInt8} (h : ((clockP l).isSome && !d.clock.isSome) = false) : word1 d l = word0 d l := by
  cases hp : clockP l with
  | none => exact (word0_no hp).symm
  | some q => cases hc : d.clock with
    | none => rw [hp, hc] at h; cases h
    | some r => exact (word0_told hc l).symm
theorem take0 {d : Dt} {l : List UInt8} (h : ((clockP l).isSome && !d.clock.isSome) = true) : ∃ q, clockP l = some q ∧ d.clock = none := by
  cases hp : clockP l with
  | none => rw [hp] at h; cases h
  | some q => cases hc : d.clock with
    | none => exact ⟨q, rfl, rfl⟩
    | some r => rw [hp, hc] at h; cases h
theorem skip1 {d : Dt} {l : List UInt8} (h : ((numP l 1 2).isSome && !d.day.isSome) = false) : word2 d l = word1 d l := by
  cases hp : numP l 1 2 with
  | none => exact (word1_no hp).symm
  | some q => cases hc : d.day with
    | none => rw [hp, hc] at h; cases h
    | some r => exact (word1_told hc l).symm
theorem take1 {d : Dt} {l : List UInt8} (h : ((numP l 1 2).isSome && !d.day.isSome) = true) : ∃ q, numP l 1 2 = some q ∧ d.day = none := by
  cases hp : numP l 1 2 with
  | none => rw [hp] at h; cases h
  | some q => cases hc : d.day with
    | none => exact ⟨q, rfl, rfl⟩
    | some r => rw [hp, hc] at h; cases h
theorem skip3 {d : Dt} {l : List UInt8} (h : ((numP l 2 4).isSome && !d.year.isSome) = false) : d = word3 d l := by
  cases hp : numP l 2 4 with
  | none => exact (word3_no hp).symm
  | some q => cases hc : d.year with
    | none => rw [hp, hc] at h; cases h
    | some r => exact (word3_told hc l).symm
theorem take3 {d : Dt} {l : List UInt8} (h : ((numP l 2 4).isSome && !d.year.isSome) = true) : ∃ q, numP l 2 4 = some q ∧ d.year = none := by
  cases hp : numP l 2 4 with
  | none => rw [hp] at h; cases h
  | some q => cases hc : d.year with
    | none => exact ⟨q, rfl, rfl⟩
    | some r => rw [hp, hc] at h; cases h
/-- Where the rules stand: the cells as they were, the rules from the j-th on. -/
def AtRule (B g j : Nat) (d : Dt) (l : List UInt8) (w wx : World) : Prop :=
  Blk wx g 96 (rowR d) ∧ Below B w wx ∧ (if j = 1 then word1 d l else if j = 2 then word2 d l else if j = 3 then word3 d l else d) = word0 d l

set_option maxHeartbeats 8000000 in
set_option maxRecDepth 100000 in
theorem wordR_any (B g : Nat) (d : Dt) (s : ByteArray) (hs : s.size ≤ 16777216) (w : World) (hB : B ≤ g) (hg : Blk w g 96 (rowR d)) :
    Calls Tryz.prog 74 #[.pointer (some ⟨g, 0, none⟩), .string s] w (WordRR B g (rowR (word0 d s.data.toList)) w) := by
  have hlt := hg.lt
  have Hg := hid hg
  clear hg
  have HC := hid (clock_any s hs w)
  obtain ⟨k1, hk1, HT1⟩ := told_one s 1 2 1 2 rfl rfl (by omega) (by omega) hs
  obtain ⟨k2, hk2, HT2⟩ := told_one s 2 4 2 4 rfl rfl (by omega) (by omega) hs
  have HT1' := hid HT1
  have HT2' := hid HT2
  have Hk1 := hid hk1
  have Hk2 := hid hk2
  have HM := hid (fun w => namedR_any s hs w)
  clear HT1 HT2 hk1 hk2
  obtain ⟨q1, hq1⟩ : ∃ q, q = ((clockP s.data.toList).isSome && !d.clock.isSome) := ⟨_, rfl⟩
  obtain ⟨o1, ho1⟩ : ∃ o, o = (clockP s.data.toList).isSome := ⟨_, rfl⟩
  obtain ⟨t1, ht1⟩ : ∃ o, o = d.clock.isSome := ⟨_, rfl⟩
  obtain ⟨q2, hq2⟩ : ∃ q, q = ((numP s.data.toList 1 2).isSome && !d.day.isSome) := ⟨_, rfl⟩
  obtain ⟨t2, ht2⟩ : ∃ o, o = d.day.isSome := ⟨_, rfl⟩
  obtain ⟨q4, hq4⟩ : ∃ q, q = ((numP s.data.toList 2 4).isSome && !d.year.isSome) := ⟨_, rfl⟩
  obtain ⟨t4, ht4⟩ : ∃ o, o = d.year.isSome := ⟨_, rfl⟩
  have Hq2 := hid hq2
  have Ht2 := hid ht2
  have Hq4 := hid hq4
  have Ht4 := hid ht4
  clear hq2 ht2 hq4 ht4
  have hBw : B ≤ w.heap.size := Nat.le_trans hB (Nat.le_of_lt hlt)
  have Hq1 := hid hq1
  have Ho1 := hid ho1
  have Ht1 := hid ht1
  clear hq1 ho1 ht1
  go_enter Tryz.func74, Tryz.ntmps74
  go_upto_region 1 with (go_at_call 97; refine HC.out.mono ?_; rintro e w' ⟨⟨a, b, c, rfl, hv⟩, rfl⟩; have Hv := hid hv; clear hv; rw [← Ho1.out])
  go_cut [4, 5, 6, 7, 24] (fun s4 s5 s6 _ v wx => v = .bool q1 ∧ s4 = .int .i64 a ∧ s5 = .int .i64 b ∧ s6 = .int .i64 c ∧ w = wx)
  case first =>
    have c6 : w.cell? ⟨g, 6, none⟩ = some (.bool t1) := Hg.out.cell (by rw [Ht1.out]; rfl)
    have Hx : Hid (q1 = (o1 && !t1)) := hid (by rw [Ho1.out, Ht1.out]; exact Hq1.out)
    cases o1 <;> cases t1 <;> (go_wp2; go_meet; exact ⟨by rw [Hx.out]; rfl, rfl, rfl, rfl, rfl⟩)
  case rest =>
    obtain ⟨rfl, rfl, rfl, rfl, rfl⟩ := hcut
    go_upto_if 24 with fail
    go_cut [4, 5, 6, 7] (fun _ _ _ _ wx => AtRule B g 1 d s.data.toList w wx)
    case first =>
      cases q1 with
      | false =>
        have Hk := hid (skip0 Hq1.out.symm)
        go_wp2
        go_meet
        exact ⟨Hg.out, Below.refl _ _, Hk.out⟩
      | true =>
        obtain ⟨q, hp, hc⟩ := take0 Hq1.out.symm
        have Hk := hid (word0_yes hc hp)
        have hg0 := Hg.out
        have e0 : rowR d = row9 0 0 0 (d.day.getD 0) d.month (d.year.getD 0) false d.day.isSome d.year.isSome := by rw [rowR, hc]; rfl
        rw [e0] at hg0
        have c0 : w.cell? ⟨g, 0, none⟩ = some (.int .i64 0) := hg0.cell rfl
        have c1 : w.cell? ⟨g, 1, none⟩ = some (.int .i64 0) := hg0.cell rfl
        have c2 : w.cell? ⟨g, 2, none⟩ = some (.int .i64 0) := hg0.cell rfl
        have c6 : w.cell? ⟨g, 6, none⟩ = some (.bool false) := hg0.cell rfl
        have f0 := hg0.free 0
        have f1 := hg0.free 1
        have f2 := hg0.free 2
        have f6 := hg0.free 6
        have Hg0 := hid hg0
        obtain ⟨ea, eb, ec⟩ := Hv.out q hp
        have Hea := hid ea
        have Heb := hid eb
        have Hec := hid ec
        clear hp hc hg0 e0 ea eb ec
        go_wp2
        refine bodyPost_ret (results_none rfl _ _ _) rfl ?_
        refine ⟨rfl, ((((Hg0.out.put 0 _).put 1 _).put 2 _).put 6 _).eq ?_, ((((Below.refl _ w).setCell hB _).setCell hB _).setCell hB _).setCell hB _⟩
        rw [Hk.out, Hea.out, Heb.out, Hec.out]; rfl
    case rest =>
      obtain ⟨hgb, hbel, hwj⟩ := hcut
      have Hgb := hid hgb
      have Hbel := hid hbel
      have Hwj := hid hwj
      clear hgb hbel hwj
      generalize wc = wa at *
      go_upto_region 7 with (go_at_call 98; refine (HT1'.out _).mono ?_; rintro e w' ⟨rfl, rfl⟩)
      go_cut [8, 9, 53] (fun s8 _ v wx => v = .bool q2 ∧ s8 = .int .i64 ((numP s.data.toList 1 2).getD 0 : Nat) ∧ wa = wx)
      case first =>
        have cf : wa.cell? ⟨g, 7, none⟩ = some (.bool t2) := Hgb.out.cell (by rw [Ht2.out]; rfl)
        have Hx : Hid (q2 = (decide (0 < k1) && !t2)) := hid (by
          rw [Hq2.out, Ht2.out]
          congr 1
          rw [Bool.eq_iff_iff, decide_eq_true_eq]; exact Hk1.out.symm)
        by_cases hk : 0 < k1
        · have hd : decide (0 < k1) = true := decide_eq_true hk
          cases t2 <;> (go_wp2; go_meet; exact ⟨by rw [Hx.out, hd]; rfl, rfl, rfl⟩)
        · have hd : decide (0 < k1) = false := decide_eq_false hk
          cases t2 <;> (go_wp2; go_meet; exact ⟨by rw [Hx.out, hd]; rfl, rfl, rfl⟩)
      case rest =>
        obtain ⟨rfl, rfl, rfl⟩ := hcut
        go_upto_if 53 with fail
        go_cut [8, 9] (fun _ _ wx => AtRule B g 2 d s.data.toList w wx)
        case first =>
          cases q2 with
          | false =>
            have Hk := hid ((skip1 Hq2.out.symm).trans Hwj.out)
            go_wp2
            go_meet
            exact ⟨Hgb.out, Hbel.out, Hk.out⟩
          | true =>
            obtain ⟨q, hp, hc⟩ := take1 Hq2.out.symm
            have Hk := hid (Hwj.out.symm.trans (word1_yes hc hp))
            have hg0 := Hgb.out
            have e0 : rowR d = row9 (d.clock.getD (0, 0, 0)).1 (d.clock.getD (0, 0, 0)).2.1 (d.clock.getD (0, 0, 0)).2.2 0 d.month (d.year.getD 0) d.clock.isSome false d.year.isSome := by rw [rowR, hc]; rfl
            rw [e0] at hg0
            have c0 : wa.cell? ⟨g, 3, none⟩ = some (.int .i64 0) := hg0.cell rfl
            have c6 : wa.cell? ⟨g, 7, none⟩ = some (.bool false) := hg0.cell rfl
            have f0 := hg0.free 3
            have f6 := hg0.free 7
            have Hg0 := hid hg0
            have Hp := hid hp
            clear hp hc hg0 e0
            go_wp2
            refine bodyPost_ret (results_none rfl _ _ _) rfl ?_
            refine ⟨rfl, ((Hg0.out.put 3 _).put 7 _).eq ?_, (Hbel.out.setCell hB _).setCell hB _⟩
            rw [Hk.out, Hp.out]; rfl
        case rest =>
          obtain ⟨hgb, hbel, hwj⟩ := hcut
          have Hgb := hid hgb
          have Hbel := hid hbel
          have Hwj := hid hwj
          have hlt2 := hgb.lt
          clear hgb hbel hwj
          generalize wc = wb at *
          obtain ⟨M, hM⟩ : ∃ M, M = monthP s.data.toList := ⟨_, rfl⟩
          obtain ⟨N, hN⟩ : ∃ N, N = d.month := ⟨_, rfl⟩
          obtain ⟨q3, hq3⟩ : ∃ q, q = (decide (0 < M) && decide (N = 0)) := ⟨_, rfl⟩
          rw [← hM] at HM
          have HM' := hid hM
          have HN' := hid hN
          have Hq3 := hid hq3
          clear hM hN hq3
          go_upto_region 10 with fail
          go_cut [70] (fun v wx => v = .bool q3 ∧ Blk wx g 96 (rowR d) ∧ Below B w wx)
          case first =>
            go_wp2_with fail
            refine (HM.out _).mono ?_
            rintro e w5 ⟨rfl, hb5⟩
            have Hg5 := hid (Hgb.out.keep hb5)
            have Hb5 := hid (Hbel.out.trans (hb5.mono (by omega)))
            have cf : w5.cell? ⟨g, 4, none⟩ = some (.int .i64 N) := Hg5.out.cell (by rw [HN'.out]; rfl)
            clear hb5
            by_cases hm : 0 < M
            · have hd : decide (0 < M) = true := decide_eq_true hm
              by_cases hn : N = 0
              · have hd2 : ((N : Int) == 0) = true := by rw [hn]; rfl
                have He := hid (decide_eq_true hn)
                clear hn
                go_wp2
                go_meet
                exact ⟨by rw [Hq3.out, hd, He.out]; rfl, Hg5.out, Hb5.out⟩
              · have hd2 : ((N : Int) == 0) = false := by rw [beq_eq_false_iff_ne]; omega
                have He := hid (decide_eq_false hn)
                clear hn
                go_wp2
                go_meet
                exact ⟨by rw [Hq3.out, hd, He.out]; rfl, Hg5.out, Hb5.out⟩
            · have hd : decide (0 < M) = false := decide_eq_false hm
              go_wp2
              go_meet
              exact ⟨by rw [Hq3.out, hd]; rfl, Hg5.out, Hb5.out⟩
          case rest =>
            obtain ⟨rfl, hgb, hbel⟩ := hcut
            have Hgb := hid hgb
            have Hbel := hid hbel
            have hlt3 := hgb.lt
            clear hgb hbel
            generalize wc = wd at *
            go_upto_if 70 with fail
            go_cut [] (fun wx => AtRule B g 3 d s.data.toList w wx)
            case first =>
              cases q3 with
              | false =>
                have Hk : Hid (word3 d s.data.toList = word0 d s.data.toList) := hid (by
                  refine Eq.trans ?_ Hwj.out
                  have h := Hq3.out
                  rw [HM'.out, HN'.out] at h
                  by_cases hm : monthP s.data.toList = 0
                  · exact (word2_no hm).symm
                  · refine (word2_told (fun hn => ?_) s.data.toList).symm
                    rw [decide_eq_true hn, decide_eq_true (Nat.pos_of_ne_zero hm)] at h; cases h)
                go_wp2
                go_meet
                exact ⟨Hgb.out, Hbel.out, Hk.out⟩
              | true =>
                have hboth : 0 < monthP s.data.toList ∧ d.month = 0 := by
                  have h := Hq3.out
                  rw [HM'.out, HN'.out] at h
                  simpa using h.symm
                have Hk := hid (Hwj.out.symm.trans (word2_yes hboth.2 (by omega)))
                have hg0 := Hgb.out
                have e0 : rowR d = row9 (d.clock.getD (0, 0, 0)).1 (d.clock.getD (0, 0, 0)).2.1 (d.clock.getD (0, 0, 0)).2.2 (d.day.getD 0) 0 (d.year.getD 0) d.clock.isSome d.day.isSome d.year.isSome := by rw [rowR, hboth.2]
                rw [e0] at hg0
                have Hg0 := hid hg0
                clear hboth hg0 e0
                go_wp2_with fail
                refine (HM.out _).mono ?_
                rintro e w5 ⟨rfl, hb5⟩
                have Hg5 := hid (Hg0.out.keep hb5)
                have Hb5 := hid (Hbel.out.trans (hb5.mono (by omega)))
                have c0 : w5.cell? ⟨g, 4, none⟩ = some (.int .i64 0) := Hg5.out.cell rfl
                have f0 := Hg5.out.free 4
                clear hb5
                go_wp2
                refine bodyPost_ret (results_none rfl _ _ _) rfl ?_
                refine ⟨rfl, (Hg5.out.put 4 _).eq ?_, Hb5.out.setCell hB _⟩
                rw [Hk.out, HM'.out]; rfl
            case rest =>
              obtain ⟨hgb, hbel, hwj⟩ := hcut
              have Hgb := hid hgb
              have Hbel := hid hbel
              have Hwj := hid hwj
              clear hgb hbel hwj
              generalize wc = we at *
              go_upto_region 13 with (go_at_call 98; refine (HT2'.out _).mono ?_; rintro e w' ⟨rfl, rfl⟩)
              go_cut [8, 9, 89] (fun s8 _ v wx => v = .bool q4 ∧ s8 = .int .i64 ((numP s.data.toList 2 4).getD 0 : Nat) ∧ we = wx)
              case first =>
                have cf : we.cell? ⟨g, 8, none⟩ = some (.bool t4) := Hgb.out.cell (by rw [Ht4.out]; rfl)
                have Hx : Hid (q4 = (decide (0 < k2) && !t4)) := hid (by
                  rw [Hq4.out, Ht4.out]
                  congr 1
                  rw [Bool.eq_iff_iff, decide_eq_true_eq]; exact Hk2.out.symm)
                by_cases hk : 0 < k2
                · have hd : decide (0 < k2) = true := decide_eq_true hk
                  cases t4 <;> (go_wp2; go_meet; exact ⟨by rw [Hx.out, hd]; rfl, rfl, rfl⟩)
                · have hd : decide (0 < k2) = false := decide_eq_false hk
                  cases t4 <;> (go_wp2; go_meet; exact ⟨by rw [Hx.out, hd]; rfl, rfl, rfl⟩)
              case rest =>
                obtain ⟨rfl, rfl, rfl⟩ := hcut
                cases q4 with
                | false =>
                  have Hk := hid ((skip3 Hq4.out.symm).trans Hwj.out)
                  go_wp2
                  go_end0
                  exact ⟨rfl, Hgb.out.eq (congrArg rowR Hk.out), Hbel.out⟩
                | true =>
                  obtain ⟨q, hp, hc⟩ := take3 Hq4.out.symm
                  have Hk := hid (Hwj.out.symm.trans (word3_yes hc hp))
                  have hg0 := Hgb.out
                  have e0 : rowR d = row9 (d.clock.getD (0, 0, 0)).1 (d.clock.getD (0, 0, 0)).2.1 (d.clock.getD (0, 0, 0)).2.2 (d.day.getD 0) d.month 0 d.clock.isSome d.day.isSome false := by rw [rowR, hc]; rfl
                  rw [e0] at hg0
                  have c0 : we.cell? ⟨g, 5, none⟩ = some (.int .i64 0) := hg0.cell rfl
                  have c6 : we.cell? ⟨g, 8, none⟩ = some (.bool false) := hg0.cell rfl
                  have f0 := hg0.free 5
                  have f6 := hg0.free 8
                  have Hg0 := hid hg0
                  have Hp := hid hp
                  clear hp hc hg0 e0
                  go_wp2
                  go_end0
                  refine ⟨rfl, ((Hg0.out.put 5 _).put 8 _).eq ?_, (Hbel.out.setCell hB _).setCell hB _⟩
                  rw [Hk.out, Hp.out]; rfl
end Go.Proofs.YthfndlphhgchnaaGreatDoor
/- Walk: the reference's Cookie. -/
namespace Go.Proofs.YthfndlphhgchnaaGreatDoor
open Go.RowKit Go.Lib Go.Proofs.Foot

theorem betR_is (c : UInt8) (v : Bool) (h : betB c = v) (w : World) :
    Calls Tryz.prog 73 #[.int .u8 c.toNat] w fun e w' => e = .returned (.bool v) ∧ w = w' := by
  rw [← h]; exact betR_any c w
theorem dateV_no {d : Dt} (h : fullP d = false) : dateV d = .tuple #[.int .i64 0, .bool false] := if_neg (by rw [h]; decide)
theorem full_0 {d : Dt} (h : d.clock.isSome = false) : fullP d = false := by unfold fullP; rw [h]; simp
theorem full_1 {d : Dt} (h : d.day.isSome = false) : fullP d = false := by unfold fullP; rw [h]; simp
theorem full_2 {d : Dt} (h : d.month = 0) : fullP d = false := by unfold fullP; rw [h]; simp
theorem full_3 {d : Dt} (h : d.year.isSome = false) : fullP d = false := by unfold fullP; rw [h]; simp
theorem full_4 {d : Dt} (h : fixY (d.year.getD 0) < 1601) : fullP d = false := by
  unfold fullP; rw [decide_eq_false (show ¬ 1601 ≤ fixY (d.year.getD 0) by omega), Bool.and_false]
theorem full_5 {d : Dt} (h0 : d.clock.isSome = true) (h1 : d.day.isSome = true) (h2 : d.month ≠ 0) (h3 : d.year.isSome = true) (h4 : ¬ fixY (d.year.getD 0) < 1601) : fullP d = true := by
  unfold fullP; rw [h0, h1, h3, decide_eq_true h2, decide_eq_true (show 1601 ≤ fixY (d.year.getD 0) by omega)]; rfl
theorem take_nil (l : List UInt8) (k : Nat) : (l.drop k).take (k - k) = [] := by simp

set_option maxHeartbeats 8000000 in
set_option maxRecDepth 100000 in
theorem cookieR_any (s : ByteArray) (hs : s.size ≤ 16777216) (w : World) :
    Calls Tryz.prog 50 #[.string s] w fun e w' => e = .returned (dateV (dateP s.data.toList)) ∧ Below w.heap.size w w' := by
  have hsl : s.data.toList.length = s.size := (Lib.size_eq s).symm
  have Hsl := hid hsl
  clear hsl
  go_enter Tryz.func50, Tryz.ntmps50
  go_wp2_with fail
  have hb0 : Blk (w.alloc (.cells #[.int .i64 0, .int .i64 0, .int .i64 0, .int .i64 0, .int .i64 0, .int .i64 0, .bool false, .bool false, .bool false] 96)) w.heap.size 96 (rowR dt0) := (Blk.first w _ _).eq rfl
  have hbel0 : Below w.heap.size w (w.alloc (.cells #[.int .i64 0, .int .i64 0, .int .i64 0, .int .i64 0, .int .i64 0, .int .i64 0, .bool false, .bool false, .bool false] 96)) := (Below.refl _ _).alloc (Nat.le_refl _) _
  have H0 := hid (And.intro hb0 (And.intro hbel0 (And.intro (scanAt_start s.data.toList) small0)))
  clear hb0 hbel0
  generalize World.alloc _ _ = w0 at *

  go_loopw [5, 6] (fun f i wr => ∃ (k fr : Nat) (d : Dt), k ≤ s.size + 1 ∧ i = .int .i64 k ∧ f = .int .i64 fr ∧ Hid (Blk wr w.heap.size 96 (rowR d) ∧ Below w.heap.size w wr ∧ ScanAt s.data.toList k fr d ∧ Small d)) (fun _ i _ => s.size + 1 - (RowKit.intOf i).toNat)
  case atStart => exact ⟨0, 0, dt0, by omega, rfl, rfl, H0⟩
  case round =>
    obtain ⟨k, fr, d, hk, rfl, rfl, hh⟩ := hrel
    obtain ⟨hb, hbel, hsc, hsm⟩ := hh.out
    have Hb := hid hb
    have Hbel := hid hbel
    have Hsm := hid hsm
    by_cases hlt : k < s.size
    · have hl : k < s.data.toList.length := by rw [Hsl.out]; exact hlt
      obtain ⟨c, hc⟩ : ∃ c, s[k]'hlt = c := ⟨_, rfl⟩
      have hcl : s.data.toList[k]'hl = c := hc
      have hks : k ≤ s.size := by omega
      cases hbe : betB c with
      | false =>
        obtain ⟨hf, hn⟩ := scanAt_in hsc hl (by rw [hcl]; exact hbe)
        have Hn := hid hn
        have Hbe := hid hbe
        clear hh hb hbel hsc hsm hcl hl hn hbe
        go_wp2_with (go_at_call 73; refine (betR_is c false Hbe.out _).mono ?_; rintro e w' ⟨rfl, rfl⟩)
        go_roundw
        case rel => exact ⟨k + 1, fr, d, by omega, by go_num, rfl, hid ⟨Hb.out, Hbel.out, Hn.out, Hsm.out⟩⟩
        case measure => simp [RowKit.intOf]; omega
      | true =>
        obtain ⟨hf, hn⟩ := scanAt_bet hsc hl (by rw [hcl]; exact hbe)
        have Hbe := hid hbe
        by_cases hfk : fr = k
        · subst hfk
          rw [take_nil, word0_nil] at hn
          have Hn := hid hn
          have hgt : ¬ (fr : Int) > (fr : Int) := by omega
          clear hh hb hbel hsc hsm hcl hl hn hbe
          go_wp2_with (go_at_call 73; refine (betR_is c true Hbe.out _).mono ?_; rintro e w' ⟨rfl, rfl⟩)
          go_roundw
          case rel => exact ⟨fr + 1, fr + 1, d, by omega, by go_num, by go_num, hid ⟨Hb.out, Hbel.out, Hn.out, Hsm.out⟩⟩
          case measure => simp [RowKit.intOf]; omega
        · rw [← ext_list] at hn
          have Hn := hid hn
          have hgt : (k : Int) > (fr : Int) := by omega
          have HW := hid (wordR_any w.heap.size w.heap.size d (s.extract fr k) (by have := ext_le s fr k; omega) wr (Nat.le_refl _) hb)
          clear hh hb hbel hsc hsm hcl hl hn hbe hfk
          go_wp2_with (first
            | (go_at_call 73; refine (betR_is c true Hbe.out _).mono ?_; rintro e w' ⟨rfl, rfl⟩)
            | (go_at_call 74; refine HW.out.mono ?_; rintro e w4 ⟨rfl, hb4, hbel4⟩; have Hb4 := hid hb4; have Hbel4 := hid (Hbel.out.trans hbel4); clear hb4 hbel4))
          go_roundw
          case rel => exact ⟨k + 1, k + 1, _, by omega, by go_num, by go_num, hid ⟨Hb4.out, Hbel4.out, Hn.out, Hsm.out.word _⟩⟩
          case measure => simp [RowKit.intOf]; omega
    · by_cases hlt2 : k = s.size
      · obtain ⟨hf, hn⟩ := scanAt_last hsc (by rw [Hsl.out]; exact hlt2)
        have hks : k ≤ s.size := by omega
        have hks2 : ¬ k < s.size := by omega
        by_cases hfk : fr = k
        · subst hfk
          rw [take_nil, word0_nil] at hn
          have Hn := hid hn
          have hgt : ¬ (fr : Int) > (fr : Int) := by omega
          clear hh hb hbel hsc hsm hn hlt2
          go_wp2
          go_roundw
          case rel => exact ⟨fr + 1, fr + 1, d, by omega, by go_num, by go_num, hid ⟨Hb.out, Hbel.out, Hn.out, Hsm.out⟩⟩
          case measure => simp [RowKit.intOf]; omega
        · rw [← ext_list] at hn
          have Hn := hid hn
          have hgt : (k : Int) > (fr : Int) := by omega
          have HW := hid (wordR_any w.heap.size w.heap.size d (s.extract fr k) (by have := ext_le s fr k; omega) wr (Nat.le_refl _) hb)
          clear hh hb hbel hsc hsm hn hlt2 hfk
          go_wp2_with (go_at_call 74; refine HW.out.mono ?_; rintro e w4 ⟨rfl, hb4, hbel4⟩; have Hb4 := hid hb4; have Hbel4 := hid (Hbel.out.trans hbel4); clear hb4 hbel4)
          go_roundw
          case rel => exact ⟨k + 1, k + 1, _, by omega, by go_num, by go_num, hid ⟨Hb4.out, Hbel4.out, Hn.out, Hsm.out.word _⟩⟩
          case measure => simp [RowKit.intOf]; omega
      · have hge : ¬ k ≤ s.size := by omega
        have hd := scanAt_end hsc (by rw [Hsl.out]; omega)
        clear hh hb hbel hsc hsm hlt2
        have hsm := Hsm.out
        rw [hd] at hsm
        subst hd
        obtain ⟨d, hdd⟩ : ∃ d, d = dateP s.data.toList := ⟨_, rfl⟩
        rw [← hdd] at Hb hsm
        have Hdd := hid hdd
        have hyb : d.year.getD 0 ≤ 9999 := by
          cases hy : d.year with
          | none => simp
          | some y => exact hsm.y y hy
        obtain ⟨N, hN⟩ : ∃ N, N = d.month := ⟨_, rfl⟩
        obtain ⟨Y, hY⟩ : ∃ Y, Y = d.year.getD 0 := ⟨_, rfl⟩
        obtain ⟨K, hK⟩ : ∃ K, K = d.day.getD 0 := ⟨_, rfl⟩
        obtain ⟨h, hh⟩ : ∃ h, h = (d.clock.getD (0, 0, 0)).1 := ⟨_, rfl⟩
        obtain ⟨i, hi⟩ : ∃ i, i = (d.clock.getD (0, 0, 0)).2.1 := ⟨_, rfl⟩
        obtain ⟨x, hx⟩ : ∃ x, x = (d.clock.getD (0, 0, 0)).2.2 := ⟨_, rfl⟩
        obtain ⟨t0, ht0⟩ : ∃ t, t = d.clock.isSome := ⟨_, rfl⟩
        obtain ⟨t1, ht1⟩ : ∃ t, t = d.day.isSome := ⟨_, rfl⟩
        obtain ⟨t3, ht3⟩ : ∃ t, t = d.year.isSome := ⟨_, rfl⟩
        have hb2 : Blk wr w.heap.size 96 (row9 h i x K N Y t0 t1 t3) := Hb.out.eq (by rw [hh, hi, hx, hK, hN, hY, ht0, ht1, ht3]; rfl)
        rw [← hY] at hyb
        have f5 := hb2.free 5
        have c0 : wr.cell? ⟨w.heap.size, 0, none⟩ = some (.int .i64 h) := hb2.cell rfl
        have c1 : wr.cell? ⟨w.heap.size, 1, none⟩ = some (.int .i64 i) := hb2.cell rfl
        have c2 : wr.cell? ⟨w.heap.size, 2, none⟩ = some (.int .i64 x) := hb2.cell rfl
        have c3 : wr.cell? ⟨w.heap.size, 3, none⟩ = some (.int .i64 K) := hb2.cell rfl
        have c4 : wr.cell? ⟨w.heap.size, 4, none⟩ = some (.int .i64 N) := hb2.cell rfl
        have c5 : wr.cell? ⟨w.heap.size, 5, none⟩ = some (.int .i64 Y) := hb2.cell rfl
        have c6 : wr.cell? ⟨w.heap.size, 6, none⟩ = some (.bool t0) := hb2.cell rfl
        have c7 : wr.cell? ⟨w.heap.size, 7, none⟩ = some (.bool t1) := hb2.cell rfl
        have c8 : wr.cell? ⟨w.heap.size, 8, none⟩ = some (.bool t3) := hb2.cell rfl
        have Hyes : Hid (t0 = true → t1 = true → N ≠ 0 → t3 = true → ¬ fixY Y < 1601 → dateV d = secVal (fixY Y : Nat) N K h i x) := hid (fun a b c e f => by
          unfold dateV
          rw [if_pos (full_5 (ht0 ▸ a) (ht1 ▸ b) (hN ▸ c) (ht3 ▸ e) (hY ▸ f)), hY, hN, hK, hh, hi, hx])
        have Hno : Hid (t0 = false ∨ t1 = false ∨ N = 0 ∨ t3 = false ∨ fixY Y < 1601 → dateV d = .tuple #[.int .i64 0, .bool false]) := hid (by
          rintro (a | a | a | a | a)
          · exact dateV_no (full_0 (ht0 ▸ a))
          · exact dateV_no (full_1 (ht1 ▸ a))
          · exact dateV_no (full_2 (hN ▸ a))
          · exact dateV_no (full_3 (ht3 ▸ a))
          · exact dateV_no (full_4 (hY ▸ a)))
        have Hend : Hid (∀ (wf : World) (e : Ending), Below w.heap.size w wf → e = .returned (dateV d) → e = .returned (dateV (dateP s.data.toList)) ∧ Below w.heap.size w wf) := hid (fun wf e h1 h2 => ⟨by rw [h2, Hdd.out], h1⟩)
        clear hdd hN hY hK hh hi hx ht0 ht1 ht3 hb2 hsm
        by_cases hy0 : Y < 70
        · have Hfix := hid (show fixY Y = Y + 2000 from if_pos hy0)
          have y1 : ¬ (70 ≤ Y) := by omega
          have y2 : Y ≤ 69 := by omega
          cases t0 with
          | false =>
            go_wp2
            go_ret2
            exact Hend.out _ _ (by exact Hbel.out.setCell (Nat.le_refl _) _) (ret_val (Hno.out (.inl (by simp))).symm)
          | true =>
            cases t1 with
            | false =>
              go_wp2
              go_ret2
              exact Hend.out _ _ (by exact Hbel.out.setCell (Nat.le_refl _) _) (ret_val (Hno.out (.inr (.inl (by simp)))).symm)
            | true =>
              by_cases hn : N = 0
              · have hn0 : ((N : Int) == 0) = true := by rw [hn]; rfl
                have HE := hid (Hno.out (.inr (.inr (.inl hn))))
                clear hn
                go_wp2
                go_ret2
                exact Hend.out _ _ (by exact Hbel.out.setCell (Nat.le_refl _) _) (ret_val HE.out.symm)
              have hn0 : ((N : Int) == 0) = false := by rw [beq_eq_false_iff_ne]; omega
              cases t3 with
              | false =>
                go_wp2
                go_ret2
                exact Hend.out _ _ (by exact Hbel.out.setCell (Nat.le_refl _) _) (ret_val (Hno.out (.inr (.inr (.inr (.inl (by simp)))))).symm)
              | true =>
                have hlow : ¬ fixY Y < 1601 := by rw [Hfix.out]; omega
                obtain ⟨v, o, hv⟩ : ∃ v o, secVal (fixY Y : Nat) N K h i x = .tuple #[.int .i64 v, .bool o] := by
                  unfold secVal; split
                  · exact ⟨_, _, rfl⟩
                  · exact ⟨_, _, rfl⟩
                have HS := hid (secondsR_any (fixY Y : Nat) N K h i x)
                rw [hv] at HS
                have HE := hid ((Hyes.out rfl rfl hn rfl hlow).trans hv)
                rw [Hfix.out] at HS
                clear hv hn hlow
                go_wp2_with (go_at_call 75; refine (HS.out _).mono ?_; rintro e w5 ⟨rfl, rfl⟩)
                go_ret2
                exact Hend.out _ _ (by exact Hbel.out.setCell (Nat.le_refl _) _) (ret_val HE.out.symm)
        by_cases hy1 : Y < 100
        · have Hfix := hid (show fixY Y = Y + 1900 from by unfold fixY; rw [if_neg hy0, if_pos hy1])
          have y1 : 70 ≤ Y := by omega
          have y2 : Y ≤ 99 := by omega
          have y3 : ¬ Y + 1900 ≤ 69 := by omega
          cases t0 with
          | false =>
            go_wp2
            go_ret2
            exact Hend.out _ _ (by exact Hbel.out.setCell (Nat.le_refl _) _) (ret_val (Hno.out (.inl (by simp))).symm)
          | true =>
            cases t1 with
            | false =>
              go_wp2
              go_ret2
              exact Hend.out _ _ (by exact Hbel.out.setCell (Nat.le_refl _) _) (ret_val (Hno.out (.inr (.inl (by simp)))).symm)
            | true =>
              by_cases hn : N = 0
              · have hn0 : ((N : Int) == 0) = true := by rw [hn]; rfl
                have HE := hid (Hno.out (.inr (.inr (.inl hn))))
                clear hn
                go_wp2
                go_ret2
                exact Hend.out _ _ (by exact Hbel.out.setCell (Nat.le_refl _) _) (ret_val HE.out.symm)
              have hn0 : ((N : Int) == 0) = false := by rw [beq_eq_false_iff_ne]; omega
              cases t3 with
              | false =>
                go_wp2
                go_ret2
                exact Hend.out _ _ (by exact Hbel.out.setCell (Nat.le_refl _) _) (ret_val (Hno.out (.inr (.inr (.inr (.inl (by simp)))))).symm)
              | true =>
                have hlow : ¬ fixY Y < 1601 := by rw [Hfix.out]; omega
                obtain ⟨v, o, hv⟩ : ∃ v o, secVal (fixY Y : Nat) N K h i x = .tuple #[.int .i64 v, .bool o] := by
                  unfold secVal; split
                  · exact ⟨_, _, rfl⟩
                  · exact ⟨_, _, rfl⟩
                have HS := hid (secondsR_any (fixY Y : Nat) N K h i x)
                rw [hv] at HS
                have HE := hid ((Hyes.out rfl rfl hn rfl hlow).trans hv)
                rw [Hfix.out] at HS
                clear hv hn hlow
                go_wp2_with (go_at_call 75; refine (HS.out _).mono ?_; rintro e w5 ⟨rfl, rfl⟩)
                go_ret2
                exact Hend.out _ _ (by exact Hbel.out.setCell (Nat.le_refl _) _) (ret_val HE.out.symm)
        have Hfix := hid (show fixY Y = Y from by unfold fixY; rw [if_neg hy0, if_neg hy1])
        have y1 : 70 ≤ Y := by omega
        have y2 : ¬ Y ≤ 99 := by omega
        have y3 : ¬ Y ≤ 69 := by omega
        cases t0 with
        | false =>
          go_wp2
          go_ret2
          exact Hend.out _ _ (by exact Hbel.out) (ret_val (Hno.out (.inl (by simp))).symm)
        | true =>
          cases t1 with
          | false =>
            go_wp2
            go_ret2
            exact Hend.out _ _ (by exact Hbel.out) (ret_val (Hno.out (.inr (.inl (by simp)))).symm)
          | true =>
            by_cases hn : N = 0
            · have hn0 : ((N : Int) == 0) = true := by rw [hn]; rfl
              have HE := hid (Hno.out (.inr (.inr (.inl hn))))
              clear hn
              go_wp2
              go_ret2
              exact Hend.out _ _ (by exact Hbel.out) (ret_val HE.out.symm)
            have hn0 : ((N : Int) == 0) = false := by rw [beq_eq_false_iff_ne]; omega
            cases t3 with
            | false =>
              go_wp2
              go_ret2
              exact Hend.out _ _ (by exact Hbel.out) (ret_val (Hno.out (.inr (.inr (.inr (.inl (by simp)))))).symm)
            | true =>
              by_cases hlow : fixY Y < 1601
              · have HE := hid (Hno.out (.inr (.inr (.inr (.inr hlow)))))
                have hl2 : Y < 1601 := by rw [Hfix.out] at hlow; exact hlow
                clear hlow hn
                go_wp2
                go_ret2
                exact Hend.out _ _ (by exact Hbel.out) (ret_val HE.out.symm)
              have hl2 : ¬ Y < 1601 := by rw [Hfix.out] at hlow; exact hlow
              obtain ⟨v, o, hv⟩ : ∃ v o, secVal (fixY Y : Nat) N K h i x = .tuple #[.int .i64 v, .bool o] := by
                unfold secVal; split
                · exact ⟨_, _, rfl⟩
                · exact ⟨_, _, rfl⟩
              have HS := hid (secondsR_any (fixY Y : Nat) N K h i x)
              rw [hv] at HS
              have HE := hid ((Hyes.out rfl rfl hn rfl hlow).trans hv)
              rw [Hfix.out] at HS
              clear hv hn hlow
              go_wp2_with (go_at_call 75; refine (HS.out _).mono ?_; rintro e w5 ⟨rfl, rfl⟩)
              go_ret2
              exact Hend.out _ _ (by exact Hbel.out) (ret_val HE.out.symm)
end Go.Proofs.YthfndlphhgchnaaGreatDoor
