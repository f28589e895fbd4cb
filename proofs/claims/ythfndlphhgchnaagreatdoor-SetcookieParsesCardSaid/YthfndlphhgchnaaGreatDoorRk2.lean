/- Walk: the reference's clock. -/
import Derived.Test.YthfndlphhgchnaaGreatDoorRk1
namespace Go.Proofs.YthfndlphhgchnaaGreatDoor
open Go.RowKit Go.Lib Go.Proofs.Foot

theorem results_four {fn : Func} {t u v x : Tmp} (h : fn.results = #[.tmp t, .tmp u, .tmp v, .tmp x]) (tmps : Array Value) (P : Program) (w : World) :
    (results fn tmps).run P w = .ok (.tuple #[tmps.getD t undef, tmps.getD u undef, tmps.getD v undef, tmps.getD x undef]) w := by simp [results, h]

/-- How a text begins: no number; a number alone; a number and another byte; a number and a colon. -/
theorem step_cases (s : ByteArray) :
    numP s.data.toList 1 2 = none ∨
    (∃ h k, numP s.data.toList 1 2 = some h ∧ (digsP s.data.toList).length = k ∧ 1 ≤ k ∧ k = s.size ∧ colonP (restP s.data.toList) = none) ∨
    (∃ h k, ∃ c : UInt8, ∃ hk : k < s.size, numP s.data.toList 1 2 = some h ∧ (digsP s.data.toList).length = k ∧ 1 ≤ k ∧ s[k]'hk = c ∧ c.toNat ≠ 58 ∧ colonP (restP s.data.toList) = none) ∨
    (∃ h k, ∃ c : UInt8, ∃ hk : k < s.size, numP s.data.toList 1 2 = some h ∧ (digsP s.data.toList).length = k ∧ 1 ≤ k ∧ s[k]'hk = c ∧ c.toNat = 58 ∧ colonP (restP s.data.toList) = some (s.extract (k + 1) s.size).data.toList) := by
  cases hn : numP s.data.toList 1 2 with
  | none => exact .inl rfl
  | some h =>
    right
    obtain ⟨⟨n1, n2⟩, _⟩ := numP_some hn
    have hl := restP_length s.data.toList
    have hd := digs_rest s.data.toList
    rw [← Lib.size_eq] at hl
    by_cases hk : (digsP s.data.toList).length < s.size
    · have hlt : (digsP s.data.toList).length < s.data.toList.length := by rw [← Lib.size_eq]; exact hk
      have hr : restP s.data.toList = s.data.toList.drop (digsP s.data.toList).length := by
        have : (digsP s.data.toList ++ restP s.data.toList).drop (digsP s.data.toList).length = restP s.data.toList := List.drop_left
        rw [hd] at this; exact this.symm
      rw [List.drop_eq_getElem_cons hlt] at hr
      right
      by_cases h58 : (s[(digsP s.data.toList).length]'hk).toNat = 58
      · right
        refine ⟨h, _, _, hk, rfl, rfl, n1, rfl, h58, ?_⟩
        have hc : s.data.toList[(digsP s.data.toList).length]'hlt = 58 := UInt8.toNat.inj h58
        rw [hr, hc]
        show some _ = some _
        congr 1
        rw [extract_eq, List.take_of_length_le (by rw [List.length_drop, ← Lib.size_eq]; omega)]
      · left
        refine ⟨h, _, _, hk, rfl, rfl, n1, rfl, h58, ?_⟩
        rw [hr]
        unfold colonP
        split
        · rename_i e
          injection e with e1 e2
          exact absurd (congrArg UInt8.toNat e1) h58
        · rfl
    · left
      have hr : restP s.data.toList = [] := List.eq_nil_of_length_eq_zero (by omega)
      exact ⟨h, _, rfl, rfl, n1, by omega, by rw [hr]; rfl⟩

/-- What clock answers. -/
def ClockR (o : Option (Nat × Nat × Nat)) (w : World) (e : Ending) (w' : World) : Prop :=
  (∃ a b c : Int, e = .returned (.tuple #[.int .i64 a, .int .i64 b, .int .i64 c, .bool o.isSome]) ∧ ∀ t, o = some t → a = t.1 ∧ b = t.2.1 ∧ c = t.2.2) ∧ w = w'
theorem clockR_no {a b c : Int} {e : Ending} {w : World} {o : Option (Nat × Nat × Nat)} (h : o = none) (he : e = .returned (.tuple #[.int .i64 a, .int .i64 b, .int .i64 c, .bool false])) : ClockR o w e w := by
  subst h; exact ⟨⟨a, b, c, he, fun _ h => by cases h⟩, rfl⟩
theorem clockR_yes {a b c : Nat} {e : Ending} {w : World} {o : Option (Nat × Nat × Nat)} (h : o = some (a, b, c)) (he : e = .returned (.tuple #[.int .i64 a, .int .i64 b, .int .i64 c, .bool true])) : ClockR o w e w := by
  subst h; exact ⟨⟨a, b, c, he, fun _ h => by injection h with h; subst h; exact ⟨rfl, rfl, rfl⟩⟩, rfl⟩
theorem clockP_0 {l : List UInt8} (h : numP l 1 2 = none) : clockP l = none := by unfold clockP; rw [h]; rfl
theorem clockP_1 {l : List UInt8} (h : colonP (restP l) = none) : clockP l = none := by
  unfold clockP; cases numP l 1 2 <;> simp [h]
theorem clockP_2 {l l1 : List UInt8} (h : colonP (restP l) = some l1) (h2 : numP l1 1 2 = none) : clockP l = none := by
  unfold clockP; cases numP l 1 2 <;> simp [h, h2]
theorem clockP_3 {l l1 : List UInt8} (h : colonP (restP l) = some l1) (h2 : colonP (restP l1) = none) : clockP l = none := by
  unfold clockP; cases numP l 1 2 <;> simp [h, h2]
theorem clockP_4 {l l1 l2 : List UInt8} (h : colonP (restP l) = some l1) (h2 : colonP (restP l1) = some l2) (h3 : numP l2 1 2 = none) : clockP l = none := by
  unfold clockP; cases numP l 1 2 <;> simp [h, h2, h3]
theorem clockP_5 {l l1 l2 : List UInt8} {a b c : Nat} (g : numP l 1 2 = some a) (h : colonP (restP l) = some l1) (g1 : numP l1 1 2 = some b) (h2 : colonP (restP l1) = some l2) (h3 : numP l2 1 2 = some c) : clockP l = some (a, b, c) := by
  unfold clockP; simp [g, h, g1, h2, h3]
theorem ext_size (s : ByteArray) {k : Nat} (h : k ≤ s.size) : (s.extract k s.size).size = s.size - k := by
  rw [Lib.size_eq, extract_eq, List.length_take, List.length_drop, ← Lib.size_eq]; omega

set_option maxHeartbeats 2000000 in
set_option maxRecDepth 100000 in
theorem clock_any (s : ByteArray) (hs : s.size ≤ 16777216) (w : World) :
    Calls Tryz.prog 97 #[.string s] w (ClockR (clockP s.data.toList) w) := by
  rcases step_cases s with hn | ⟨h, k, hn, hd, k1, hk, hc⟩ | ⟨h, k, c, hk, hn, hd, k1, hc1, hc2, hc⟩ | ⟨h, k, c, hk, hn, hd, k1, hc1, hc2, hc⟩
  · have HT := hid (fun w => told_no s 1 2 1 2 rfl rfl (by omega) hs hn w)
    have Hf := hid (clockP_0 hn)
    clear hn
    go_enter Tryz.func97, Tryz.ntmps97
    go_wp2_with (go_at_call 98; refine (HT.out _).mono ?_; rintro e w1 ⟨rfl, rfl⟩)
    refine bodyPost_ret (results_four rfl _ _ _) rfl ?_
    exact clockR_no Hf.out rfl
  · have HT := hid (fun w => told_yes s 1 2 1 2 rfl rfl (by omega) (by omega) hs h hn w)
    rw [hd] at HT
    have Hf := hid (clockP_1 hc)
    have e1 : ((k : Int) == 0) = false := by rw [beq_eq_false_iff_ne]; omega
    have e2 : ((k : Int) == (s.size : Int)) = true := by rw [beq_iff_eq]; omega
    clear hn hd hc hk
    go_enter Tryz.func97, Tryz.ntmps97
    go_wp2_with (go_at_call 98; refine (HT.out _).mono ?_; rintro e w1 ⟨rfl, rfl⟩)
    refine bodyPost_ret (results_four rfl _ _ _) rfl ?_
    exact clockR_no Hf.out rfl
  · have HT := hid (fun w => told_yes s 1 2 1 2 rfl rfl (by omega) (by omega) hs h hn w)
    rw [hd] at HT
    have Hf := hid (clockP_1 hc)
    have e1 : ((k : Int) == 0) = false := by rw [beq_eq_false_iff_ne]; omega
    have e2 : ((k : Int) == (s.size : Int)) = false := by rw [beq_eq_false_iff_ne]; omega
    have e3 : ((c.toNat : Int) != 58) = true := by rw [bne_iff_ne]; omega
    clear hn hd hc hc2
    go_enter Tryz.func97, Tryz.ntmps97
    go_wp2_with (go_at_call 98; refine (HT.out _).mono ?_; rintro e w1 ⟨rfl, rfl⟩)
    refine bodyPost_ret (results_four rfl _ _ _) rfl ?_
    exact clockR_no Hf.out rfl
  · have HT := hid (fun w => told_yes s 1 2 1 2 rfl rfl (by omega) (by omega) hs h hn w)
    rw [hd] at HT
    have e1 : ((k : Int) == 0) = false := by rw [beq_eq_false_iff_ne]; omega
    have e2 : ((k : Int) == (s.size : Int)) = false := by rw [beq_eq_false_iff_ne]; omega
    have e3 : ((c.toNat : Int) != 58) = false := by rw [hc2]; rfl
    have hts := ext_size s (k := k + 1) (by omega)
    have htle : (s.extract (k + 1) s.size).size ≤ 16777216 := by omega
    have Hc := hid hc
    have Hn := hid hn
    clear hn hd hc hc2 hts
    go_enter Tryz.func97, Tryz.ntmps97
    go_wp2_with fail
    refine (HT.out _).mono ?_
    rintro e w1 ⟨rfl, rfl⟩
    go_wp2_with fail
    generalize s.extract (k + 1) s.size = T at *
    rcases step_cases T with hn | ⟨h', k', hn, hd, k1', hk', hc⟩ | ⟨h', k', c', hk', hn, hd, k1', hc1', hc2, hc⟩ | ⟨h', k', c', hk', hn, hd, k1', hc1', hc2, hc⟩
    · have Hf := hid (clockP_2 Hc.out hn)
      refine (told_no T 1 2 1 2 rfl rfl (by omega) htle hn _).mono ?_
      rintro e w1 ⟨rfl, rfl⟩
      clear hn
      go_wp2
      refine bodyPost_ret (results_four rfl _ _ _) rfl ?_
      exact clockR_no Hf.out rfl
    · have HT2 := hid (fun w => told_yes T 1 2 1 2 rfl rfl (by omega) (by omega) htle h' hn w)
      rw [hd] at HT2
      have Hf := hid (clockP_3 Hc.out hc)
      have e1' : ((k' : Int) == 0) = false := by rw [beq_eq_false_iff_ne]; omega
      have e2' : ((k' : Int) == (T.size : Int)) = true := by rw [beq_iff_eq]; omega
      clear hn hd hc hk'
      refine (HT2.out _).mono ?_
      rintro e w1 ⟨rfl, rfl⟩
      go_wp2
      refine bodyPost_ret (results_four rfl _ _ _) rfl ?_
      exact clockR_no Hf.out rfl
    · have HT2 := hid (fun w => told_yes T 1 2 1 2 rfl rfl (by omega) (by omega) htle h' hn w)
      rw [hd] at HT2
      have Hf := hid (clockP_3 Hc.out hc)
      have e1' : ((k' : Int) == 0) = false := by rw [beq_eq_false_iff_ne]; omega
      have e2' : ((k' : Int) == (T.size : Int)) = false := by rw [beq_eq_false_iff_ne]; omega
      have e3' : ((c'.toNat : Int) != 58) = true := by rw [bne_iff_ne]; omega
      clear hn hd hc hc2
      refine (HT2.out _).mono ?_
      rintro e w1 ⟨rfl, rfl⟩
      go_wp2
      refine bodyPost_ret (results_four rfl _ _ _) rfl ?_
      exact clockR_no Hf.out rfl
    · have HT2 := hid (fun w => told_yes T 1 2 1 2 rfl rfl (by omega) (by omega) htle h' hn w)
      rw [hd] at HT2
      have e1' : ((k' : Int) == 0) = false := by rw [beq_eq_false_iff_ne]; omega
      have e2' : ((k' : Int) == (T.size : Int)) = false := by rw [beq_eq_false_iff_ne]; omega
      have e3' : ((c'.toNat : Int) != 58) = false := by rw [hc2]; rfl
      have hts' := ext_size T (k := k' + 1) (by omega)
      have htle' : (T.extract (k' + 1) T.size).size ≤ 16777216 := by omega
      have Hc2 := hid hc
      have Hn2 := hid hn
      clear hn hd hc hc2 hts'
      refine (HT2.out _).mono ?_
      rintro e w1 ⟨rfl, rfl⟩
      go_wp2_with fail
      generalize T.extract (k' + 1) T.size = U at *
      cases hn : numP U.data.toList 1 2 with
      | none =>
        have Hf := hid (clockP_4 Hc.out Hc2.out hn)
        refine (told_no U 1 2 1 2 rfl rfl (by omega) htle' hn _).mono ?_
        rintro e w1 ⟨rfl, rfl⟩
        clear hn
        go_wp2
        refine bodyPost_ret (results_four rfl _ _ _) rfl ?_
        exact clockR_no Hf.out rfl
      | some x =>
        have Hf := hid (clockP_5 Hn.out Hc.out Hn2.out Hc2.out hn)
        have hpos := (numP_some hn).1.1
        refine (told_yes U 1 2 1 2 rfl rfl (by omega) (by omega) htle' x hn _).mono ?_
        rintro e w1 ⟨rfl, rfl⟩
        clear hn
        generalize (digsP U.data.toList).length = q at *
        have hq : decide (0 < q) = true := decide_eq_true (by omega)
        go_wp2
        refine bodyPost_ret (results_four rfl _ _ _) rfl ?_
        exact clockR_yes Hf.out rfl
end Go.Proofs.YthfndlphhgchnaaGreatDoor
