/- Walk: the reference's directive of chapter 11. -/
import Derived.Test.YtnmdcbneoipllaaDoorSt34
namespace Go.Proofs.YtnmdcbneoipllaaDoor
open Go.RowKit Go.Lib Go.Proofs.Foot

theorem mk_list (l : List UInt8) : ∃ T : ByteArray, T.data.toList = l := ⟨⟨l.toArray⟩, by simp⟩
theorem results_t4 {fn : Func} {t u v x : Tmp} (h : fn.results = #[.tmp t, .tmp u, .tmp v, .tmp x]) (tmps : Array Value) (P : Program) (w : World) :
    (results fn tmps).run P w = .ok (.tuple #[tmps.getD t undef, tmps.getD u undef, tmps.getD v undef, tmps.getD x undef]) w := by simp [results, h]
theorem trimN_is (s T : ByteArray) (hs : s.size ≤ 16777216) (hT : trim s.data.toList = T.data.toList) (w : World) : Calls Tryd.prog 31 #[.string s] w fun e w' => e = .returned (.string T) ∧ w = w' := by
  have := trimR_any s w hs
  rw [hT] at this; exact this
theorem tokenN_is (s : ByteArray) (hs : s.size ≤ 16777216) (b : Bool) (hb : token s.data.toList = b) (w : World) : Calls Tryd.prog 45 #[.string s] w fun e w' => e = .returned (.bool b) ∧ w = w' := by
  have := refToken_any s w (by unfold maxLen; omega)
  rw [hb] at this; exact this
theorem lowerN_is (s T : ByteArray) (hs : s.size ≤ 16777216) (hT : lower s.data.toList = T.data.toList) (w : World) : Calls Tryd.prog 44 #[.string s] w fun e w' => e = .returned (.string T) ∧ Below w.heap.size w w' := by
  have := lowerR_any s w (by unfold maxLen; omega)
  rw [hT] at this; exact this
def DirP (x : ByteArray) (w : World) (e : Ending) (w' : World) : Prop := ∃ (N V : ByteArray) (has ok : Bool), e = .returned (.tuple #[.string N, .string V, .bool has, .bool ok]) ∧ dirR x.data.toList = (if ok = true then some (N.data.toList, V.data.toList, has) else none) ∧ N.size ≤ 65536 ∧ V.size ≤ 65536 ∧ Below w.heap.size w w'
theorem noEq_snoc {l : List UInt8} {k : Nat} {c : UInt8} (h : ∀ x ∈ l.take k, noEq x = true) (hk : l[k]? = some c) (hc : noEq c = true) : ∀ x ∈ l.take (k + 1), noEq x = true := by
  intro x hx
  rw [List.take_add_one, hk] at hx
  rcases List.mem_append.1 hx with hx | hx
  · exact h x hx
  · simp at hx; rw [hx]; exact hc
theorem while_at {l : List UInt8} {k : Nat} {c : UInt8} (h : ∀ x ∈ l.take k, noEq x = true) (hk : l[k]? = some c) (hc : noEq c = false) : l.takeWhile noEq = l.take k ∧ l.dropWhile noEq = c :: l.drop (k + 1) := by
  have e : l = l.take k ++ c :: l.drop (k + 1) := by rw [← drop_at hk, List.take_append_drop]
  obtain ⟨a, ha⟩ : ∃ a, a = l.take k := ⟨_, rfl⟩
  obtain ⟨b, hb⟩ : ∃ b, b = l.drop (k + 1) := ⟨_, rfl⟩
  rw [← ha] at h e ⊢
  rw [← hb] at e ⊢
  rw [e]
  clear e ha hb hk
  induction a with
  | nil => exact ⟨by rw [List.nil_append, List.takeWhile_cons_of_neg (by rw [hc]; decide)], by rw [List.nil_append, List.dropWhile_cons_of_neg (by rw [hc]; decide)]⟩
  | cons d a ih =>
    obtain ⟨i1, i2⟩ := ih fun x hx => h x (List.mem_cons_of_mem _ hx)
    have hd := h d (by simp)
    exact ⟨by rw [List.cons_append, List.takeWhile_cons_of_pos hd, i1], by rw [List.cons_append, List.dropWhile_cons_of_pos hd, i2]⟩
set_option maxHeartbeats 2000000 in
set_option maxRecDepth 100000 in
theorem directiveR_any (s : ByteArray) (hs : s.size ≤ 65536) (w : World) :
    Calls Tryd.prog 32 #[.string s] w (DirP s w) := by
  go_enter Tryd.func32, Tryd.ntmps32
  go_wp2
  go_loop [6] (fun i => ∃ k : Nat, k ≤ s.size ∧ i = .int .i64 k ∧ Hid (∀ x ∈ s.data.toList.take k, noEq x = true)) (fun i => s.size - (RowKit.intOf i).toNat)
  case atStart => exact ⟨0, Nat.zero_le _, rfl, hid (by simp)⟩
  case round =>
    obtain ⟨k, hk, rfl, HK⟩ := hrel
    by_cases hlt : k < s.size
    · obtain ⟨c, hc⟩ : ∃ c, s[k]'hlt = c := ⟨_, rfl⟩
      have hcl := hid (show s.data.toList[k]? = some c by rw [← hc]; exact Lib.data_getElem? s k hlt)
      have c256 : (c.toNat : Int) < 256 := by have := c.toNat_lt; omega
      have hki : (k : Int) < (s.size : Int) := by omega
      have fne : ((k : Int) == (s.size : Int)) = false := by rw [beq_eq_false_iff_ne]; omega
      by_cases c34 : c = 34
      · have g61 : ((c.toNat : Int) != 61) = true := by rw [c34]; rfl
        have g34 : ((c.toNat : Int) != 34) = false := by rw [c34]; rfl
        obtain ⟨hw1, hw2⟩ := while_at HK.out hcl.out (by rw [c34]; rfl)
        have hd := hid (show dirR s.data.toList = none by
          unfold dirR
          rw [hw2]
          simp only
          rw [if_neg (fun h => by rw [c34] at h; exact absurd h.1 (by decide))])
        obtain ⟨P, hP⟩ : ∃ P, P = s.extract 0 k := ⟨_, rfl⟩
        obtain ⟨R, hR⟩ : ∃ R, R = s.extract (k + 1) s.size := ⟨_, rfl⟩
        have slP : ∀ W, (Instr.slice 9 (.string s) none (some (.int .i64 (k : Int))) none).run Tryd.prog W = .ok (.string P) W := fun W => by
          rw [run_slice_string_to_if W _ _ _ _ Tryd.underlying9, hP]
          rw [if_pos (by omega)]; rfl
        have slR : ∀ W, (Instr.slice 9 (.string s) (some (.int .i64 ((k : Int) + 1))) none none).run Tryd.prog W = .ok (.string R) W := fun W => by
          rw [run_slice_string_from_if W _ _ _ _ Tryd.underlying9, hR]
          rw [if_pos (by omega)]; rfl
        have zP : P.size ≤ s.size := by rw [hP, Lib.size_eq, extract_eq]; simp; omega
        have zR : R.size ≤ s.size := by rw [hR, Lib.size_eq, extract_eq]; simp
        obtain ⟨T1, hT1⟩ := mk_list (trim P.data.toList)
        obtain ⟨T2, hT2⟩ := mk_list (trim R.data.toList)
        have H1 := hid (fun w => trimN_is P T1 (by omega) hT1.symm w)
        have H2 := hid (fun w => trimN_is R T2 (by omega) hT2.symm w)
        clear c34 hw1 hw2 hP hR hT1 hT2
        go_wp2_with fail
        refine (H1.out _).mono ?_
        rintro e w' ⟨rfl, rfl⟩
        go_wp2_with fail
        refine (H2.out _).mono ?_
        rintro e w' ⟨rfl, rfl⟩
        go_wp2
        refine bodyPost_ret (results_t4 rfl _ _ _) rfl ?_
        exact ⟨⟨#[]⟩, ⟨#[]⟩, false, false, rfl, by rw [hd.out]; rfl, by decide, by decide, Below.refl _ _⟩
      · have g34 : ((c.toNat : Int) != 34) = true := by simp; intro e; exact c34 (UInt8.toNat.inj (by show c.toNat = 34; omega))
        by_cases c61 : c = 61
        · have g61 : ((c.toNat : Int) != 61) = false := by rw [c61]; rfl
          obtain ⟨hw1, hw2⟩ := while_at HK.out hcl.out (by rw [c61]; rfl)
          obtain ⟨P, hP⟩ : ∃ P, P = s.extract 0 k := ⟨_, rfl⟩
          obtain ⟨R, hR⟩ : ∃ R, R = s.extract (k + 1) s.size := ⟨_, rfl⟩
          have hPl : P.data.toList = s.data.toList.take k := by rw [hP, extract_eq]; simp
          have hRl : R.data.toList = s.data.toList.drop (k + 1) := by
            rw [hR, extract_eq, List.take_of_length_le]
            rw [List.length_drop, ← Lib.size_eq]; exact Nat.le_refl _
          have slP : ∀ W, (Instr.slice 9 (.string s) none (some (.int .i64 (k : Int))) none).run Tryd.prog W = .ok (.string P) W := fun W => by
            rw [run_slice_string_to_if W _ _ _ _ Tryd.underlying9, hP]
            rw [if_pos (by omega)]; rfl
          have slR : ∀ W, (Instr.slice 9 (.string s) (some (.int .i64 ((k : Int) + 1))) none none).run Tryd.prog W = .ok (.string R) W := fun W => by
            rw [run_slice_string_from_if W _ _ _ _ Tryd.underlying9, hR]
            rw [if_pos (by omega)]; rfl
          have zP : P.size ≤ s.size := by rw [Lib.size_eq, hPl, List.length_take, ← Lib.size_eq]; omega
          have zR : R.size ≤ s.size := by rw [Lib.size_eq, hRl, List.length_drop, ← Lib.size_eq]; omega
          obtain ⟨T1, hT1⟩ := mk_list (trim P.data.toList)
          obtain ⟨T2, hT2⟩ := mk_list (trim R.data.toList)
          have z1 : T1.size ≤ s.size := by have := trim_length P.data.toList; rw [Lib.size_eq, hT1]; rw [← Lib.size_eq] at this; omega
          have z2 : T2.size ≤ s.size := by have := trim_length R.data.toList; rw [Lib.size_eq, hT2]; rw [← Lib.size_eq] at this; omega
          have H1 := hid (fun w => trimN_is P T1 (by omega) hT1.symm w)
          have H2 := hid (fun w => trimN_is R T2 (by omega) hT2.symm w)
          have hdir : dirR s.data.toList = if token T1.data.toList = true then (if token T2.data.toList = true then some (lower T1.data.toList, T2.data.toList, true) else (quotR T2.data.toList).map fun v => (lower T1.data.toList, v, true)) else none := by
            unfold dirR
            rw [hw2]
            simp only
            rw [hw1, ← hPl, ← hRl, ← hT1, ← hT2]
            by_cases ht : token T1.data.toList = true
            · rw [if_pos ⟨c61, ht⟩, if_pos ht]
            · rw [if_neg (fun h => ht h.2), if_neg ht]
          cases ht1 : token T1.data.toList with
          | false =>
            have HT := hid (fun w => tokenN_is T1 (by omega) false ht1 w)
            rw [ht1, if_neg (by decide)] at hdir
            have hd := hid hdir
            clear c34 c61 hw1 hw2 hP hR hPl hRl hT1 hT2 hdir ht1
            go_wp2_with fail
            refine (H1.out _).mono ?_
            rintro e w' ⟨rfl, rfl⟩
            go_wp2_with fail
            refine (H2.out _).mono ?_
            rintro e w' ⟨rfl, rfl⟩
            go_wp2_with fail
            refine (HT.out _).mono ?_
            rintro e w' ⟨rfl, rfl⟩
            go_wp2
            refine bodyPost_ret (results_t4 rfl _ _ _) rfl ?_
            exact ⟨⟨#[]⟩, ⟨#[]⟩, false, false, rfl, by rw [hd.out]; rfl, by decide, by decide, Below.refl _ _⟩
          | true =>
            have HT := hid (fun w => tokenN_is T1 (by omega) true ht1 w)
            rw [ht1, if_pos rfl] at hdir
            obtain ⟨LW, hLW⟩ := mk_list (lower T1.data.toList)
            have zL : LW.size ≤ s.size := by rw [Lib.size_eq, hLW, lower_length, ← Lib.size_eq]; exact z1
            have HL := hid (fun w => lowerN_is T1 LW (by omega) hLW.symm w)
            rw [← hLW] at hdir
            cases ht2 : token T2.data.toList with
            | true =>
              have HT2 := hid (fun w => tokenN_is T2 (by omega) true ht2 w)
              rw [ht2, if_pos rfl] at hdir
              have hd := hid hdir
              clear c34 c61 hw1 hw2 hP hR hPl hRl hT1 hT2 hdir ht1 ht2 hLW
              go_wp2_with fail
              refine (H1.out _).mono ?_
              rintro e w' ⟨rfl, rfl⟩
              go_wp2_with fail
              refine (H2.out _).mono ?_
              rintro e w' ⟨rfl, rfl⟩
              go_wp2_with fail
              refine (HT.out _).mono ?_
              rintro e w' ⟨rfl, rfl⟩
              go_wp2_with fail
              refine (HT2.out _).mono ?_
              rintro e w' ⟨rfl, rfl⟩
              go_wp2_with fail
              refine (HL.out _).mono ?_
              rintro e w1 ⟨rfl, hb1⟩
              have B1 := hid hb1
              clear hb1
              go_wp2
              refine bodyPost_ret (results_t4 rfl _ _ _) rfl ?_
              exact ⟨LW, T2, true, true, rfl, by rw [hd.out]; rfl, by omega, by omega, B1.out⟩
            | false =>
              have HT2 := hid (fun w => tokenN_is T2 (by omega) false ht2 w)
              rw [ht2, if_neg (by decide)] at hdir
              have hd := hid hdir
              have HQ := hid (fun w => quotedR_any T2 (by omega) w)
              clear c34 c61 hw1 hw2 hP hR hPl hRl hT1 hT2 hdir ht1 ht2 hLW
              go_wp2_with fail
              refine (H1.out _).mono ?_
              rintro e w' ⟨rfl, rfl⟩
              go_wp2_with fail
              refine (H2.out _).mono ?_
              rintro e w' ⟨rfl, rfl⟩
              go_wp2_with fail
              refine (HT.out _).mono ?_
              rintro e w' ⟨rfl, rfl⟩
              go_wp2_with fail
              refine (HT2.out _).mono ?_
              rintro e w' ⟨rfl, rfl⟩
              go_wp2_with fail
              refine (HQ.out _).mono ?_
              rintro e w0 ⟨V, ok, rfl, hq, hVz, hb0⟩
              have B0 := hid hb0
              have Hq := hid hq
              clear hb0 hq
              go_wp2_with fail
              refine (HL.out _).mono ?_
              rintro e w1 ⟨rfl, hb1⟩
              have B1 := hid (below_chain B0.out hb1)
              clear hb1
              go_wp2
              refine bodyPost_ret (results_t4 rfl _ _ _) rfl ?_
              exact ⟨LW, V, true, ok, rfl, by rw [hd.out, Hq.out]; cases ok <;> rfl, by omega, by omega, B1.out⟩
        · have g61 : ((c.toNat : Int) != 61) = true := by simp; intro e; exact c61 (UInt8.toNat.inj (by show c.toNat = 61; omega))
          have hn := hid (noEq_snoc HK.out hcl.out (decide_eq_true ⟨c61, c34⟩))
          clear c34 c61
          go_wp2
          go_round
          case rel => exact ⟨k + 1, by omega, by go_num, hn⟩
          case measure => simp [RowKit.intOf]; omega
    · have hki : ¬ (k : Int) < (s.size : Int) := by omega
      obtain rfl : k = s.size := by omega
      have feq : ((s.size : Int) == (s.size : Int)) = true := by simp
      have ek : s.data.toList.take s.size = s.data.toList := List.take_of_length_le (by rw [← Lib.size_eq]; exact Nat.le_refl _)
      rw [ek] at HK
      have hdir : dirR s.data.toList = if token s.data.toList = true then some (lower s.data.toList, [], false) else none := by
        unfold dirR
        rw [dropWhile_none HK.out]
      obtain ⟨LW, hLW⟩ := mk_list (lower s.data.toList)
      have zL : LW.size ≤ s.size := by rw [Lib.size_eq, hLW, lower_length, ← Lib.size_eq]; exact Nat.le_refl _
      have HL := hid (fun w => lowerN_is s LW (by omega) hLW.symm w)
      rw [← hLW] at hdir
      obtain ⟨b, hb⟩ : ∃ b, token s.data.toList = b := ⟨_, rfl⟩
      have HT := hid (fun w => tokenN_is s (by omega) b hb w)
      rw [hb] at hdir
      have hd := hid hdir
      clear hdir hb hLW ek
      go_wp2_with fail
      refine (HL.out _).mono ?_
      rintro e w1 ⟨rfl, hb1⟩
      have B1 := hid hb1
      clear hb1
      go_wp2_with fail
      refine (HT.out _).mono ?_
      rintro e w' ⟨rfl, rfl⟩
      go_wp2
      refine bodyPost_ret (results_t4 rfl _ _ _) rfl ?_
      exact ⟨LW, ⟨#[]⟩, false, b, rfl, hd.out, by omega, by decide, B1.out⟩
end Go.Proofs.YtnmdcbneoipllaaDoor
