/- Walk of the law StsAges: an age is digits; with any other byte among them it is refused. -/
import Derived.Test.YtnmdcbneoipllaaDoorStsOthers
import Derived.Deep.RegionWith
namespace Go.Proofs.YtnmdcbneoipllaaDoor
open Go.RowKit Go.Lib Go.Proofs.Foot

/-- 'string(b)', b a row of one known byte. -/
theorem conv1 (c : UInt8) (W : World) (g : Nat) (hc : W.cell? ⟨g, 0, none⟩ = some (.int .u8 c.toNat)) :
    (convert 39 9 (.slice (some ⟨g, 0, none⟩) 1 1)).run Tryd.prog W = .ok (.string ⟨#[c]⟩) W :=
  run_convert_bytes_back (P := Tryd.prog) W 39 9 5 ⟨g, 0, none⟩ 1 [c] Tryd.underlying39 Tryd.underlying5 Tryd.underlying9 (fun j hj => by
    obtain rfl : j = 0 := by simp at hj; omega
    exact hc)
theorem cell1 (c : UInt8) (W : World) : (W.alloc (.cells #[.int .u8 c.toNat] 5)).cell? ⟨W.heap.size, 0, none⟩ = some (.int .u8 c.toNat) := by
  rw [World.cell?_alloc_at _ _ _ _ rfl]; rfl
theorem age_parts (c : UInt8) : (48 ≤ c.toNat ∧ c.toNat ≤ 57) ∨ c.toNat = 32 ∨ c.toNat = 9 ∨ c.toNat = 59 ∨ (¬ (48 ≤ c.toNat ∧ c.toNat ≤ 57) ∧ c.toNat ≠ 32 ∧ c.toNat ≠ 9 ∧ c.toNat ≠ 59) := by omega
theorem bad_at {w0 w : World} (G : GoodP w0) (hb : Below w0.heap.size w0 w) (s : ByteArray) (hs : s.size ≤ 65536) (hp : parseS s.data.toList = none) :
    Calls Tryd.prog 20 #[.string s] w fun e w' => e = .returned (.bool true) ∧ Below w.heap.size w w' := bad_yes s hs trivial hp w (G.below hb)
theorem alive_at {w0 w : World} (G : GoodP w0) (hb : Below w0.heap.size w0 w) :
    Calls Tryd.prog 15 #[] w fun e w' => e = .returned (.bool true) ∧ Below w.heap.size w w' := alive_any w (G.below hb)
set_option maxHeartbeats 8000000 in
set_option maxRecDepth 100000 in
theorem stsAges_at (n : Nat) (hn : (n : Int) < U64) (c a : UInt8) (w : World) (G : GoodP w) :
    Calls Tryd.prog 8 #[.int .u64 n, .int .u8 c.toNat, .int .u8 a.toNat] w fun e w' => e = .returned (.bool true) ∧ Below w.heap.size w w' := by
  have HU := hid hn
  have hU : U64 = 18446744073709551616 := rfl
  have hn' : n < 18446744073709551616 := by omega
  have HD := hid (fun w => digits_any n hn w)
  obtain ⟨D, hD⟩ : ∃ D : ByteArray, D = ⟨(Lib.decDigits n).toArray⟩ := ⟨_, rfl⟩
  have hDz : D.size ≤ 20 := by rw [hD]; exact decT_size (n := n) hn'
  have HDl := hid (show D.data.toList = Lib.decDigits n by rw [hD])
  rw [← hD] at HD
  obtain ⟨m, hm⟩ : ∃ m : Nat, m = min n 2147483647 := ⟨_, rfl⟩
  have hmi : min (n : Int) 2147483647 = (m : Int) := by omega
  have hm1 : m ≤ 2147483647 := by omega
  obtain ⟨A0, hA0⟩ : ∃ r : ByteArray, r = (⟨#[109, 97, 120, 45, 97, 103, 101, 61]⟩ : ByteArray) ++ D := ⟨_, rfl⟩
  have s0 : A0.size = 8 + D.size := by rw [hA0, cat_z]; rfl
  have a0 := add_is hA0 (by decide) (by omega)
  have q0 := hid (show parseS A0.data.toList = some (m, false) by
    have e : A0.data.toList = maxAgeL ++ 61 :: Lib.decDigits n := by rw [hA0, cat_l, HDl.out]; simp [maxAgeL]
    rw [e, ages_ok, hm])
  have HI := hid (fun w G => is_yes A0 (by omega) trivial m false q0.out w G)
  have HG := hid G
  have c256 : (c.toNat : Int) < 256 := by have := c.toNat_lt; omega
  have a256 : (a.toNat : Int) < 256 := by have := a.toNat_lt; omega
  clear hn hU hn' hD hm hA0 s0 q0 G
  rcases age_parts c with h | h | h | h | ⟨h1, h2, h3, h4⟩
  · have f1 : (c.toNat : Int) ≥ 48 := by omega
    have f2 : (c.toNat : Int) ≤ 57 := by omega
    clear h
    go_enter Tryd.func8, Tryd.ntmps8
    go_wp2_with fail
    refine (HD.out _).mono ?_
    rintro e w' ⟨rfl, rfl⟩
    go_wp2_with fail
    refine (HI.out _ HG.out).mono ?_
    rintro e w1 ⟨rfl, hb1⟩
    have B1 := hid hb1
    clear hb1
    go_wp2_with fail
    refine (alive_at HG.out B1.out).mono ?_
    rintro e w2 ⟨rfl, hb2⟩
    have B2 := hid (below_chain B1.out hb2)
    clear hb2
    go_wp2
    go_ret
    exact ⟨rfl, B2.out⟩
  · have f1 : decide ((48 : Int) ≤ (c.toNat : Int)) = false := decide_eq_false (by omega)
    have f2 : ((c.toNat : Int) == 32) = true := by rw [beq_iff_eq]; omega
    clear h
    go_enter Tryd.func8, Tryd.ntmps8
    go_wp2_with fail
    refine (HD.out _).mono ?_
    rintro e w' ⟨rfl, rfl⟩
    go_wp2_with fail
    refine (HI.out _ HG.out).mono ?_
    rintro e w1 ⟨rfl, hb1⟩
    have B1 := hid hb1
    clear hb1
    go_wp2_with fail
    refine (alive_at HG.out B1.out).mono ?_
    rintro e w2 ⟨rfl, hb2⟩
    have B2 := hid (below_chain B1.out hb2)
    clear hb2
    go_wp2
    go_ret
    exact ⟨rfl, B2.out⟩
  · have f1 : decide ((48 : Int) ≤ (c.toNat : Int)) = false := decide_eq_false (by omega)
    have f2 : ((c.toNat : Int) == 32) = false := by rw [beq_eq_false_iff_ne]; omega
    have f3 : ((c.toNat : Int) == 9) = true := by rw [beq_iff_eq]; omega
    clear h
    go_enter Tryd.func8, Tryd.ntmps8
    go_wp2_with fail
    refine (HD.out _).mono ?_
    rintro e w' ⟨rfl, rfl⟩
    go_wp2_with fail
    refine (HI.out _ HG.out).mono ?_
    rintro e w1 ⟨rfl, hb1⟩
    have B1 := hid hb1
    clear hb1
    go_wp2_with fail
    refine (alive_at HG.out B1.out).mono ?_
    rintro e w2 ⟨rfl, hb2⟩
    have B2 := hid (below_chain B1.out hb2)
    clear hb2
    go_wp2
    go_ret
    exact ⟨rfl, B2.out⟩
  · have f1 : (c.toNat : Int) ≥ 48 := by omega
    have f1' : ¬ (c.toNat : Int) ≤ 57 := by omega
    have f2 : ((c.toNat : Int) == 32) = false := by rw [beq_eq_false_iff_ne]; omega
    have f3 : ((c.toNat : Int) == 9) = false := by rw [beq_eq_false_iff_ne]; omega
    have f4 : ((c.toNat : Int) == 59) = true := by rw [beq_iff_eq]; omega
    clear h
    go_enter Tryd.func8, Tryd.ntmps8
    go_wp2_with fail
    refine (HD.out _).mono ?_
    rintro e w' ⟨rfl, rfl⟩
    go_wp2_with fail
    refine (HI.out _ HG.out).mono ?_
    rintro e w1 ⟨rfl, hb1⟩
    have B1 := hid hb1
    clear hb1
    go_wp2_with fail
    refine (alive_at HG.out B1.out).mono ?_
    rintro e w2 ⟨rfl, hb2⟩
    have B2 := hid (below_chain B1.out hb2)
    clear hb2
    go_wp2
    go_ret
    exact ⟨rfl, B2.out⟩
  · have f2 : ((c.toNat : Int) == 32) = false := by rw [beq_eq_false_iff_ne]; omega
    have f3 : ((c.toNat : Int) == 9) = false := by rw [beq_eq_false_iff_ne]; omega
    have f4 : ((c.toNat : Int) == 59) = false := by rw [beq_eq_false_iff_ne]; omega
    have hcd : digB c = false := digB_false h1
    obtain ⟨k, hk⟩ : ∃ k : Nat, (a.toNat : Int) % ((D.size : Int) + 1) = (k : Int) := Int.eq_ofNat_of_zero_le (Int.emod_nonneg _ (by omega))
    have hkD : k ≤ D.size := by
      have := Int.emod_lt_of_pos (a.toNat : Int) (show (0 : Int) < (D.size : Int) + 1 by omega)
      omega
    have ek : (a.toNat : Int).tmod ((D.size : Int) + 1) = (k : Int) := by rw [Int.tmod_eq_emod_of_nonneg (by omega)]; exact hk
    obtain ⟨P, hP⟩ : ∃ P, P = D.extract 0 k := ⟨_, rfl⟩
    obtain ⟨R, hR⟩ : ∃ R, R = D.extract k D.size := ⟨_, rfl⟩
    have hPl : P.data.toList = D.data.toList.take k := by rw [hP, extract_eq]; simp
    have hRl : R.data.toList = D.data.toList.drop k := by rw [hR, extract_eq]; rw [List.take_of_length_le]; rw [List.length_drop, ← Lib.size_eq]; omega
    have slP : ∀ W, (Instr.slice 9 (.string D) none (some (.int .i64 (k : Int))) none).run Tryd.prog W = .ok (.string P) W := fun W => by
      rw [run_slice_string_to_if W _ _ _ _ Tryd.underlying9, hP]
      rw [if_pos (by omega)]; rfl
    have slR : ∀ W, (Instr.slice 9 (.string D) (some (.int .i64 (k : Int))) none none).run Tryd.prog W = .ok (.string R) W := fun W => by
      rw [run_slice_string_from_if W _ _ _ _ Tryd.underlying9, hR]
      rw [if_pos (by omega)]; rfl
    have zP : P.size ≤ 20 := by rw [Lib.size_eq, hPl]; have := List.length_take_le k D.data.toList; rw [List.length_take, ← Lib.size_eq]; omega
    have zR : R.size ≤ 20 := by rw [Lib.size_eq, hRl, List.length_drop, ← Lib.size_eq]; omega
    obtain ⟨A1, hA1⟩ : ∃ r : ByteArray, r = (⟨#[109, 97, 120, 45, 97, 103, 101, 61]⟩ : ByteArray) ++ P := ⟨_, rfl⟩
    obtain ⟨A2, hA2⟩ : ∃ r : ByteArray, r = A1 ++ ⟨#[c]⟩ := ⟨_, rfl⟩
    obtain ⟨A3, hA3⟩ : ∃ r : ByteArray, r = A2 ++ R := ⟨_, rfl⟩
    have s1 : A1.size = 8 + P.size := by rw [hA1, cat_z]; rfl
    have s2 : A2.size = 8 + P.size + 1 := by rw [hA2, cat_z, s1]; rfl
    have s3 : A3.size = 8 + P.size + 1 + R.size := by rw [hA3, cat_z, s2]
    have a1 := add_is hA1 (by decide) (by omega)
    have a2 := add_is hA2 (by omega) (by show (1 : Int) ≤ _; decide)
    have a3 := add_is hA3 (by omega) (by omega)
    have q3 := hid (show parseS A3.data.toList = none by
      have e : A3.data.toList = maxAgeL ++ 61 :: (P.data.toList ++ c :: R.data.toList) := by rw [hA3, cat_l, hA2, cat_l, hA1, cat_l]; simp [maxAgeL]
      rw [e]
      refine ages_bad (fun d hd => ?_) (fun d hd => ?_) hcd (fun h => h2 (by rw [h]; rfl)) (fun h => h3 (by rw [h]; rfl)) (fun h => h4 (by rw [h]; rfl))
      · rw [hPl, HDl.out] at hd; exact decDigits_all n d (List.mem_of_mem_take hd)
      · rw [hRl, HDl.out] at hd; exact decDigits_all n d (List.mem_of_mem_drop hd))
    have z3 := hid (show A3.size ≤ 65536 by omega)
    have hf : (decide ((48 : Int) ≤ (c.toNat : Int)) = false) ∨ (decide ((48 : Int) ≤ (c.toNat : Int)) = true ∧ decide ((c.toNat : Int) ≤ 57) = false) := by
      by_cases hh : (48 : Int) ≤ (c.toNat : Int)
      · exact .inr ⟨decide_eq_true hh, decide_eq_false (by omega)⟩
      · exact .inl (decide_eq_false hh)
    have hk1 : IntKind.i64.wrap ((D.size : Int) + 1) = (D.size : Int) + 1 := IntWalk.i64_in _ (by omega)
    clear h1 h2 h3 h4 hcd hP hR hPl hRl hA1 hA2 hA3 s1 s2 s3
    rcases hf with f1 | ⟨f1, f1'⟩
    all_goals
      go_enter Tryd.func8, Tryd.ntmps8
      go_wp2_with fail
      refine (HD.out _).mono ?_
      rintro e w' ⟨rfl, rfl⟩
      go_wp2_with fail
      refine (HI.out _ HG.out).mono ?_
      rintro e w1 ⟨rfl, hb1⟩
      have B1 := hid hb1
      clear hb1
      go_wp2
      clear hk hk1 ek f1 f2 f3 f4
      refine wp_region_held_drew (S := fun W => Below w.heap.size w W) (by kernel_rfl) B1.out.drew (fun hHeld => ?_)
      refine wpAnyH_ready (rs := [0]) (by kernel_rfl) (by simp) ?_
      refine AllReadyH.cons (o := _) rfl (fun K hK => ?_) AllReadyH.nil
      go_simp
      refine (alive_at HG.out hHeld).mono ?_
      rintro e w5 ⟨rfl, hb5⟩
      have e5 := conv1 c (w5.alloc (.cells #[.int .u8 c.toNat] 5)) w5.heap.size (cell1 c w5)
      go_wp2_with fail
      have B5 : Below w.heap.size w w5 := below_chain hHeld hb5
      clear hb5 hHeld
      refine hK.out _ _ B5 (fun hHeld => ?_)
      clear hK K
      try simp only [Act.put, List.getElem_toArray, List.getElem_cons_succ, List.getElem_cons_zero, List.setIfInBounds_toArray, List.set_cons_zero, List.set_cons_succ]
      refine wpAnyH_take (i := 1) (oi := _) (v := ?_) rfl (by kernel_rfl) (by kernel_rfl) (by kernel_rfl) (fun _ _ _ h => h) (Or.inl ⟨by rfl, ?_⟩) (by assumption) ?_
      rotate_left
      · intro W hSw
        go_simp
        try (with_reducible rfl)
      try simp only [Act.put, List.getElem_toArray, List.getElem_cons_succ, List.getElem_cons_zero, List.setIfInBounds_toArray, List.set_cons_zero, List.set_cons_succ]
      refine wpAnyH_take (i := 2) (oi := _) (v := ?_) rfl (by kernel_rfl) (by kernel_rfl) (by kernel_rfl) (fun _ _ _ h => h) (Or.inl ⟨by rfl, ?_⟩) (by assumption) ?_
      rotate_left
      · intro W hSw
        go_simp
        try (with_reducible rfl)
      try simp only [Act.put, List.getElem_toArray, List.getElem_cons_succ, List.getElem_cons_zero, List.setIfInBounds_toArray, List.set_cons_zero, List.set_cons_succ]
      refine wpAnyH_take (i := 3) (oi := _) (v := ?_) rfl (by kernel_rfl) (by kernel_rfl) (by kernel_rfl) (fun _ _ _ h => h) (Or.inl ⟨by rfl, ?_⟩) (by assumption) ?_
      rotate_left
      · intro W hSw
        go_simp
        try (with_reducible rfl)
      try simp only [Act.put, List.getElem_toArray, List.getElem_cons_succ, List.getElem_cons_zero, List.setIfInBounds_toArray, List.set_cons_zero, List.set_cons_succ]
      refine wpAnyH_take (i := 4) (oi := _) (v := ?_) rfl (by kernel_rfl) (by kernel_rfl) (by kernel_rfl) (fun _ _ _ h => h) (Or.inl ⟨by rfl, ?_⟩) (by assumption) ?_
      rotate_left
      · intro W hSw
        go_simp
        try (with_reducible rfl)
      try simp only [Act.put, List.getElem_toArray, List.getElem_cons_succ, List.getElem_cons_zero, List.setIfInBounds_toArray, List.set_cons_zero, List.set_cons_succ]
      refine wpAnyH_take (i := 5) (oi := _) (v := ?_) rfl (by kernel_rfl) (by kernel_rfl) (by kernel_rfl) (fun _ _ _ h => h) (Or.inl ⟨by rfl, ?_⟩) (by assumption) ?_
      rotate_left
      · intro W hSw
        go_simp
        try (with_reducible rfl)
      try simp only [Act.put, List.getElem_toArray, List.getElem_cons_succ, List.getElem_cons_zero, List.setIfInBounds_toArray, List.set_cons_zero, List.set_cons_succ]
      refine wpAnyH_take (i := 6) (oi := _) (v := ?_) rfl (by kernel_rfl) (by kernel_rfl) (by kernel_rfl) (fun _ _ _ h => h) (Or.inl ⟨by rfl, ?_⟩) (by assumption) ?_
      rotate_left
      · intro W hSw
        go_simp
        try (with_reducible rfl)
      try simp only [Act.put, List.getElem_toArray, List.getElem_cons_succ, List.getElem_cons_zero, List.setIfInBounds_toArray, List.set_cons_zero, List.set_cons_succ]
      refine wpAnyH_take (i := 10) (oi := _) (v := ?_) rfl (by kernel_rfl) (by kernel_rfl) (by kernel_rfl) (fun _ _ _ h => h) (Or.inl ⟨by rfl, ?_⟩) (by assumption) ?_
      rotate_left
      · intro W hSw
        go_simp
        try (with_reducible rfl)
      try simp only [Act.put, List.getElem_toArray, List.getElem_cons_succ, List.getElem_cons_zero, List.setIfInBounds_toArray, List.set_cons_zero, List.set_cons_succ]
      refine wpAnyH_take (i := 11) (oi := _) (v := ?_) rfl (by kernel_rfl) (by kernel_rfl) (by kernel_rfl) (fun _ _ _ h => h) (Or.inl ⟨by rfl, ?_⟩) (by assumption) ?_
      rotate_left
      · intro W hSw
        go_simp
        try (with_reducible rfl)
      try simp only [Act.put, List.getElem_toArray, List.getElem_cons_succ, List.getElem_cons_zero, List.setIfInBounds_toArray, List.set_cons_zero, List.set_cons_succ]
      refine wpAnyH_take (i := 12) (oi := _) (v := ?_) rfl (by kernel_rfl) (by kernel_rfl) (by kernel_rfl) (fun _ _ _ h => h) (Or.inl ⟨by rfl, ?_⟩) (by assumption) ?_
      rotate_left
      · intro W hSw
        go_simp
        try (with_reducible rfl)
      try simp only [Act.put, List.getElem_toArray, List.getElem_cons_succ, List.getElem_cons_zero, List.setIfInBounds_toArray, List.set_cons_zero, List.set_cons_succ]
      refine wpAnyH_ready (rs := [7]) (by kernel_rfl) (by simp) ?_
      refine AllReadyH.cons (o := _) rfl (fun K hK => ?_) AllReadyH.nil
      go_simp
      have B6 : Below w.heap.size w (w5.alloc (.cells #[.int .u8 c.toNat] 5)) := B5.alloc B5.size _
      refine hK.out _ _ B6 (fun hHeld => ?_)
      clear hK K
      try simp only [Act.put, List.getElem_toArray, List.getElem_cons_succ, List.getElem_cons_zero, List.setIfInBounds_toArray, List.set_cons_zero, List.set_cons_succ]
      refine wpAnyH_ready (rs := [8]) (by kernel_rfl) (by simp) ?_
      refine AllReadyH.cons (o := _) rfl (fun K hK => ?_) AllReadyH.nil
      go_simp
      refine hK.out _ _ B6 (fun hHeld => ?_)
      clear hK K
      try simp only [Act.put, List.getElem_toArray, List.getElem_cons_succ, List.getElem_cons_zero, List.setIfInBounds_toArray, List.set_cons_zero, List.set_cons_succ]
      refine wpAnyH_take (i := 9) (oi := _) (v := ?_) rfl (by kernel_rfl) (by kernel_rfl) (by kernel_rfl) (fun _ _ _ h => h) (Or.inl ⟨by rfl, ?_⟩) (by assumption) ?_
      rotate_left
      · intro W hSw
        go_simp
        try (with_reducible rfl)
      try simp only [Act.put, List.getElem_toArray, List.getElem_cons_succ, List.getElem_cons_zero, List.setIfInBounds_toArray, List.set_cons_zero, List.set_cons_succ]
      refine wpAnyH_take (i := 13) (oi := _) (v := ?_) rfl (by kernel_rfl) (by kernel_rfl) (by kernel_rfl) (fun _ _ _ h => h) (Or.inl ⟨by rfl, ?_⟩) (by assumption) ?_
      rotate_left
      · intro W hSw
        go_simp
        try (with_reducible rfl)
      try simp only [Act.put, List.getElem_toArray, List.getElem_cons_succ, List.getElem_cons_zero, List.setIfInBounds_toArray, List.set_cons_zero, List.set_cons_succ]
      refine wpAnyH_ready (rs := [14]) (by kernel_rfl) (by simp) ?_
      refine AllReadyH.cons (o := _) rfl (fun K hK => ?_) AllReadyH.nil
      go_simp
      refine (bad_at HG.out B6 A3 z3.out q3.out).mono ?_
      rintro e w7 ⟨rfl, hb7⟩
      go_wp2_with fail
      have B7 := hid (below_chain B6 hb7)
      refine hK.out _ _ B7.out (fun hHeld => ?_)
      clear hK K
      try simp only [Act.put, List.getElem_toArray, List.getElem_cons_succ, List.getElem_cons_zero, List.setIfInBounds_toArray, List.set_cons_zero, List.set_cons_succ]
      refine wpAnyH_take (i := 15) (oi := _) (v := ?_) rfl (by kernel_rfl) (by kernel_rfl) (by kernel_rfl) (fun _ _ _ h => h) (Or.inl ⟨by rfl, ?_⟩) (by assumption) ?_
      rotate_left
      · intro W hSw
        go_simp
        try (with_reducible rfl)
      try simp only [Act.put, List.getElem_toArray, List.getElem_cons_succ, List.getElem_cons_zero, List.setIfInBounds_toArray, List.set_cons_zero, List.set_cons_succ]
      refine wpAnyH_take (i := 16) (oi := _) (v := ?_) rfl (by kernel_rfl) (by kernel_rfl) (by kernel_rfl) (fun _ _ _ h => h) (Or.inl ⟨by rfl, ?_⟩) (by assumption) ?_
      rotate_left
      · intro W hSw
        go_simp
        try (with_reducible rfl)
      try simp only [Act.put, List.getElem_toArray, List.getElem_cons_succ, List.getElem_cons_zero, List.setIfInBounds_toArray, List.set_cons_zero, List.set_cons_succ]
      refine wpAnyH_done (by kernel_rfl) ?_ _
      go_wp2
      go_ret
      exact ⟨rfl, B7.out⟩
theorem stsAges_walk (x : Int) (wx : (Lit.int .u64 x).wf = true) (y : Int) (wy : (Lit.int .u8 y).wf = true) (z : Int) (wz : (Lit.int .u8 z).wf = true) (w : World) (hL : laidMetH Tryd.prog Rows.stsAgesRow.laid w) (hsh : w.ShapedOpen Tryd.prog) :
    Calls Tryd.prog 8 #[.int .u64 x, .int .u8 y, .int .u8 z] w fun e w' => e = .returned (.bool true) ∧ Below w.heap.size w w' := by
  have G := goodP_of hL (by kernel_rfl) (by kernel_rfl) (by kernel_rfl) hsh
  have hmin : IntKind.u64.min = 0 := rfl
  have hmax : IntKind.u64.max = 18446744073709551615 := rfl
  have hx := wf_bounds wx
  obtain ⟨n, rfl⟩ := Int.eq_ofNat_of_zero_le (show 0 ≤ x by omega)
  obtain ⟨c, rfl⟩ := u8_of wy
  obtain ⟨a, rfl⟩ := u8_of wz
  exact stsAges_at n (by show (n : Int) < 18446744073709551616; omega) c a w G
end Go.Proofs.YtnmdcbneoipllaaDoor
