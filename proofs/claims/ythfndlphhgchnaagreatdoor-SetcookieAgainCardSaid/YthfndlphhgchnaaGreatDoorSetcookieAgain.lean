/- Walk of the law SetcookieAgain: what a text tells may be told again. -/
import Derived.Test.YthfndlphhgchnaaGreatDoorSk
import Derived.Test.YthfndlphhgchnaaGreatDoorSi
import Derived.Test.YthfndlphhgchnaaGreatDoorBeyond
import Derived.Test.YthfndlphhgchnaaGreatDoorRows
import Derived.Test.YthfndlphhgchnaaGreatDoorGood7
import Derived.Deep.DeepCutAuto
namespace Go.Proofs.YthfndlphhgchnaaGreatDoor
open Go.RowKit Go.Lib Go.Proofs.Foot

theorem parse_err {l : List UInt8} {t : CkT} {n : Nat} (h : parseC l = (t, n)) (hn : n ≠ 0) : t = {} ∧ (n = 4 ∨ n = 3) := by
  unfold parseC at h
  split at h
  · injection h with h1 h2; exact ⟨h1.symm, .inr h2.symm⟩
  · split at h
    · injection h with h1 h2; exact ⟨h1.symm, .inl h2.symm⟩
    · unfold startC at h
      split at h
      · injection h with h1 h2; exact ⟨h1.symm, .inr h2.symm⟩
      · split at h
        · injection h with h1 h2; exact ⟨h1.symm, .inl h2.symm⟩
        · injection h with h1 h2; exact absurd h2.symm hn
/-- Is that cookie one that no text tells? -/
def lostB (t : CkT) : Bool := (t.hasExp && decide (t.exp < 0)) || decide (t.domain.head? = some 46 ∨ t.domain.head? = some 32 ∨ t.domain.head? = some 9)
theorem again_law {l : List UInt8} {t : CkT} (h : parseC l = (t, 0)) {D A : ByteArray} (hD : DateTx t.exp D) (hA : A.data.toList = Lib.itoa t.age) :
    (lostB t = true → parseC (textC t D.data.toList A.data.toList) ≠ (t, 0)) ∧ (lostB t = false → parseC (textC t D.data.toList A.data.toList) = (t, 0)) := by
  have G := goodC_of h
  obtain ⟨a1, a2⟩ := itoa_ok t.age
  rw [← hA] at a1 a2
  have a3 : A.data.toList.length ≤ 100 := by
    rw [hA]
    have := itoa_len (x := t.age) (by have := G.age1; omega) (by have := G.age1; omega)
    omega
  have a4 : ageO A.data.toList = some t.age := by rw [hA]; exact itoa_age G.age1
  have hd : trim D.data.toList = D.data.toList ∧ D.data.toList.length ≤ 100 ∧ (∀ c ∈ D.data.toList, okC c) ∧ (0 ≤ t.exp → dateO D.data.toList = some t.exp) ∧ (t.exp < 0 → dateO D.data.toList = none) := by
    rcases hD with ⟨h1, rfl⟩ | ⟨n, hn, hT⟩
    · refine ⟨rfl, by simp, fun c hc => by simp at hc, fun h0 => absurd ⟨h0, G.expR⟩ h1, fun _ => ?_⟩
      show dateO [] = none
      decide +kernel
    · obtain ⟨h1, h2, h3⟩ := isText_dt hT
      have := isText_len hT
      refine ⟨h2, by omega, fun c hc => (dtB_ok (h1 c hc)).1, fun _ => by rw [hn]; exact h3, fun h0 => by omega⟩
  obtain ⟨d1, d2, d3, d4, d5⟩ := hd
  constructor
  · intro hl
    refine text_not G d1 d2 d3 a2 a3 a1 ?_
    unfold lostB at hl
    simp only [Bool.or_eq_true, Bool.and_eq_true, decide_eq_true_eq] at hl
    rcases hl with ⟨h1, h2⟩ | h1
    · exact .inl ⟨h1, d5 h2⟩
    · exact .inr h1
  · intro hl
    unfold lostB at hl
    simp only [Bool.or_eq_false_iff, Bool.and_eq_false_iff, decide_eq_false_iff_not] at hl
    refine text_back G d1 d2 d3 a2 a3 a1 a4 (fun hx => d4 ?_) ?_
    · rcases hl.1 with h1 | h1
      · rw [hx] at h1; exact absurd h1 (by decide)
      · omega
    · exact ⟨fun h => hl.2 (.inl h), fun h => hl.2 (.inr (.inl h)), fun h => hl.2 (.inr (.inr h))⟩
set_option maxHeartbeats 4000000 in
set_option maxRecDepth 100000 in
theorem setcookieAgain_walk (s : ByteArray) (_hs : s.size ≤ maxLen) (z : s.size ≤ 140737488351232) (w : World) (hL : laidMetH Tryz.prog Rows.setcookieAgainRow.laid w) (hsh : w.ShapedOpen Tryz.prog) :
    Calls Tryz.prog 8 #[.string s] w fun e w' => e = .returned (.bool true) ∧ Below w.heap.size w w' := by
  have G := hid (good_of hL (by kernel_rfl) (by kernel_rfl) (by kernel_rfl) hsh)
  clear hL hsh _hs
  cases hb : beyond [s.size] with
  | true =>
    go_enter Tryz.func8, Tryz.ntmps8
    go_wp2_with fail
    refine (alive_any _ G.out).mono ?_
    rintro e w1 ⟨rfl, hb1⟩
    have B1 := hid hb1
    clear hb1
    go_wp2_with (go_at_call 16; refine (beyond1 _ _ z).mono ?_; rintro e w2 ⟨rfl, rfl⟩)
    have hb2 : Below w1.heap.size w1 (w1.alloc (.cells #[.int .i64 s.size] 3)) := (Below.refl _ _).alloc (Nat.le_refl _) _
    have B2 := hid (below_chain B1.out hb2)
    clear hb2
    refine (alive_any _ (good_below G.out B2.out)).mono ?_
    rintro e w3 ⟨rfl, hb3⟩
    have B3 := hid (below_chain B2.out hb3)
    clear hb3
    go_wp2_with fail
    go_ret
    exact ⟨rfl, B3.out⟩
  | false =>
    by_cases h60 : (s.size : Int) > 60000
    · skip
      go_enter Tryz.func8, Tryz.ntmps8
      go_wp2_with fail
      refine (alive_any _ G.out).mono ?_
      rintro e w1 ⟨rfl, hb1⟩
      have B1 := hid hb1
      clear hb1
      go_wp2_with fail
      refine (beyond1 _ _ z).mono ?_
      rintro e w2 ⟨rfl, rfl⟩
      have hb2 : Below w1.heap.size w1 (w1.alloc (.cells #[.int .i64 s.size] 3)) := (Below.refl _ _).alloc (Nat.le_refl _) _
      have B2 := hid (below_chain B1.out hb2)
      clear hb2
      generalize w1.alloc _ = w2 at *
      rw [hb]
      go_wp2_with fail
      refine (alive_any _ (good_below G.out B2.out)).mono ?_
      rintro e w3 ⟨rfl, hb3⟩
      have B3 := hid (below_chain B2.out hb3)
      clear hb3
      go_wp2
      go_ret
      exact ⟨rfl, B3.out⟩
    · obtain ⟨t, n, hp⟩ : ∃ t n, parseC s.data.toList = (t, n) := ⟨_, _, rfl⟩
      have HP := hid (fun w G => parseA_is s w G t n hp)
      have Hp := hid hp
      have Hwf := hid (wf_parse hp)
      clear hp
      go_enter Tryz.func8, Tryz.ntmps8
      go_wp2_with fail
      refine (alive_any _ G.out).mono ?_
      rintro e w1 ⟨rfl, hb1⟩
      have B1 := hid hb1
      clear hb1
      go_wp2_with fail
      refine (beyond1 _ _ z).mono ?_
      rintro e w2 ⟨rfl, rfl⟩
      have hb2 : Below w1.heap.size w1 (w1.alloc (.cells #[.int .i64 s.size] 3)) := (Below.refl _ _).alloc (Nat.le_refl _) _
      have B2 := hid (below_chain B1.out hb2)
      clear hb2
      generalize w1.alloc _ = w2 at *
      rw [hb]
      go_wp2_with fail
      refine (HP.out _ (good_below G.out B2.out)).mono ?_
      rintro e w3 ⟨rfl, hb3⟩
      have B3 := hid (below_chain B2.out hb3)
      clear hb3
      have W3 := hid (show Cks w [] w3 from ⟨fun p hp => (by cases hp), B3.out⟩)
      go_upto_region 4 with (refine wpList_store_row rfl 24 _ _ rfl w3.heap.size (rowC t) rfl rfl _ _ (heap_alloc_new w3 _) (infoTd t) rfl (rowC_one t) ?_)
      have W4 := hid (W3.out.add #[.string ⟨#[]⟩, .string ⟨#[]⟩, .string ⟨#[]⟩, .string ⟨#[]⟩, .int .i64 0, .bool false, .int .i64 0, .bool false, .bool false, .bool false, .int .u8 0] t)
      generalize World.setRow _ w3.heap.size (rowC t) = w4 at *
      obtain ⟨g, hg⟩ : ∃ g, g = w3.heap.size := ⟨_, rfl⟩
      rw [← hg] at W4 ⊢
      clear hg
      have r4 := W4.out.at (g := g) (t := t) (by simp)
      by_cases hn : n = 0
      · subst hn
        obtain ⟨D, hD⟩ := dateTx_ex t.exp
        obtain ⟨A, hA⟩ : ∃ A : ByteArray, A.data.toList = Lib.itoa t.age := ⟨tx (Lib.itoa t.age), tx_list _⟩
        have GC := goodC_of Hp.out
        have HA := hid (fun w (G : Good w) => textA_any t Hwf.out (by have := GC.len; have := GC.domN; have := GC.pthN; omega) D A hD hA w G)
        have hlaw := again_law Hp.out hD hA
        obtain ⟨b, hbb⟩ : ∃ b, b = lostB t := ⟨_, rfl⟩
        rw [← hbb] at hlaw
        have Hlaw := hid hlaw
        have HT : Hid (∃ (S : ByteArray) (m : Nat), (b = true → m = 1) ∧ (b = false → m = 0 ∧ parseC S.data.toList = (t, 0)) ∧ ∀ w, Good w → Calls Tryz.prog 18 #[.agg (rowC t)] w fun e w' => e = .returned (.tuple #[.string S, .int .i64 m]) ∧ Below w.heap.size w w') := by
          cases b with
          | true =>
            refine hid ⟨⟨#[]⟩, 1, fun _ => rfl, fun h => absurd h (by decide), fun w G => ?_⟩
            have := HA.out w G
            unfold TextR at this
            rw [if_neg (hlaw.1 rfl)] at this
            exact this
          | false =>
            refine hid ⟨tx (textC t D.data.toList A.data.toList), 0, fun h => absurd h (by decide), fun _ => ⟨rfl, by rw [tx_list]; exact hlaw.2 rfl⟩, fun w G => ?_⟩
            have := HA.out w G
            unfold TextR at this
            rw [if_pos (hlaw.2 rfl)] at this
            exact this
        clear hD hA GC hlaw Hlaw HA
        obtain ⟨S, m, hm1, hm0, hT⟩ := HT.out
        have HT2 := hid hT
        have Hm1 := hid hm1
        have Hm0 := hid hm0
        clear hT hm1 hm0 HT
        go_wp2_with (refine load_ckG (by rfl) _ rfl g rfl t r4 ?_)
        refine (HT2.out _ (G.out.below W4.out.below)).mono ?_
        rintro e w5 ⟨rfl, hb5⟩
        have W5 := hid (W4.out.go hb5)
        clear hb5 r4
        have hblk : Blk w5 g 24 (rowC t) := W5.out.at (by simp)
        have c5 : w5.cell? ⟨g, 5, none⟩ = some (.bool t.hasExp) := hblk.cell rfl
        have c4 : w5.cell? ⟨g, 4, none⟩ = some (.int .i64 t.exp) := hblk.cell rfl
        obtain ⟨dm, hdm⟩ : ∃ dm, dm = tx t.domain := ⟨_, rfl⟩
        have c2 : w5.cell? ⟨g, 2, none⟩ = some (.string dm) := by rw [hdm]; exact hblk.cell rfl
        have hdl : t.domain = dm.data.toList := by rw [hdm, tx_list]
        have Hr := hid hblk
        clear hblk hdm
        go_upto_region 7 with fail
        go_cut [74] (fun va wx => va = .bool b ∧ wx = w5)
        case first =>
          have hb2 : b = ((t.hasExp && decide (t.exp < 0)) || decide (t.domain.head? = some 46 ∨ t.domain.head? = some 32 ∨ t.domain.head? = some 9)) := hbb
          clear hbb
          by_cases hz : 0 < dm.size
          · have hz1 : (dm.size : Int) > 0 := by omega
            have hh : t.domain.head? = some dm[0] := by
              rw [hdl, List.head?_eq_getElem?, List.getElem?_eq_getElem (by simpa using hz)]
              rfl
            have key : ∀ k : Nat, k < 256 → (((dm[0].toNat : Int) == k) = decide (t.domain.head? = some (UInt8.ofNat k))) := by
              intro k hk
              rw [hh]
              by_cases h : dm[0] = UInt8.ofNat k
              · rw [h, decide_eq_true rfl, UInt8.toNat_ofNat', Nat.mod_eq_of_lt (by omega)]
                exact beq_self_eq_true _
              · rw [decide_eq_false (fun e => h (by injection e)), beq_eq_false_iff_ne]
                intro e
                refine h ?_
                have e2 : dm[0].toNat = k := by omega
                rw [← e2, UInt8.ofNat_toNat]
            have k46 : ((dm[0].toNat : Int) == 46) = decide (t.domain.head? = some 46) := key 46 (by decide)
            have k32 : ((dm[0].toNat : Int) == 32) = decide (t.domain.head? = some 32) := key 32 (by decide)
            have k9 : ((dm[0].toNat : Int) == 9) = decide (t.domain.head? = some 9) := key 9 (by decide)
            clear key hh hdl
            obtain ⟨b1, hb1⟩ : ∃ b1, b1 = decide (t.domain.head? = some 46) := ⟨_, rfl⟩
            obtain ⟨b3, hb3⟩ : ∃ b3, b3 = decide (t.domain.head? = some 32) := ⟨_, rfl⟩
            obtain ⟨b4, hb4⟩ : ∃ b4, b4 = decide (t.domain.head? = some 9) := ⟨_, rfl⟩
            rw [← hb1] at k46
            rw [← hb3] at k32
            rw [← hb4] at k9
            have hb5 : b = ((t.hasExp && decide (t.exp < 0)) || (b1 || (b3 || b4))) := by rw [hb2, hb1, hb3, hb4]; simp only [Bool.decide_or]
            clear hb2 hb1 hb3 hb4
            cases hx : t.hasExp
            · rw [hx] at c5 hb5
              cases b1
              · cases b3
                · cases b4
                  all_goals
                    have Hb5 := hid hb5
                    clear hb5
                    go_wp2
                    go_meet
                    exact ⟨by rw [Hb5.out]; rfl, rfl⟩
                · have Hb5 := hid hb5
                  clear hb5 k9
                  go_wp2
                  go_meet
                  exact ⟨by rw [Hb5.out]; rfl, rfl⟩
              · have Hb5 := hid hb5
                clear hb5 k9 k32
                go_wp2
                go_meet
                exact ⟨by rw [Hb5.out]; rfl, rfl⟩
            · rw [hx] at c5 hb5
              by_cases h0 : t.exp < 0
              · rw [decide_eq_true h0] at hb5
                have Hb5 := hid hb5
                clear hb5 k9 k32 k46
                go_wp2
                go_meet
                exact ⟨by rw [Hb5.out]; rfl, rfl⟩
              · rw [decide_eq_false h0] at hb5
                cases b1
                · cases b3
                  · cases b4
                    all_goals
                      have Hb5 := hid hb5
                      clear hb5
                      go_wp2
                      go_meet
                      exact ⟨by rw [Hb5.out]; rfl, rfl⟩
                  · have Hb5 := hid hb5
                    clear hb5 k9
                    go_wp2
                    go_meet
                    exact ⟨by rw [Hb5.out]; rfl, rfl⟩
                · have Hb5 := hid hb5
                  clear hb5 k9 k32
                  go_wp2
                  go_meet
                  exact ⟨by rw [Hb5.out]; rfl, rfl⟩
          · have hz0 : dm.size = 0 := by omega
            have hz1 : ¬ (dm.size : Int) > 0 := by omega
            have hh : t.domain.head? = none := by
              rw [hdl, List.head?_eq_none_iff]
              exact List.eq_nil_of_length_eq_zero (by simpa using hz0)
            rw [hh] at hb2
            have hb5 : b = (t.hasExp && decide (t.exp < 0)) := by rw [hb2]; simp
            clear hb2 hh hdl hz0 hz
            cases hx : t.hasExp
            · rw [hx] at c5 hb5
              have Hb5 := hid hb5
              clear hb5
              go_wp2
              go_meet
              exact ⟨by rw [Hb5.out]; rfl, rfl⟩
            · rw [hx] at c5 hb5
              by_cases h0 : t.exp < 0
              · rw [decide_eq_true h0] at hb5
                have Hb5 := hid hb5
                clear hb5
                go_wp2
                go_meet
                exact ⟨by rw [Hb5.out]; rfl, rfl⟩
              · rw [decide_eq_false h0] at hb5
                have Hb5 := hid hb5
                clear hb5
                go_wp2
                go_meet
                exact ⟨by rw [Hb5.out]; rfl, rfl⟩
        case rest =>
          obtain ⟨rfl, rfl⟩ := hcut
          clear c5 c4 c2 hdl hbb
          cases b with
          | true =>
            have e := Hm1.out (by trivial)
            subst e
            clear Hm0
            go_wp2
            go_ret
            exact ⟨rfl, W5.out.below⟩
          | false =>
            obtain ⟨e, h⟩ := Hm0.out (by trivial)
            subst e
            have HI := hid (fun w (G : Good w) => is_any S t Hwf.out true (decide_eq_true h) w G)
            clear Hm1 h Hm0
            have r5 : wc.heap[g]? = some (.cells (rowC t) 24 (0, 0)) := Hr.out
            go_wp2_with (refine load_ckG (by rfl) _ rfl g rfl t r5 ?_)
            refine (HI.out _ (G.out.below W5.out.below)).mono ?_
            rintro e w6 ⟨rfl, hb6⟩
            have W6 := hid (W5.out.go hb6)
            clear hb6
            go_wp2
            go_ret
            exact ⟨rfl, W6.out.below⟩
      · have Herr := hid (parse_err Hp.out hn)
        obtain ⟨h1, h2⟩ := Herr.out
        have hq : ∀ V, (binOp .eql 24 (.agg (rowC t)) (.agg #[.string ⟨#[]⟩, .string ⟨#[]⟩, .string ⟨#[]⟩, .string ⟨#[]⟩, .int .i64 0, .bool false, .int .i64 0, .bool false, .bool false, .bool false, .int .u8 0])).run Tryz.prog V = .ok (.bool true) V :=
          ck_eql t {} Hwf.out (by rw [← h1]; exact Hwf.out) true (decide_eq_true h1)
        clear h1
        rcases h2 with rfl | rfl
        all_goals
          go_wp2_with (refine load_ckG (by rfl) _ rfl g rfl t r4 ?_)
          go_ret
          exact ⟨rfl, W4.out.below⟩
end Go.Proofs.YthfndlphhgchnaaGreatDoor
