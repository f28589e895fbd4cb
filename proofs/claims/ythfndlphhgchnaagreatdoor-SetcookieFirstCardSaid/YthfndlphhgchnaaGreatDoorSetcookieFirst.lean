/- Walk of the law SetcookieFirst: a text without semicolons tells a name and a value. -/
import Derived.Test.YthfndlphhgchnaaGreatDoorSi
import Derived.Test.YthfndlphhgchnaaGreatDoorTrim
import Derived.Test.YthfndlphhgchnaaGreatDoorSpec10d
import Derived.Test.YthfndlphhgchnaaGreatDoorBeyond
import Derived.Test.YthfndlphhgchnaaGreatDoorRows
import Derived.Test.YthfndlphhgchnaaGreatDoorGood7
namespace Go.Proofs.YthfndlphhgchnaaGreatDoor
open Go.RowKit Go.Lib Go.Proofs.Foot

/-- The first k bytes may stand there, and no equals sign is in the name. -/
def okK (n v : List UInt8) (k : Nat) : Prop := ∀ (j : Nat) (hj : j < (n ++ v).length), j < k → okC ((n ++ v)[j]) ∧ (j < n.length → (n ++ v)[j] ≠ 61)
theorem okK_0 (n v : List UInt8) : okK n v 0 := fun _ _ h => absurd h (Nat.not_lt_zero _)
theorem okK_succ {n v : List UInt8} {k : Nat} (h : okK n v k) (hk : k < (n ++ v).length) (h1 : okC ((n ++ v)[k])) (h2 : k < n.length → (n ++ v)[k] ≠ 61) : okK n v (k + 1) := by
  intro j hj hlt
  by_cases e : j = k
  · subst e; exact ⟨h1, h2⟩
  · exact h j hj (by omega)
theorem okK_end {n v : List UInt8} {k : Nat} (h : okK n v k) (hk : (n ++ v).length ≤ k) : (∀ c ∈ n ++ v, okC c) ∧ (61 : UInt8) ∉ n := by
  refine ⟨fun c hc => ?_, fun hc => ?_⟩
  · obtain ⟨j, hj, rfl⟩ := List.mem_iff_getElem.1 hc
    exact (h j hj (by omega)).1
  · obtain ⟨j, hj, e⟩ := List.mem_iff_getElem.1 hc
    have hj2 : j < (n ++ v).length := by rw [List.length_append]; omega
    refine (h j hj2 (by omega)).2 hj ?_
    rw [List.getElem_append_left hj]; exact e
theorem ok_byte {c : UInt8} (h1 : c.toNat ≠ 59) (h2 : ¬ c.toNat < 32) (h3 : c.toNat ≠ 127) : okC c := by
  refine ⟨fun e => h1 (by rw [e]; rfl), ?_⟩
  unfold badB
  rw [decide_eq_false h2, decide_eq_false h3]
  rfl
theorem trim_is (s N : ByteArray) (hN : N = tx (trim s.data.toList)) (hs : s.size ≤ 16777216) (w : World) : Calls Tryz.prog 21 #[.string s] w fun e w' => e = .returned (.string N) ∧ Below w.heap.size w w' := by
  rw [hN]
  exact trimA_any s w hs
theorem empty_eql (s : ByteArray) (h : s.data.toList = []) : s = ⟨#[]⟩ := by rw [← tx_of s, h]; rfl
set_option maxHeartbeats 4000000 in
set_option maxRecDepth 100000 in
theorem setcookieFirst_walk (nm : ByteArray) (_h1 : nm.size ≤ maxLen) (zn : nm.size ≤ 140737488351232) (vl : ByteArray) (_h2 : vl.size ≤ maxLen) (zv : vl.size ≤ 140737488351232) (w : World) (hL : laidMetH Tryz.prog Rows.setcookieFirstRow.laid w) (hsh : w.ShapedOpen Tryz.prog) :
    Calls Tryz.prog 10 #[.string nm, .string vl] w fun e w' => e = .returned (.bool true) ∧ Below w.heap.size w w' := by
  have G := hid (good_of hL (by kernel_rfl) (by kernel_rfl) (by kernel_rfl) hsh)
  clear hL hsh _h1 _h2
  cases hb : beyond [nm.size, vl.size] with
  | true =>
    go_enter Tryz.func10, Tryz.ntmps10
    go_wp2_with fail
    refine (alive_any _ G.out).mono ?_
    rintro e w1 ⟨rfl, hb1⟩
    have B1 := hid hb1
    clear hb1
    go_wp2_with (go_at_call 16; refine (beyond2 _ _ _ zn zv).mono ?_; rintro e w2 ⟨rfl, rfl⟩)
    have hb2 : Below w1.heap.size w1 (w1.alloc (.cells #[.int .i64 nm.size, .int .i64 vl.size] 3)) := (Below.refl _ _).alloc (Nat.le_refl _) _
    have B2 := hid (below_chain B1.out hb2)
    clear hb2
    refine (alive_any _ (good_below G.out B2.out)).mono ?_
    rintro e w3 ⟨rfl, hb3⟩
    have B3 := hid (below_chain B2.out hb3)
    clear hb3
    go_wp2_with fail
    go_ret
    exact ⟨rfl, B3.out⟩
  | false =>
    have hle := beyond_le (zs := [nm.size, vl.size]) (by rw [hb]; decide)
    have hsz : nm.size + vl.size ≤ 1048576 := by simpa using hle
    obtain ⟨All, hAll⟩ : ∃ X, X = nm ++ vl := ⟨_, rfl⟩
    have zA : All.size = nm.size + vl.size := by rw [hAll, catZ]
    have hadd := addS hAll (by omega) (by omega)
    have hAl : All.data.toList = nm.data.toList ++ vl.data.toList := by rw [hAll, catL]
    have HAl := hid hAl
    clear hle hAll hAl
    go_enter Tryz.func10, Tryz.ntmps10
    go_wp2_with fail
    refine (alive_any _ G.out).mono ?_
    rintro e w1 ⟨rfl, hb1⟩
    have B1 := hid hb1
    clear hb1
    go_wp2_with fail
    refine (beyond2 _ _ _ zn zv).mono ?_
    rintro e w2 ⟨rfl, rfl⟩
    have hb2 : Below w1.heap.size w1 (w1.alloc (.cells #[.int .i64 nm.size, .int .i64 vl.size] 3)) := (Below.refl _ _).alloc (Nat.le_refl _) _
    have B2 := hid (below_chain B1.out hb2)
    clear hb2
    generalize w1.alloc _ = w2 at *
    rw [hb]
    go_wp2
    go_loop [6] (fun i => ∃ k : Nat, k ≤ All.size ∧ i = .int .i64 k ∧ Hid (okK nm.data.toList vl.data.toList k)) (fun i => All.size - (RowKit.intOf i).toNat)
    case atStart => exact ⟨0, Nat.zero_le _, rfl, hid (okK_0 _ _)⟩
    case round =>
      obtain ⟨k, hk, rfl, hK⟩ := hrel
      clear hadd
      by_cases hlt : k < All.size
      · have hl : k < (nm.data.toList ++ vl.data.toList).length := by rw [← HAl.out]; simpa using hlt
        have hx : (nm.data.toList ++ vl.data.toList)[k]'hl = All[k] := by
          rw [← List.getElem_of_eq HAl.out (by simpa using hlt)]; rfl
        have Hx := hid hx
        clear hx
        by_cases a1 : All[k].toNat = 59
        · have i1 : ((All[k].toNat : Int) == 59) = true := by rw [a1]; rfl
          go_wp2
          go_ret
          exact ⟨rfl, B2.out⟩
        · have i1 : ((All[k].toNat : Int) == 59) = false := by rw [beq_eq_false_iff_ne]; omega
          by_cases a2 : All[k].toNat < 32
          · have i2 : (All[k].toNat : Int) < 32 := by omega
            go_wp2
            go_ret
            exact ⟨rfl, B2.out⟩
          · have i2 : ¬ (All[k].toNat : Int) < 32 := by omega
            by_cases a3 : All[k].toNat = 127
            · have i3 : ((All[k].toNat : Int) == 127) = true := by rw [a3]; rfl
              go_wp2
              go_ret
              exact ⟨rfl, B2.out⟩
            · have i3 : ((All[k].toNat : Int) == 127) = false := by rw [beq_eq_false_iff_ne]; omega
              have hok : okC ((nm.data.toList ++ vl.data.toList)[k]'hl) := by rw [Hx.out]; exact ok_byte a1 a2 a3
              by_cases a4 : k < nm.size
              · have j4 : (k : Int) < (nm.size : Int) := by omega
                by_cases a5 : All[k].toNat = 61
                · have i5 : ((All[k].toNat : Int) == 61) = true := by rw [a5]; rfl
                  go_wp2
                  go_ret
                  exact ⟨rfl, B2.out⟩
                · have i5 : ((All[k].toNat : Int) == 61) = false := by rw [beq_eq_false_iff_ne]; omega
                  have hn := hid (okK_succ hK.out hl hok (fun _ => by rw [Hx.out]; intro e; exact a5 (by rw [e]; rfl)))
                  clear hok
                  go_wp2
                  go_round
                  case rel => exact ⟨k + 1, by omega, by go_num, hn⟩
                  case measure => simp [RowKit.intOf]; omega
              · have j4 : ¬ (k : Int) < (nm.size : Int) := by omega
                have hn := hid (okK_succ hK.out hl hok (fun h => absurd (by simpa using h) a4))
                clear hok
                go_wp2
                go_round
                case rel => exact ⟨k + 1, by omega, by go_num, hn⟩
                case measure => simp [RowKit.intOf]; omega
      · obtain ⟨hc, hn61⟩ := okK_end hK.out (by rw [← HAl.out]; simp; omega)
        have hE := first_eq hc hn61
        rw [← HAl.out] at hE
        obtain ⟨t, e, hp⟩ : ∃ t e, parseC (nm.data.toList ++ 61 :: vl.data.toList) = (t, e) := ⟨_, _, rfl⟩
        obtain ⟨u, f, hq⟩ : ∃ u f, parseC nm.data.toList = (u, f) := ⟨_, _, rfl⟩
        obtain ⟨N, hN⟩ : ∃ X, X = tx (trim nm.data.toList) := ⟨_, rfl⟩
        obtain ⟨V, hV⟩ : ∃ X, X = tx (trim vl.data.toList) := ⟨_, rfl⟩
        have zN : N.size ≤ nm.size := by rw [hN, tx_size, Lib.size_eq]; exact trim_length _
        have zV : V.size ≤ vl.size := by rw [hV, tx_size, Lib.size_eq]; exact trim_length _
        have lN : N.size = (trim nm.data.toList).length := by rw [hN, tx_size]
        have lV : V.size = (trim vl.data.toList).length := by rw [hV, tx_size]
        have lA : All.size = All.data.toList.length := Lib.size_eq _
        obtain ⟨S1, hS1⟩ : ∃ X, X = nm ++ ⟨#[61]⟩ := ⟨_, rfl⟩
        have zS1 : S1.size = nm.size + 1 := by rw [hS1, catZ]; rfl
        obtain ⟨S2, hS2⟩ : ∃ X, X = S1 ++ vl := ⟨_, rfl⟩
        have q1 := addS hS1 (by omega) (by show (1 : Int) ≤ _; decide)
        have q2 := addS hS2 (by omega) (by omega)
        have hS2l : S2.data.toList = nm.data.toList ++ 61 :: vl.data.toList := by rw [hS2, catL, hS1, catL, List.append_assoc]; rfl
        have HT := hid (trim_is nm N hN (by omega))
        have HU := hid (trim_is vl V hV (by omega))
        have HP := hid (fun w G => parseA_is S2 w G t e (by rw [hS2l]; exact hp))
        have HQ := hid (fun w G => parseA_is nm w G u f hq)
        have hbare : nm.data.toList.length ≤ 65535 → (u, f) = _ := fun h => hq.symm.trans (first_bare (fun c h => hc c (List.mem_append_left _ h)) hn61 h)
        have hWt := hid (wf_parse hp)
        have hWu := hid (wf_parse hq)
        rw [hp] at hE
        have v1 : IntKind.i64.wrap ((N.size : Int) + V.size) = (N.size : Int) + V.size := IntWalk.i64_in _ (by omega)
        have hfacts : ((4096 < N.size + V.size ∨ 65535 < All.size) → e = 3) ∧ (¬ (4096 < N.size + V.size ∨ 65535 < All.size) →
            ((N = ⟨#[]⟩ ∧ V = ⟨#[]⟩ ∧ e = 4 ∧ f = 4) ∨ (¬ (N = ⟨#[]⟩ ∧ V = ⟨#[]⟩) ∧ e = 0 ∧ t = { name := N.data.toList, value := V.data.toList } ∧ ((N = ⟨#[]⟩ ∧ f = 4) ∨ (¬ N = ⟨#[]⟩ ∧ f = 0 ∧ u = { value := N.data.toList }))))) := by
          have lnm := Lib.size_eq nm
          rw [lN, lV, lA]
          have nN : N.data.toList = trim nm.data.toList := by rw [hN, tx_list]
          have nV : V.data.toList = trim vl.data.toList := by rw [hV, tx_list]
          have eN : N = ⟨#[]⟩ ↔ trim nm.data.toList = [] := by
            rw [← nN]
            exact ⟨fun h => by rw [h], fun h => empty_eql N h⟩
          have eV : V = ⟨#[]⟩ ↔ trim vl.data.toList = [] := by
            rw [← nV]
            exact ⟨fun h => by rw [h], fun h => empty_eql V h⟩
          rw [eN, eV, nN, nV]
          constructor
          · intro h
            by_cases h1 : 65535 < All.data.toList.length
            · rw [if_pos h1] at hE; exact (Prod.mk.inj hE).2
            · rw [if_neg h1, if_pos (by omega)] at hE; exact (Prod.mk.inj hE).2
          · intro h
            rw [if_neg (by omega), if_neg (by omega)] at hE
            have hB := hbare (by omega)
            rw [if_neg (by omega)] at hB
            by_cases h1 : trim nm.data.toList = []
            · rw [if_pos h1] at hB
              injection hB with _ hB
              by_cases h2 : trim vl.data.toList = []
              · rw [if_pos ⟨h1, h2⟩] at hE
                injection hE with _ hE
                exact .inl ⟨h1, h2, hE, hB⟩
              · rw [if_neg (fun h => h2 h.2)] at hE
                injection hE with hE0 hE
                exact .inr ⟨fun h => h2 h.2, hE, hE0, .inl ⟨h1, hB⟩⟩
            · rw [if_neg h1] at hB
              injection hB with hB0 hB
              rw [if_neg (fun h => h1 h.1)] at hE
              injection hE with hE0 hE
              exact .inr ⟨fun h => h1 h.1, hE, hE0, .inr ⟨h1, hB, hB0⟩⟩
        have Hf := hid hfacts
        clear hfacts hE hp hq hN hV lN lV lA hS1 hS2 hS2l hbare hc hn61 zS1
        go_wp2_with fail
        refine (HT.out _).mono ?_
        rintro e w3 ⟨rfl, hb3⟩
        have B3 := hid (below_chain B2.out hb3)
        clear hb3
        go_wp2_with fail
        refine (HU.out _).mono ?_
        rintro e w4 ⟨rfl, hb4⟩
        have B4 := hid (below_chain B3.out hb4)
        clear hb4
        go_wp2_with fail
        refine (HP.out _ (good_below G.out B4.out)).mono ?_
        rintro e w5 ⟨rfl, hb5⟩
        have B5 := hid (below_chain B4.out hb5)
        clear hb5
        have W5 := hid (show Cks w [] w5 from ⟨fun p hp => (by cases hp), B5.out⟩)
        go_upto_region 12 with (refine wpList_store_row rfl 24 _ _ rfl w5.heap.size (rowC t) rfl rfl _ _ (heap_alloc_new w5 _) (infoTd t) rfl (rowC_one t) ?_)
        have W6 := hid (W5.out.add #[.string ⟨#[]⟩, .string ⟨#[]⟩, .string ⟨#[]⟩, .string ⟨#[]⟩, .int .i64 0, .bool false, .int .i64 0, .bool false, .bool false, .bool false, .int .u8 0] t)
        generalize World.setRow _ w5.heap.size (rowC t) = w6 at *
        obtain ⟨g1, hg1⟩ : ∃ g, g = w5.heap.size := ⟨_, rfl⟩
        rw [← hg1] at W6 ⊢
        clear hg1
        go_wp2_with fail
        refine (HQ.out _ (G.out.below W6.out.below)).mono ?_
        rintro e' w7 ⟨rfl, hb7⟩
        have W7 := hid (W6.out.go hb7)
        clear hb7
        go_upto_region 13 with (refine wpList_store_row rfl 24 _ _ rfl w7.heap.size (rowC u) rfl rfl _ _ (heap_alloc_new w7 _) (infoTd u) rfl (rowC_one u) ?_)
        have W8 := hid (W7.out.add #[.string ⟨#[]⟩, .string ⟨#[]⟩, .string ⟨#[]⟩, .string ⟨#[]⟩, .int .i64 0, .bool false, .int .i64 0, .bool false, .bool false, .bool false, .int .u8 0] u)
        generalize World.setRow _ w7.heap.size (rowC u) = w8 at *
        obtain ⟨g2, hg2⟩ : ∃ g, g = w7.heap.size := ⟨_, rfl⟩
        rw [← hg2] at W8 ⊢
        clear hg2 q1 q2
        obtain ⟨hf1, hf2⟩ := Hf.out
        clear Hf
        by_cases c1 : 4096 < N.size + V.size
        · have d1 : (N.size : Int) + V.size > 4096 := by omega
          have e3 := hf1 (.inl c1)
          subst e3
          clear hf1 hf2
          go_wp2
          go_ret
          exact ⟨rfl, W8.out.below⟩
        · have d1 : ¬ (N.size : Int) + V.size > 4096 := by omega
          by_cases c2 : 65535 < All.size
          · have d2 : (All.size : Int) > 65535 := by omega
            have e3 := hf1 (.inr c2)
            subst e3
            clear hf1 hf2
            go_wp2
            go_ret
            exact ⟨rfl, W8.out.below⟩
          · have d2 : ¬ (All.size : Int) > 65535 := by omega
            have r1 := W8.out.at (g := g1) (t := t) (by simp)
            have r2 := W8.out.at (g := g2) (t := u) (by simp)
            rcases hf2 (by omega) with ⟨hN, hV, rfl, rfl⟩ | ⟨hNV, rfl, ht, hu⟩
            · subst hN
              subst hV
              clear hf1 hf2
              go_wp2
              go_ret
              exact ⟨rfl, W8.out.below⟩
            · clear hf1 hf2
              have hq1 : ∀ V', (binOp .eql 24 (.agg (rowC t)) (.agg #[.string N, .string V, .string ⟨#[]⟩, .string ⟨#[]⟩, .int .i64 0, .bool false, .int .i64 0, .bool false, .bool false, .bool false, .int .u8 0])).run Tryz.prog V' = .ok (.bool true) V' := by
                have := ck_eql t t hWt.out hWt.out true (decide_eq_true rfl)
                have e : rowC t = #[.string N, .string V, .string ⟨#[]⟩, .string ⟨#[]⟩, .int .i64 0, .bool false, .int .i64 0, .bool false, .bool false, .bool false, .int .u8 0] := by
                  rw [ht]; unfold rowC; simp only [tx_of]; rfl
                intro V'
                have h := this V'
                rw [show (binOp .eql 24 (.agg (rowC t)) (.agg #[.string N, .string V, .string ⟨#[]⟩, .string ⟨#[]⟩, .int .i64 0, .bool false, .int .i64 0, .bool false, .bool false, .bool false, .int .u8 0])) = binOp .eql 24 (.agg (rowC t)) (.agg (rowC t)) from by rw [← e]]
                exact h
              rcases hu with ⟨hN, rfl⟩ | ⟨hN, rfl, hu⟩
              · have hV : V ≠ ⟨#[]⟩ := fun h => hNV ⟨hN, h⟩
                have qN : N.toList.isEmpty = true := by rw [hN, Lib.toList_data]; rfl
                have qV : V.toList.isEmpty = false := by
                  rw [Lib.toList_data]
                  exact List.isEmpty_eq_false_iff.2 (fun h => hV (empty_eql V h))
                clear ht hN hV hNV
                go_wp2_with (refine load_ckG (by first | rfl | (simp [Region.wanted, yielded]; done)) _ rfl g1 rfl t r1 ?_)
                go_ret
                exact ⟨rfl, W8.out.below⟩
              · have hq2 : ∀ V', (binOp .eql 24 (.agg (rowC u)) (.agg #[.string ⟨#[]⟩, .string N, .string ⟨#[]⟩, .string ⟨#[]⟩, .int .i64 0, .bool false, .int .i64 0, .bool false, .bool false, .bool false, .int .u8 0])).run Tryz.prog V' = .ok (.bool true) V' := by
                  have := ck_eql u u hWu.out hWu.out true (decide_eq_true rfl)
                  have e : rowC u = #[.string ⟨#[]⟩, .string N, .string ⟨#[]⟩, .string ⟨#[]⟩, .int .i64 0, .bool false, .int .i64 0, .bool false, .bool false, .bool false, .int .u8 0] := by
                    rw [hu]; unfold rowC; simp only [tx_of]; rfl
                  intro V'
                  have h := this V'
                  rw [show (binOp .eql 24 (.agg (rowC u)) (.agg #[.string ⟨#[]⟩, .string N, .string ⟨#[]⟩, .string ⟨#[]⟩, .int .i64 0, .bool false, .int .i64 0, .bool false, .bool false, .bool false, .int .u8 0])) = binOp .eql 24 (.agg (rowC u)) (.agg (rowC u)) from by rw [← e]]
                  exact h
                have qN : N.toList.isEmpty = false := by
                  rw [Lib.toList_data]
                  exact List.isEmpty_eq_false_iff.2 (fun h => hN (empty_eql N h))
                clear ht hu hN hNV
                go_wp2_with (first
                  | (refine load_ckG (by first | rfl | (simp [Region.wanted, yielded]; done)) _ rfl g1 rfl t r1 ?_)
                  | (refine load_ckG (by first | rfl | (simp [Region.wanted, yielded]; done)) _ rfl g2 rfl u r2 ?_))
                go_ret
                exact ⟨rfl, W8.out.below⟩
end Go.Proofs.YthfndlphhgchnaaGreatDoor
