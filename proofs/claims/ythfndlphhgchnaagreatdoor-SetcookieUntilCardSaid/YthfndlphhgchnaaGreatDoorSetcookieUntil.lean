/- Walk of the law SetcookieUntil: when a cookie ends. -/
import Derived.Test.YthfndlphhgchnaaGreatDoorSi
import Derived.Test.YthfndlphhgchnaaGreatDoorSj
import Derived.Test.YthfndlphhgchnaaGreatDoorRows
import Derived.Test.YthfndlphhgchnaaGreatDoorGood7
namespace Go.Proofs.YthfndlphhgchnaaGreatDoor
open Go.RowKit Go.Lib Go.Proofs.Foot

theorem until_ck (t : CkT) (now : Int) (w : World) : Calls Tryz.prog 11 #[.agg (rowC t), .int .i64 now] w fun e w' => e = .returned (.int .i64 (untilV t.exp t.hasExp t.age t.hasAge now)) ∧ Below w.heap.size w w' :=
  untilA_any _ _ _ _ _ _ _ _ _ _ _ _ w
theorem until_law (ex ag n m u v : Int) (he ha : Bool) (hn : 0 ≤ n) (hn2 : n ≤ 4294967295) (hm : 0 ≤ m) (hm2 : m ≤ 4294967295) (hu : u = untilV ex he ag ha n) (hv : v = untilV ex he ag ha (n + m)) :
    (ha = true → untilV 7 true ag ha n = u) ∧ u ≤ n + 34560000 ∧ ((ha = false ∧ he = false ∧ u = -1 ∧ v = -1) ∨ ((ha = true ∨ he = true) ∧ ((u = 0 ∧ v = 0) ∨ (u > n ∧ u > 0 ∧ (v = u ∨ (v = 0 ∧ ha = false) ∨ v > u))))) := by
  have e1 : nowV n = n := by unfold nowV; omega
  have e2 : nowV (n + m) = n + m := by unfold nowV; omega
  cases ha with
  | false =>
    cases he with
    | false =>
      unfold untilV at hu hv
      exact ⟨fun h => by simp at h, by rw [hu]; show (-1 : Int) ≤ _; omega, .inl ⟨rfl, rfl, hu, hv⟩⟩
    | true =>
      have hu : u = if ex ≤ n then 0 else min ex (n + 34560000) := by rw [hu, show untilV ex true ag false n = if ex ≤ nowV n then 0 else min ex (nowV n + 34560000) from rfl, e1]
      have hv : v = if ex ≤ n + m then 0 else min ex (n + m + 34560000) := by rw [hv, show untilV ex true ag false (n + m) = if ex ≤ nowV (n + m) then 0 else min ex (nowV (n + m) + 34560000) from rfl, e2]
      clear e1 e2
      refine ⟨fun h => by simp at h, by split at hu <;> omega, .inr ⟨.inr rfl, ?_⟩⟩
      split at hu
      · rw [if_pos (by omega)] at hv; exact .inl ⟨hu, hv⟩
      · refine .inr ⟨by omega, by omega, ?_⟩
        split at hv
        · exact .inr (.inl ⟨hv, rfl⟩)
        · by_cases h : v = u
          · exact .inl h
          · exact .inr (.inr (by omega))
  | true =>
    have hx : untilV 7 true ag true n = u := by rw [hu]; cases he <;> rfl
    have hu : u = if ag ≤ 0 then 0 else n + min ag 34560000 := by rw [hu, show untilV ex he ag true n = if ag ≤ 0 then 0 else nowV n + min ag 34560000 from by cases he <;> rfl, e1]
    have hv : v = if ag ≤ 0 then 0 else n + m + min ag 34560000 := by rw [hv, show untilV ex he ag true (n + m) = if ag ≤ 0 then 0 else nowV (n + m) + min ag 34560000 from by cases he <;> rfl, e2]
    clear e1 e2
    refine ⟨fun _ => hx, by split at hu <;> omega, .inr ⟨.inl rfl, ?_⟩⟩
    clear hx
    split at hu
    · rename_i h; rw [if_pos h] at hv; exact .inl ⟨hu, hv⟩
    · rename_i h
      rw [if_neg h] at hv
      refine .inr ⟨by omega, by omega, ?_⟩
      by_cases h : v = u
      · exact .inl h
      · exact .inr (.inr (by omega))
theorem Cks.two {w0 w : World} {g b : Nat} {t : CkT} (h : Cks w0 [(g, t), (b, t)] w) (hg : w0.heap.size ≤ g) (hne : b ≠ g) :
    Cks w0 [(g, { t with exp := 7, hasExp := true }), (b, t)] ((w.setCell ⟨g, 4, none⟩ (.int .i64 7)).setCell ⟨g, 5, none⟩ (.bool true)) := by
  have h1 : Blk w g 24 (rowC t) := h.at (by simp)
  have h2 : Blk w b 24 (rowC t) := h.at (by simp)
  refine ⟨fun p hp => ?_, (h.below.setCell hg _).setCell hg _⟩
  simp only [List.mem_cons, List.not_mem_nil, or_false] at hp
  rcases hp with rfl | rfl
  · exact ((h1.put 4 _).put 5 _).eq rfl
  · exact (h2.off (fun e => hne e.symm) _).off (fun e => hne e.symm) _
set_option maxHeartbeats 4000000 in
set_option maxRecDepth 100000 in
theorem until_told (t : CkT) (n m : Int) (hn : 0 ≤ n) (hn2 : n ≤ 4294967295) (hm : 0 ≤ m) (hm2 : m ≤ 4294967295) (w : World) (G : Good w) :
    Calls Tryz.prog 3 #[.agg (rowC t), .int .u32 n, .int .u32 m] w fun e w' => e = .returned (.bool true) ∧ Below w.heap.size w w' := by
  have HG := hid G
  have HU := hid (fun w => until_ck t n w)
  have HV := hid (fun w => until_ck t (n + m) w)
  have HX := hid (fun w => until_ck { t with exp := 7, hasExp := true } n w)
  obtain ⟨u, hu⟩ : ∃ u, u = untilV t.exp t.hasExp t.age t.hasAge n := ⟨_, rfl⟩
  obtain ⟨v, hv⟩ : ∃ v, v = untilV t.exp t.hasExp t.age t.hasAge (n + m) := ⟨_, rfl⟩
  rw [← hu] at HU
  rw [← hv] at HV
  obtain ⟨hx, hg, hcase⟩ := until_law t.exp t.age n m u v t.hasExp t.hasAge hn hn2 hm hm2 hu hv
  have Hx := hid hx
  have Hcase := hid hcase
  clear hu hv hcase hx
  have W0 := hid ((Cks.start w).box (t := t) rfl)
  have hr1 : (w.alloc (.cells (rowC t) 24)).heap[w.heap.size]? = some (.cells (rowC t) 24 (0, 0)) := W0.out.at (by simp)
  have hi := infoTd t
  have v1 : IntKind.i64.wrap n = n := IntWalk.i64_in _ (by omega)
  have v2 : IntKind.i64.wrap m = m := IntWalk.i64_in _ (by omega)
  have v3 : IntKind.i64.wrap (n + m) = n + m := IntWalk.i64_in _ (by omega)
  have v4 : IntKind.i64.wrap (n + 34560000) = n + 34560000 := IntWalk.i64_in _ (by omega)
  clear G
  have h11 : (11 : Nat) = (rowC t).size := rfl
  have hone := rowC_one t
  generalize hC : rowC t = C at *
  have HC := hid hC
  have H11 := hid h11
  have Hone := hid hone
  clear hC h11 hone
  go_enter Tryz.func3, Tryz.ntmps3
  go_upto_region 2 with fail
  generalize w.alloc _ = w1 at *
  go_wp2_with (refine wpList_load_row rfl 24 _ rfl w.heap.size rfl _ _ _ _ hr1 Tryz.underlying24 rfl hi ?_)
  refine (HU.out _).mono ?_
  rintro e w2 ⟨rfl, hb2⟩
  have W2 := hid (W0.out.go hb2)
  clear hb2 hr1
  have hr2 := W2.out.at (g := w.heap.size) (t := t) (by simp)
  rw [HC.out] at hr2
  go_wp2_with (refine wpList_load_row rfl 24 _ rfl w.heap.size rfl _ _ _ _ hr2 Tryz.underlying24 rfl hi ?_)
  refine (HV.out _).mono ?_
  rintro e w3 ⟨rfl, hb3⟩
  have W3 := hid (W2.out.go hb3)
  clear hb3 hr2
  go_upto_region 4 with fail
  have hr3 := W3.out.at (g := w.heap.size) (t := t) (by simp)
  have c7 : w3.cell? ⟨w.heap.size, 7, none⟩ = some (.bool t.hasAge) := (show Blk w3 w.heap.size 24 (rowC t) from hr3).cell rfl
  have c5 : w3.cell? ⟨w.heap.size, 5, none⟩ = some (.bool t.hasExp) := (show Blk w3 w.heap.size 24 (rowC t) from hr3).cell rfl
  rw [HC.out] at hr3
  obtain ⟨ha, hha⟩ : ∃ b, b = t.hasAge := ⟨_, rfl⟩
  obtain ⟨he, hhe⟩ : ∃ b, b = t.hasExp := ⟨_, rfl⟩
  rw [← hha] at c7
  rw [← hhe] at c5
  have Hha := hid hha
  have hcase := Hcase.out
  rw [← hha, ← hhe] at hcase
  clear Hcase hha hhe
  have h2 : ¬ u > n + 34560000 := by omega
  have hall : ∃ b1 b2 b3 b4 b5 b6 : Bool, (u == -1) = b1 ∧ (v == u) = b2 ∧ (v == 0) = b3 ∧ decide (u > 0) = b4 ∧ decide (u ≤ n) = b5 ∧ decide (v > u) = b6 ∧ ¬ u < -1 ∧ (b1 = (!ha && !he)) ∧ (b4 = true → b5 = false) ∧ (b2 = true ∨ (b3 = true ∧ ha = false) ∨ (b6 = true ∧ b4 = true)) := by
    refine ⟨_, _, _, _, _, _, rfl, rfl, rfl, rfl, rfl, rfl, ?_, ?_, ?_, ?_⟩
    · omega
    · rcases hcase with ⟨rfl, rfl, h, _⟩ | ⟨h, h'⟩
      · rw [h]; rfl
      · have e : (u == -1) = false := by rw [beq_eq_false_iff_ne]; omega
        rw [e]
        rcases h with rfl | rfl
        · rfl
        · cases ha <;> rfl
    · intro h
      have h := of_decide_eq_true h
      exact decide_eq_false (by omega)
    · rcases hcase with ⟨rfl, rfl, h, h'⟩ | ⟨h, ⟨h1, h2⟩ | ⟨h1, h2, h3 | ⟨h3, h4⟩ | h3⟩⟩
      · left; rw [h, h']; rfl
      · left; rw [h1, h2]; rfl
      · left; rw [h3]; exact beq_self_eq_true _
      · right; left; exact ⟨by rw [h3]; rfl, h4⟩
      · right; right; exact ⟨decide_eq_true h3, decide_eq_true h2⟩
  clear hcase hg hn hn2 hm hm2
  obtain ⟨b1, b2, b3, b4, b5, b6, k1, k2, k3, k4, k5, k6, hlt, hq, hpos, hfin⟩ := hall
  subst hq
  have Hfin := hid hfin
  clear hfin
  have Hpos := hid hpos
  clear hpos
  have h4 : (b4 = true ∧ b5 = false) ∨ b4 = false := by
    cases b4
    · exact .inr rfl
    · exact .inl ⟨rfl, Hpos.out rfl⟩
  clear Hpos
  have HX' : Hid (∀ w, ha = true → Calls Tryz.prog 11 #[.agg (rowC { t with exp := 7, hasExp := true }), .int .i64 n] w fun e w' => e = .returned (.int .i64 u) ∧ Below w.heap.size w w') := hid (fun w h => by
    refine (HX.out w).mono ?_
    rintro e w' ⟨he, hb⟩
    refine ⟨he.trans ?_, hb⟩
    have := Hx.out (by rw [← Hha.out]; exact h)
    rw [← this])
  clear HX Hx
  obtain ⟨bt, hbt⟩ : ∃ bt, bt = w.heap.size := ⟨_, rfl⟩
  rw [← hbt] at W3 c7 c5 hr3 ⊢
  have Hbt := hid hbt
  clear hbt
  go_cut [51] (fun va wx => va = .bool false ∧ wx = w3)
  case first =>
    clear hr3
    rcases h4 with ⟨rfl, rfl⟩ | rfl
    all_goals
      have p4 := k4
      simp only [decide_eq_true_eq, decide_eq_false_iff_not] at p4
      try simp only [decide_eq_false_iff_not] at k5
      cases ha <;> cases he
    all_goals
      simp only [Bool.not_true, Bool.not_false, Bool.and_true, Bool.and_false, Bool.and_self] at k1
      go_wp2
      go_meet
      exact ⟨rfl, rfl⟩
  case rest =>
    obtain ⟨rfl, rfl⟩ := hcut
    clear c5 c7 k1 h4 k5 hlt h2
    go_upto_region 6 with fail
    have W4 := hid (W3.out.add #[.string ⟨#[]⟩, .string ⟨#[]⟩, .string ⟨#[]⟩, .string ⟨#[]⟩, .int .i64 0, .bool false, .int .i64 0, .bool false, .bool false, .bool false, .int .u8 0] t)
    rw [HC.out] at W4
    have hlt3 : bt < wc.heap.size := (Array.getElem?_eq_some_iff.1 hr3).1
    have hw3 : w.heap.size ≤ wc.heap.size := by rw [← Hbt.out]; omega
    go_upto_region 7 with (first
      | (refine wpList_load_row rfl 24 _ rfl bt rfl _ _ _ _ hr3 Tryz.underlying24 rfl hi ?_)
      | (refine wpList_store_row rfl 24 _ _ rfl wc.heap.size C rfl rfl _ _ (heap_alloc_new wc _) hi H11.out Hone.out ?_))
    have hcks := W4.out.two (g := wc.heap.size) (b := bt) hw3 (by omega)
    have W5 := hid hcks
    clear hcks hr3
    generalize World.setRow _ wc.heap.size C = w4 at *
    obtain ⟨g, hg⟩ : ∃ g, g = wc.heap.size := ⟨_, rfl⟩
    rw [← hg] at W4 W5 hlt3 ⊢
    clear hg hw3
    have hblk : Blk w4 g 24 (rowC t) := W4.out.at (by simp)
    have d4 : w4.cell? ⟨g, 4, none⟩ = some (.int .i64 t.exp) := hblk.cell rfl
    have d5 : w4.cell? ⟨g, 5, none⟩ = some (.bool t.hasExp) := hblk.cell rfl
    have f4 := hblk.free 4
    have f5 := hblk.free 5
    clear hblk
    go_upto_region 9 with fail
    generalize World.setCell _ _ _ = w6 at *
    have c7 : w6.cell? ⟨bt, 7, none⟩ = some (.bool t.hasAge) := (show Blk w6 bt 24 (rowC t) from W5.out.at (by simp)).cell rfl
    rw [← Hha.out] at c7
    have hx : w6.heap[g]? = some (.cells (rowC { t with exp := 7, hasExp := true }) 24 (0, 0)) := W5.out.at (by simp)
    clear W4 d4 d5 f4 f5
    have hux : (u != u) = false := by simp
    cases ha with
    | false =>
      go_wp2_with fail
      refine (alive_any _ (HG.out.below W5.out.below)).mono ?_
      rintro e w7 ⟨rfl, hb7⟩
      have W7 := hid (W5.out.go hb7)
      clear hb7 c7 hx
      have c7 : w7.cell? ⟨bt, 7, none⟩ = some (.bool t.hasAge) := (show Blk w7 bt 24 (rowC t) from W7.out.at (by simp)).cell rfl
      rw [← Hha.out] at c7
      have hfin := Hfin.out
      cases b2
      · have h2 : (b3 = true ∧ (false : Bool) = false) ∨ (b6 = true ∧ b4 = true) := by simpa using hfin
        clear hfin
        rcases h2 with ⟨rfl, hh⟩ | ⟨rfl, rfl⟩
        · clear hh k4 k6
          go_wp2
          go_ret
          exact ⟨rfl, W7.out.below⟩
        · simp only [decide_eq_true_eq] at k4 k6
          cases b3
          all_goals
            go_wp2
            go_ret
            exact ⟨rfl, W7.out.below⟩
      · clear hfin k6 k4 k3
        go_wp2
        go_ret
        exact ⟨rfl, W7.out.below⟩
    | true =>
      go_wp2_with (refine load_ckG (by rfl) _ rfl g rfl { t with exp := 7, hasExp := true } hx ?_)
      refine (HX'.out _ (by trivial)).mono ?_
      rintro e w6b ⟨rfl, hb6⟩
      have W6 := hid (W5.out.go hb6)
      clear hb6 c7 hx
      go_wp2_with fail
      refine (alive_any _ (HG.out.below W6.out.below)).mono ?_
      rintro e w7 ⟨rfl, hb7⟩
      have W7 := hid (W6.out.go hb7)
      clear hb7
      have c7 : w7.cell? ⟨bt, 7, none⟩ = some (.bool t.hasAge) := (show Blk w7 bt 24 (rowC t) from W7.out.at (by simp)).cell rfl
      rw [← Hha.out] at c7
      have hfin := Hfin.out
      cases b2
      · have h2 : (b3 = true ∧ (true : Bool) = false) ∨ (b6 = true ∧ b4 = true) := by simpa using hfin
        clear hfin
        rcases h2 with ⟨rfl, hh⟩ | ⟨rfl, rfl⟩
        · exact absurd hh (by decide)
        · simp only [decide_eq_true_eq] at k4 k6
          cases b3
          all_goals
            go_wp2
            go_ret
            exact ⟨rfl, W7.out.below⟩
      · clear hfin k6 k4 k3
        go_wp2
        go_ret
        exact ⟨rfl, W7.out.below⟩
theorem setcookieUntil_walk (x0 : ByteArray) (_w0 : x0.size ≤ maxLen) (_z0 : x0.size ≤ 140737488351232) (x1 : ByteArray) (_w1 : x1.size ≤ maxLen) (_z1 : x1.size ≤ 140737488351232) (x2 : ByteArray) (_w2 : x2.size ≤ maxLen) (_z2 : x2.size ≤ 140737488351232) (x3 : ByteArray) (_w3 : x3.size ≤ maxLen) (_z3 : x3.size ≤ 140737488351232)
    (x4 : Int) (_w4 : (Lit.int .i64 x4).wf = true) (x5 : Bool) (x6 : Int) (_w6 : (Lit.int .i64 x6).wf = true) (x7 x8 x9 : Bool) (x10 : Int) (w10 : (Lit.int .u8 x10).wf = true) (n : Int) (hn : (Lit.int .u32 n).wf = true) (m : Int) (hm : (Lit.int .u32 m).wf = true) (w : World) (hL : laidMetH Tryz.prog Rows.setcookieUntilRow.laid w) (hsh : w.ShapedOpen Tryz.prog) :
    Calls Tryz.prog 3 #[.agg #[.string x0, .string x1, .string x2, .string x3, .int .i64 x4, .bool x5, .int .i64 x6, .bool x7, .bool x8, .bool x9, .int .u8 x10], .int .u32 n, .int .u32 m] w fun e w' => e = .returned (.bool true) ∧ Below w.heap.size w w' := by
  have G := good_of hL (by kernel_rfl) (by kernel_rfl) (by kernel_rfl) hsh
  have e0 : IntKind.u32.min = 0 := rfl
  have e1 : IntKind.u32.max = 4294967295 := rfl
  have n0 := (wf_bounds hn).1
  have n1 := (wf_bounds hn).2
  have m0 := (wf_bounds hm).1
  have m1 := (wf_bounds hm).2
  rw [e0] at n0 m0
  rw [e1] at n1 m1
  rw [toC_row w10]
  exact until_told _ n m n0 n1 m0 m1 w G
end Go.Proofs.YthfndlphhgchnaaGreatDoor
