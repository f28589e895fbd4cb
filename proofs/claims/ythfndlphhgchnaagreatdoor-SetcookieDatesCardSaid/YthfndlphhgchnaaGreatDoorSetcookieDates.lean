/- Walk of the law SetcookieDates: a cookie with a date ends then. -/
import Derived.Test.YthfndlphhgchnaaGreatDoorSk
import Derived.Test.YthfndlphhgchnaaGreatDoorSi
import Derived.Test.YthfndlphhgchnaaGreatDoorRows
import Derived.Test.YthfndlphhgchnaaGreatDoorGood7
namespace Go.Proofs.YthfndlphhgchnaaGreatDoor
open Go.RowKit Go.Lib Go.Proofs.Foot

theorem until_of (t : CkT) (now : Int) (w : World) : Calls Tryz.prog 11 #[.agg (rowC t), .int .i64 now] w fun e w' => e = .returned (.int .i64 (untilV t.exp t.hasExp t.age t.hasAge now)) ∧ Below w.heap.size w w' :=
  untilA_any _ _ _ _ _ _ _ _ _ _ _ _ w
set_option maxHeartbeats 4000000 in
set_option maxRecDepth 100000 in
theorem setcookieDates_walk (n0 : Int) (hn0 : (Lit.int .u32 n0).wf = true) (m : Int) (hm : (Lit.int .u32 m).wf = true) (w : World) (hL : laidMetH Tryz.prog Rows.setcookieDatesRow.laid w) (hsh : w.ShapedOpen Tryz.prog) :
    Calls Tryz.prog 4 #[.int .u32 n0, .int .u32 m] w fun e w' => e = .returned (.bool true) ∧ Below w.heap.size w w' := by
  have HG := hid (good_of hL (by kernel_rfl) (by kernel_rfl) (by kernel_rfl) hsh)
  have e0 : IntKind.u32.min = 0 := rfl
  have e1 : IntKind.u32.max = 4294967295 := rfl
  have n1 := (wf_bounds hn0).1
  have n2 := (wf_bounds hn0).2
  have m1 := (wf_bounds hm).1
  have m2 := (wf_bounds hm).2
  rw [e0] at n1 m1
  rw [e1] at n2 m2
  clear e0 e1 hn0 hm hL hsh
  obtain ⟨n, rfl⟩ := Int.eq_ofNat_of_zero_le n1
  clear n1
  obtain ⟨D, hD⟩ : ∃ D : ByteArray, IsText D.data.toList n := by
    rcases text_cases (n : Int) with h | ⟨k, hk, T, hT⟩
    · exact absurd ⟨by omega, by omega⟩ h
    · obtain rfl : n = k := by omega
      exact ⟨T, hT⟩
  have HT := hid (fun w (G : Good w) => textA_is n D hD w G)
  obtain ⟨S, hS⟩ : ∃ S : ByteArray, S = ⟨#[97, 61, 98, 59, 32, 101, 120, 112, 105, 114, 101, 115, 61]⟩ ++ D := ⟨_, rfl⟩
  have zD : D.size ≤ 29 := dateTx_len (.inr ⟨n, rfl, hD⟩)
  have hadd := addS hS (by show (13 : Int) ≤ _; decide) (by omega)
  obtain ⟨t, ht⟩ : ∃ t : CkT, t = { name := [97], value := [98], exp := n, hasExp := true } := ⟨_, rfl⟩
  have hp : parseC S.data.toList = (t, 0) := by rw [hS, catL, ht]; exact date_alone hD
  have HP := hid (fun w (G : Good w) => parseA_is S w G t 0 hp)
  have hq : ∀ V, (binOp .eql 24 (.agg (rowC t)) (.agg #[.string ⟨#[97]⟩, .string ⟨#[98]⟩, .string ⟨#[]⟩, .string ⟨#[]⟩, .int .i64 n, .bool true, .int .i64 0, .bool false, .bool false, .bool false, .int .u8 0])).run Tryz.prog V = .ok (.bool true) V :=
    ck_eql t { name := [97], value := [98], exp := n, hasExp := true } (wf_parse hp) (by rw [← ht]; exact wf_parse hp) true (decide_eq_true ht)
  have Hq := hid hq
  have hnow : nowV m = m := by unfold nowV; omega
  obtain ⟨U, hU⟩ : ∃ U : Int, U = if (n : Int) ≤ m then 0 else min (n : Int) (m + 34560000) := ⟨_, rfl⟩
  have HU : Hid (∀ w, Calls Tryz.prog 11 #[.agg (rowC t), .int .i64 m] w fun e w' => e = .returned (.int .i64 U) ∧ Below w.heap.size w w') := hid (fun w => by
    have := until_of t m w
    rw [show untilV t.exp t.hasExp t.age t.hasAge m = U from by rw [ht, hU]; show (if (n : Int) ≤ nowV m then 0 else min (n : Int) (nowV m + 34560000)) = _; rw [hnow]] at this
    exact this)
  have v1 : IntKind.i64.wrap (n : Int) = n := IntWalk.i64_in _ (by omega)
  have v2 : IntKind.i64.wrap m = m := IntWalk.i64_in _ (by omega)
  have v3 : IntKind.i64.wrap (m + 34560000) = m + 34560000 := IntWalk.i64_in _ (by omega)
  have W0 := hid (Cks.start w)
  clear hD hS zD ht hp hq hnow
  go_enter Tryz.func4, Tryz.ntmps4
  go_wp2_with fail
  refine (HT.out _ HG.out).mono ?_
  rintro e w1 ⟨rfl, hb1⟩
  have W1 := hid (W0.out.go hb1)
  clear hb1
  go_wp2_with fail
  refine (HP.out _ (HG.out.below W1.out.below)).mono ?_
  rintro e w2 ⟨rfl, hb2⟩
  have W2 := hid (W1.out.go hb2)
  clear hb2
  go_upto_region 3 with (refine wpList_store_row rfl 24 _ _ rfl w2.heap.size (rowC t) rfl rfl _ _ (heap_alloc_new w2 _) (infoTd t) rfl (rowC_one t) ?_)
  have W3 := hid (W2.out.add #[.string ⟨#[]⟩, .string ⟨#[]⟩, .string ⟨#[]⟩, .string ⟨#[]⟩, .int .i64 0, .bool false, .int .i64 0, .bool false, .bool false, .bool false, .int .u8 0] t)
  generalize World.setRow _ w2.heap.size (rowC t) = w3 at *
  by_cases hle : (n : Int) ≤ m
  · have e : U = 0 := by rw [hU, if_pos hle]
    subst e
    clear hU
    go_wp2_with fail
    refine (alive_any _ (HG.out.below W3.out.below)).mono ?_
    rintro e w4 ⟨rfl, hb4⟩
    have W4 := hid (W3.out.go hb4)
    clear hb4
    have r := W4.out.at (g := w2.heap.size) (t := t) (by simp)
    have q := Hq.out
    go_wp2_with (refine load_ckG (by rfl) _ rfl w2.heap.size rfl t r ?_)
    refine (HU.out _).mono ?_
    rintro e w5 ⟨rfl, hb5⟩
    have W5 := hid (W4.out.go hb5)
    clear hb5
    go_wp2
    go_ret
    exact ⟨rfl, W5.out.below⟩
  · have e : U = min (n : Int) (m + 34560000) := by rw [hU, if_neg hle]
    subst e
    clear hU
    go_wp2_with fail
    refine (alive_any _ (HG.out.below W3.out.below)).mono ?_
    rintro e w4 ⟨rfl, hb4⟩
    have W4 := hid (W3.out.go hb4)
    clear hb4
    have r := W4.out.at (g := w2.heap.size) (t := t) (by simp)
    have q := Hq.out
    go_wp2_with (refine load_ckG (by rfl) _ rfl w2.heap.size rfl t r ?_)
    refine (HU.out _).mono ?_
    rintro e w5 ⟨rfl, hb5⟩
    have W5 := hid (W4.out.go hb5)
    clear hb5
    go_wp2
    go_ret
    exact ⟨rfl, W5.out.below⟩
end Go.Proofs.YthfndlphhgchnaaGreatDoor
