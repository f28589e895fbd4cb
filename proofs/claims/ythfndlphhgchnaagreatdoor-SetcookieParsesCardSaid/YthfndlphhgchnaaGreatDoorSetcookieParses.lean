/- Walk of the law SetcookieParses: Parse of setcookie and of the reference agree. -/
import Derived.Test.YthfndlphhgchnaaGreatDoorSf
import Derived.Test.YthfndlphhgchnaaGreatDoorSr4
import Derived.Test.YthfndlphhgchnaaGreatDoorRows
import Derived.Test.YthfndlphhgchnaaGreatDoorGood7
namespace Go.Proofs.YthfndlphhgchnaaGreatDoor
open Go.RowKit Go.Lib Go.Proofs.Foot

theorem parseR_is (s : ByteArray) (w : World) (t : CkT) (n : Nat) (h : parseC s.data.toList = (t, n)) :
    Calls Tryz.prog 15 #[.string s] w fun e w' => e = .returned (.tuple #[.agg (rowC t), .int .i64 (n : Nat)]) ∧ Below w.heap.size w w' := by
  refine (parseR_any s w).mono ?_
  rintro e w' ⟨he, hb⟩
  rw [h] at he
  exact ⟨he, hb⟩
set_option maxHeartbeats 1000000 in
set_option maxRecDepth 100000 in
theorem setcookieParses_walk (s : ByteArray) (_hs : s.size ≤ maxLen) (_z : s.size ≤ 140737488351232) (w : World) (hL : laidMetH Tryz.prog Rows.setcookieParsesRow.laid w) (hsh : w.ShapedOpen Tryz.prog) :
    Calls Tryz.prog 5 #[.string s] w fun e w' => e = .returned (.bool true) ∧ Below w.heap.size w w' := by
  have HG := hid (good_of hL (by kernel_rfl) (by kernel_rfl) (by kernel_rfl) hsh)
  clear hL hsh
  by_cases hbig : 200000 < s.size
  · have hgt : (s.size : Int) > 200000 := by omega
    go_enter Tryz.func5, Tryz.ntmps5
    go_wp2
    go_ret
    exact ⟨rfl, Below.refl _ _⟩
  · have hgt : ¬ (s.size : Int) > 200000 := by omega
    obtain ⟨t, n, hp⟩ : ∃ t n, parseC s.data.toList = (t, n) := ⟨_, _, rfl⟩
    have HA := hid (fun w G => parseA_is s w G t n hp)
    have HR := hid (fun w => parseR_is s w t n hp)
    have Hq := hid (ck_eql t t (wf_parse hp) (wf_parse hp) true (decide_eq_true rfl))
    have W0 := hid (Cks.start w)
    have _hm : s.size ≤ 9223372036854775807 := by omega
    clear hp _hs _z
    go_enter Tryz.func5, Tryz.ntmps5
    go_wp2_with fail
    refine (HA.out _ HG.out).mono ?_
    rintro e w2 ⟨rfl, hb2⟩
    have W2 := hid (W0.out.go hb2)
    clear hb2
    go_upto_region 4 with (refine wpList_store_row rfl 24 _ _ rfl w2.heap.size (rowC t) rfl rfl _ _ (heap_alloc_new w2 _) (infoTd t) rfl (rowC_one t) ?_)
    have W3 := hid (W2.out.add #[.string ⟨#[]⟩, .string ⟨#[]⟩, .string ⟨#[]⟩, .string ⟨#[]⟩, .int .i64 0, .bool false, .int .i64 0, .bool false, .bool false, .bool false, .int .u8 0] t)
    generalize World.setRow _ w2.heap.size (rowC t) = w3 at *
    go_wp2_with fail
    refine (HR.out _).mono ?_
    rintro e w4 ⟨rfl, hb4⟩
    have W4 := hid (W3.out.go hb4)
    clear hb4
    go_upto_region 5 with (refine wpList_store_row rfl 24 _ _ rfl w4.heap.size (rowC t) rfl rfl _ _ (heap_alloc_new w4 _) (infoTd t) rfl (rowC_one t) ?_)
    have W5 := hid (W4.out.add #[.string ⟨#[]⟩, .string ⟨#[]⟩, .string ⟨#[]⟩, .string ⟨#[]⟩, .int .i64 0, .bool false, .int .i64 0, .bool false, .bool false, .bool false, .int .u8 0] t)
    generalize World.setRow _ w4.heap.size (rowC t) = w5 at *
    have r1 := W5.out.at (g := w2.heap.size) (t := t) (by simp)
    have r2 := W5.out.at (g := w4.heap.size) (t := t) (by simp)
    have BB := hid W5.out.below
    have q := Hq.out
    go_wp2_with (first
      | (refine load_ckG (by rfl) _ rfl w2.heap.size rfl t r1 ?_)
      | (refine load_ckG (by rfl) _ rfl w4.heap.size rfl t r2 ?_))
    go_ret
    exact ⟨rfl, BB.out⟩
end Go.Proofs.YthfndlphhgchnaaGreatDoor
