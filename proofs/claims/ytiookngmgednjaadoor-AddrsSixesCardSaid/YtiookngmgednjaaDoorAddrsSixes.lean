/- Walk of the law AddrsSixes: both read every text of sixteen bytes alike. -/
import Derived.Test.YtiookngmgednjaaDoorSd7
import Derived.Test.YtiookngmgednjaaDoorGoodA
import Derived.Test.YtiookngmgednjaaDoorGoodE
import Derived.Test.YtiookngmgednjaaDoorRows
import Derived.Test.YtiookngmgednjaaDoorBeyond
import Derived.Test.YtiookngmgednjaaDoorAdrEq
namespace Go.Proofs.YtiookngmgednjaaDoor
open Go.RowKit Go.Lib Go.Proofs.Foot

theorem sixOf_len (f : Bool) (a b : Option (List UInt8)) : (sixOf f a b).2.1.length = 16 := by
  cases a with
  | none => rw [sixOf_none1]; rfl
  | some x =>
    cases b with
    | none => rw [sixOf_none2]; rfl
    | some y =>
      rw [sixOf_some]
      split
      · rename_i h
        show (x ++ noughts _ ++ y).length = 16
        rw [List.length_append, List.length_append]
        simp only [noughts, List.length_replicate]
        omega
      · rfl
set_option maxHeartbeats 1000000 in
set_option maxRecDepth 100000 in
theorem addrsSixes_walk (s : ByteArray) (_hs : s.size ≤ maxLen) (z : s.size ≤ 140737488351232) (w : World) (hL : laidMetH Tryd.prog Rows.addrsSixesRow.laid w) (hsh : w.ShapedOpen Tryd.prog) :
    Calls Tryd.prog 5 #[.string s] w fun e w' => e = .returned (.bool true) ∧ Below w.heap.size w w' := by
  have G := hid (show Amb w from ⟨goodE_of Rows.laid_strconv_ErrSyntax Rows.laid_strconv_ErrRange ⟨_, _, rfl⟩ ⟨_, _, rfl⟩ hL (by kernel_rfl) (by kernel_rfl) (by kernel_rfl) (by kernel_rfl), goodA_of hL (by kernel_rfl) (by kernel_rfl), hsh⟩)
  clear hL hsh _hs
  cases hb : beyond [s.size] with
  | true =>
    go_enter Tryd.func5, Tryd.ntmps5
    go_wp2_with (go_at_call 13; refine (beyond1 _ _ z).mono ?_; rintro e w1 ⟨rfl, rfl⟩)
    go_ret
    exact ⟨rfl, (Below.refl _ _).alloc (Nat.le_refl _) _⟩
  | false =>
    have hle := beyond_le (zs := [s.size]) (by rw [hb]; decide)
    have hs : s.size ≤ 1048576 := by simpa using hle
    clear hle
    obtain ⟨six, R, er, hx⟩ : ∃ (six : Bool) (R : List UInt8) (er : Nat), sixS s.data.toList = (six, R, er) := ⟨_, _, _, rfl⟩
    have hR16 : R.length = 16 := by have := sixOf_len (Lib.cut s.data.toList [58, 58]).2.2 (takeP (!(Lib.cut s.data.toList [58, 58]).2.2) (Lib.cut s.data.toList [58, 58]).1) (takeP true (Lib.cut s.data.toList [58, 58]).2.1); rw [show sixOf _ _ _ = sixS s.data.toList from rfl, hx] at this; exact this
    have HA : Hid (∀ w, Amb w → Calls Tryd.prog 16 #[.string s] w fun e w' => e = .returned (.tuple #[.agg (adrC six R), .int .i64 er]) ∧ Below w.heap.size w w') := hid (fun w h1 => by
      have := sixA_any s hs w h1
      rw [hx] at this; exact this)
    have HR : Hid (∀ w, Calls Tryd.prog 17 #[.string s] w fun e w' => e = .returned (.tuple #[.agg (adrC six R), .int .i64 er]) ∧ Below w.heap.size w w') := hid (fun w => by
      have := sixR_any s hs w
      rw [hx] at this; exact this)
    have heq := adr_eql six R hR16
    have hC17 : (17 : Nat) = (adrC six R).size := by simp [adrC, hR16]
    have hi := infoAdr R hR16 six
    have h1 := adr_one six R
    generalize adrC six R = C at *
    have HC17 := hid hC17
    clear hx hR16 hC17
    go_enter Tryd.func5, Tryd.ntmps5
    go_wp2_with fail
    refine (beyond1 _ _ z).mono ?_
    rintro e w1 ⟨rfl, rfl⟩
    have hb1 : Below w.heap.size w (w.alloc (.cells #[.int .i64 s.size] 3)) := (Below.refl _ _).alloc (Nat.le_refl _) _
    have B1 := hid hb1
    clear hb1
    generalize w.alloc _ = w1 at *
    go_wp2_with fail
    refine (HA.out _ (G.out.below B1.out)).mono ?_
    rintro e w2 ⟨rfl, hb2⟩
    have B2 := hid (below_chain B1.out hb2)
    clear hb2
    go_wp2_with (refine wpList_store_row rfl 24 _ _ rfl w2.heap.size C rfl rfl _ _ (heap_alloc_new w2 _) hi HC17.out h1 ?_)
    have hg3 := laid_row w2 #[.bool false, .int .u8 0, .int .u8 0, .int .u8 0, .int .u8 0, .int .u8 0, .int .u8 0, .int .u8 0, .int .u8 0, .int .u8 0, .int .u8 0, .int .u8 0, .int .u8 0, .int .u8 0, .int .u8 0, .int .u8 0, .int .u8 0] C 24
    have hb3 := laid_below w2 #[.bool false, .int .u8 0, .int .u8 0, .int .u8 0, .int .u8 0, .int .u8 0, .int .u8 0, .int .u8 0, .int .u8 0, .int .u8 0, .int .u8 0, .int .u8 0, .int .u8 0, .int .u8 0, .int .u8 0, .int .u8 0, .int .u8 0] C 24
    have B3 := hid (below_chain B2.out hb3)
    generalize World.setRow _ w2.heap.size C = w3 at *
    have hlt3 : w2.heap.size < w3.heap.size := (Array.getElem?_eq_some_iff.1 hg3).1
    clear hb3
    refine (HR.out _).mono ?_
    rintro e w4 ⟨rfl, hb4⟩
    have hg4 := (hb4.block w2.heap.size hlt3).trans hg3
    have B4 := hid (below_chain B3.out hb4)
    have hlt4 : w2.heap.size < w4.heap.size := Nat.lt_of_lt_of_le hlt3 hb4.size
    clear hb4 hg3 hlt3
    have hgB := laid_row w4 #[.bool false, .int .u8 0, .int .u8 0, .int .u8 0, .int .u8 0, .int .u8 0, .int .u8 0, .int .u8 0, .int .u8 0, .int .u8 0, .int .u8 0, .int .u8 0, .int .u8 0, .int .u8 0, .int .u8 0, .int .u8 0, .int .u8 0] C 24
    have hgA := ((laid_below w4 #[.bool false, .int .u8 0, .int .u8 0, .int .u8 0, .int .u8 0, .int .u8 0, .int .u8 0, .int .u8 0, .int .u8 0, .int .u8 0, .int .u8 0, .int .u8 0, .int .u8 0, .int .u8 0, .int .u8 0, .int .u8 0, .int .u8 0] C 24).block w2.heap.size hlt4).trans hg4
    have B5 := hid (below_chain B4.out (laid_below w4 #[.bool false, .int .u8 0, .int .u8 0, .int .u8 0, .int .u8 0, .int .u8 0, .int .u8 0, .int .u8 0, .int .u8 0, .int .u8 0, .int .u8 0, .int .u8 0, .int .u8 0, .int .u8 0, .int .u8 0, .int .u8 0, .int .u8 0] C 24))
    clear hg4
    go_wp2_with (first
      | (refine wpList_store_row rfl 24 _ _ rfl w4.heap.size C rfl rfl _ _ (heap_alloc_new w4 _) hi HC17.out h1 ?_)
      | (refine wpList_load_row rfl 24 _ rfl w2.heap.size rfl _ _ _ _ hgA Tryd.underlying24 rfl hi ?_)
      | (refine wpList_load_row rfl 24 _ rfl w4.heap.size rfl _ _ _ _ hgB Tryd.underlying24 rfl hi ?_))
    go_ret
    exact ⟨rfl, B5.out⟩
end Go.Proofs.YtiookngmgednjaaDoor
