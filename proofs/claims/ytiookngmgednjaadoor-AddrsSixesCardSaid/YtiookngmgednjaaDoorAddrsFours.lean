/- Walk of the law AddrsFours: both read every text alike. -/
import Derived.Test.YtiookngmgednjaaDoorAd13
import Derived.Test.YtiookngmgednjaaDoorAd14
import Derived.Test.YtiookngmgednjaaDoorLaid
import Derived.Test.YtiookngmgednjaaDoorRows
import Derived.Test.YtiookngmgednjaaDoorBeyond
import Derived.Test.YtiookngmgednjaaDoorAdrEq
namespace Go.Proofs.YtiookngmgednjaaDoor
open Go.RowKit Go.Lib Go.Proofs.Foot

theorem goodE_of {laid : List (String × DataW Unit)} {w : World} (D1 D2 : DataW Unit) (hD1 : ∃ nm d, D1 = .iface nm d) (hD2 : ∃ nm d, D2 = .iface nm d) (hL : laidMetH Tryd.prog laid w)
    (hf1 : (laid.filter fun x => x.1 == "strconv.ErrSyntax") = [("strconv.ErrSyntax", D1)]) (hf2 : (laid.filter fun x => x.1 == "strconv.ErrRange") = [("strconv.ErrRange", D2)]) (hn1 : D1.handleName? = none) (hn2 : D2.handleName? = none) : GoodE w := by
  obtain ⟨t1, p1, h1⟩ := laid_iface D1 hD1 hL (show Tryd.prog.globalNamed "strconv.ErrSyntax" = some 6 by kernel_rfl) (show (Tryd.prog.globals[6]?).map (·.type) = some 70 by kernel_rfl) ⟨_, Tryd.underlying70⟩ hf1 hn1
  obtain ⟨t2, p2, h2⟩ := laid_iface D2 hD2 hL (show Tryd.prog.globalNamed "strconv.ErrRange" = some 7 by kernel_rfl) (show (Tryd.prog.globals[7]?).map (·.type) = some 70 by kernel_rfl) ⟨_, Tryd.underlying70⟩ hf2 hn2
  exact ⟨⟨_, h1, .inr ⟨_, _, rfl⟩⟩, _, h2, .inr ⟨_, _, rfl⟩⟩
theorem fourR_len (o : Option Nat) : (fourR o).1.length = 16 := by cases o <;> rfl
theorem fourS_len (l : List UInt8) : (fourS l).1.length = 16 := by
  rw [fourS_is (l := l) rfl rfl]
  split
  · split
    · rfl
    · exact fourR_len _
  · rfl
/-- The block of an address just laid and stored. -/
theorem laid_row (w : World) (Z C : Array Value) (t : TypeId) : ((w.alloc (.cells Z t)).setRow w.heap.size C).heap[w.heap.size]? = some (.cells C t (0, 0)) := setRow_heap _ _ _ _ _ _ (heap_alloc_new _ _)
theorem laid_below (w : World) (Z C : Array Value) (t : TypeId) : Below w.heap.size w ((w.alloc (.cells Z t)).setRow w.heap.size C) := below_setRow ((Below.refl _ _).alloc (Nat.le_refl _) _) (Nat.le_refl _) _
theorem laid_size (w : World) (Z C : Array Value) (t : TypeId) : w.heap.size < ((w.alloc (.cells Z t)).setRow w.heap.size C).heap.size := (Array.getElem?_eq_some_iff.1 (laid_row w Z C t)).1
set_option maxHeartbeats 1000000 in
set_option maxRecDepth 100000 in
theorem addrsFours_walk (s : ByteArray) (_hs : s.size ≤ maxLen) (z : s.size ≤ 140737488351232) (w : World) (hL : laidMetH Tryd.prog Rows.addrsFoursRow.laid w) (hsh : w.ShapedOpen Tryd.prog) :
    Calls Tryd.prog 4 #[.string s] w fun e w' => e = .returned (.bool true) ∧ Below w.heap.size w w' := by
  have G := hid (goodE_of Rows.laid_strconv_ErrSyntax Rows.laid_strconv_ErrRange ⟨_, _, rfl⟩ ⟨_, _, rfl⟩ hL (by kernel_rfl) (by kernel_rfl) (by kernel_rfl) (by kernel_rfl))
  have Hsh := hid hsh
  clear hL hsh _hs
  cases hb : beyond [s.size] with
  | true =>
    go_enter Tryd.func4, Tryd.ntmps4
    go_wp2_with (go_at_call 13; refine (beyond1 _ _ z).mono ?_; rintro e w1 ⟨rfl, rfl⟩)
    go_ret
    exact ⟨rfl, (Below.refl _ _).alloc (Nat.le_refl _) _⟩
  | false =>
    have hle := beyond_le (zs := [s.size]) (by rw [hb]; decide)
    have hs : s.size ≤ 1048576 := by simpa using hle
    clear hle
    obtain ⟨R, ok, er, hx⟩ : ∃ (R : List UInt8) (ok : Bool) (er : Nat), fourS s.data.toList = (R, ok, er) := ⟨_, _, _, rfl⟩
    have hR16 : R.length = 16 := by have := fourS_len s.data.toList; rw [hx] at this; exact this
    have HA : Hid (∀ w, w.ShapedOpen Tryd.prog → GoodE w → Calls Tryd.prog 14 #[.string s] w fun e w' => e = .returned (.tuple #[.agg (adrC false R), .bool ok, .int .i64 er]) ∧ Below w.heap.size w w') := hid (fun w h1 h2 => by
      have := fourA_any s (by omega) w h1 h2
      rw [hx] at this; exact this)
    have HR : Hid (∀ w, Calls Tryd.prog 15 #[.string s] w fun e w' => e = .returned (.tuple #[.agg (adrC false R), .bool ok, .int .i64 er]) ∧ Below w.heap.size w w') := hid (fun w => by
      have := fourR_any s (by omega) w
      rw [hx] at this; exact this)
    have heq := adr_eql false R hR16
    have hC17 : (17 : Nat) = (adrC false R).size := by simp [adrC, hR16]
    have hi := infoAdr R hR16 false
    have h1 := adr_one false R
    generalize adrC false R = C at *
    have HC17 := hid hC17
    clear hx hR16 hC17
    go_enter Tryd.func4, Tryd.ntmps4
    go_wp2_with fail
    refine (beyond1 _ _ z).mono ?_
    rintro e w1 ⟨rfl, rfl⟩
    have hb1 : Below w.heap.size w (w.alloc (.cells #[.int .i64 s.size] 3)) := (Below.refl _ _).alloc (Nat.le_refl _) _
    have B1 := hid hb1
    clear hb1
    generalize w.alloc _ = w1 at *
    go_wp2_with fail
    refine (HA.out _ (Hsh.out.keptBut (B1.out.frame (fun _ => False)) (fun _ h => h.elim)) (G.out.below B1.out)).mono ?_
    rintro e w2 ⟨rfl, hb2⟩
    have B2 := hid (below_chain B1.out hb2)
    clear hb2
    go_wp2_with (refine wpList_store_row rfl 24 _ _ rfl w2.heap.size C rfl rfl _ _ (heap_alloc_new w2 _) hi HC17.out h1 ?_)
    have hg3 := laid_row w2 #[.bool false, .int .u8 0, .int .u8 0, .int .u8 0, .int .u8 0, .int .u8 0, .int .u8 0, .int .u8 0, .int .u8 0, .int .u8 0, .int .u8 0, .int .u8 0, .int .u8 0, .int .u8 0, .int .u8 0, .int .u8 0, .int .u8 0] C 24
    have hb3 := laid_below w2 #[.bool false, .int .u8 0, .int .u8 0, .int .u8 0, .int .u8 0, .int .u8 0, .int .u8 0, .int .u8 0, .int .u8 0, .int .u8 0, .int .u8 0, .int .u8 0, .int .u8 0, .int .u8 0, .int .u8 0, .int .u8 0, .int .u8 0] C 24
    have B3 := hid (below_chain B2.out hb3)
    generalize World.setRow _ w2.heap.size C = w3 at *
    have hlt3 : w2.heap.size < w3.heap.size := (Array.getElem?_eq_some_iff.1 hg3).1
    clear hb3
    refine (HR.out _).mono ?_
    rintro e w4 ⟨rfl, hb4⟩
    have hg4 := (hb4.block w2.heap.size hlt3).trans hg3
    have B4 := hid (below_chain B3.out hb4)
    have hlt4 : w2.heap.size < w4.heap.size := Nat.lt_of_lt_of_le hlt3 hb4.size
    clear hb4 hg3 hlt3
    have hgB := laid_row w4 #[.bool false, .int .u8 0, .int .u8 0, .int .u8 0, .int .u8 0, .int .u8 0, .int .u8 0, .int .u8 0, .int .u8 0, .int .u8 0, .int .u8 0, .int .u8 0, .int .u8 0, .int .u8 0, .int .u8 0, .int .u8 0, .int .u8 0] C 24
    have hgA := ((laid_below w4 #[.bool false, .int .u8 0, .int .u8 0, .int .u8 0, .int .u8 0, .int .u8 0, .int .u8 0, .int .u8 0, .int .u8 0, .int .u8 0, .int .u8 0, .int .u8 0, .int .u8 0, .int .u8 0, .int .u8 0, .int .u8 0, .int .u8 0] C 24).block w2.heap.size hlt4).trans hg4
    have B5 := hid (below_chain B4.out (laid_below w4 #[.bool false, .int .u8 0, .int .u8 0, .int .u8 0, .int .u8 0, .int .u8 0, .int .u8 0, .int .u8 0, .int .u8 0, .int .u8 0, .int .u8 0, .int .u8 0, .int .u8 0, .int .u8 0, .int .u8 0, .int .u8 0, .int .u8 0] C 24))
    clear hg4
    go_wp2_with (first
      | (refine wpList_store_row rfl 24 _ _ rfl w4.heap.size C rfl rfl _ _ (heap_alloc_new w4 _) hi HC17.out h1 ?_)
      | (refine wpList_load_row rfl 24 _ rfl w2.heap.size rfl _ _ _ _ hgA Tryd.underlying24 rfl hi ?_)
      | (refine wpList_load_row rfl 24 _ rfl w4.heap.size rfl _ _ _ _ hgB Tryd.underlying24 rfl hi ?_))
    go_ret
    exact ⟨rfl, B5.out⟩
end Go.Proofs.YtiookngmgednjaaDoor
