/- Walk: a side of a text of sixteen bytes: (*side).piece. -/
import Derived.Test.YtiookngmgednjaaDoorAd13
import Derived.Test.YtiookngmgednjaaDoorApp
import Derived.Test.YtiookngmgednjaaDoorSpec04c
namespace Go.Proofs.YtiookngmgednjaaDoor
open Go.RowKit Go.Lib Go.Proofs.Foot

/-- A side lies in block b, its bytes in a row of the call's own. -/
structure SideAt (w : World) (base b : Nat) (l : List UInt8) (last : Bool) (v : Value) : Prop where
  blk : w.heap[b]? = some (.cells #[v, .bool last] 62 (0, 0))
  own : w.ownsRow base 5 1 v l.length (byteCells l)
  lt : b < base
theorem SideAt.cell0 {w : World} {base b : Nat} {l : List UInt8} {last : Bool} {v : Value} (h : SideAt w base b l last v) : w.cell? ⟨b, 0, none⟩ = some v := by
  rw [cell_of_row _ _ _ _ _ _ h.blk]; rfl
theorem SideAt.cell1 {w : World} {base b : Nat} {l : List UInt8} {last : Bool} {v : Value} (h : SideAt w base b l last v) : w.cell? ⟨b, 1, none⟩ = some (.bool last) := by
  rw [cell_of_row _ _ _ _ _ _ h.blk]; rfl
theorem SideAt.free {w : World} {base b : Nat} {l : List UInt8} {last : Bool} {v : Value} (h : SideAt w base b l last v) (k : Nat) : w.frozen? ⟨b, k, none⟩ = false := frozen_of_heap h.blk k
theorem SideAt.in_heap {w : World} {base b : Nat} {l : List UInt8} {last : Bool} {v : Value} (h : SideAt w base b l last v) : b < w.heap.size := (Array.getElem?_eq_some_iff.1 h.blk).1
theorem SideAt.touch {S : Nat → Prop} {w w' : World} {base b : Nat} {l : List UInt8} {last : Bool} {v : Value} (h : SideAt w base b l last v) (ht : Touch S w w') (hb : ¬ S b) (hv : ∀ k, v.ownBlock = some k → ¬ S k) : SideAt w' base b l last v :=
  ⟨(ht.block b h.in_heap hb).trans h.blk, ht.own h.own hv, h.lt⟩
theorem SideAt.below {w w' : World} {base b : Nat} {l : List UInt8} {last : Bool} {v : Value} (h : SideAt w base b l last v) (hb : Below w.heap.size w w') : SideAt w' base b l last v :=
  h.touch (Touch.of_below (S := fun _ => False) hb) (fun h => h) (fun _ _ h => h)
/-- The side's own blocks. -/
def SideBlk (b : Nat) (v : Value) (k : Nat) : Prop := k = b ∨ v.ownBlock = some k
/-- What a call on a side leaves: it holds l' now. -/
structure SideRun (base b : Nat) (last : Bool) (v : Value) (w : World) (l' : List UInt8) (v' : Value) (w' : World) : Prop where
  at' : SideAt w' base b l' last v'
  touch : Touch (SideBlk b v) w w'
  row : ∀ k, v'.ownBlock = some k → v.ownBlock = some k ∨ w.heap.size ≤ k
theorem SideRun.refl {w : World} {base b : Nat} {l : List UInt8} {last : Bool} {v : Value} (h : SideAt w base b l last v) : SideRun base b last v w l v w := ⟨h, Touch.refl _ _, fun _ h => .inl h⟩
theorem touch_two {b : Nat} {v v' : Value} {w w1 w2 : World} (h1 : Touch (SideBlk b v) w w1) (hr : ∀ k, v'.ownBlock = some k → v.ownBlock = some k ∨ w.heap.size ≤ k) (h2 : Touch (SideBlk b v') w1 w2) : Touch (SideBlk b v) w w2 :=
  h1.trans h2 (fun k hk h => by
    rcases h with h | h
    · exact .inl h
    · rcases hr k h with h | h
      · exact .inr h
      · omega)
theorem SideRun.trans {base b : Nat} {last : Bool} {v v1 v2 : Value} {w w1 w2 : World} {l1 l2 : List UInt8} (h1 : SideRun base b last v w l1 v1 w1) (h2 : SideRun base b last v1 w1 l2 v2 w2) : SideRun base b last v w l2 v2 w2 :=
  ⟨h2.at', touch_two h1.touch h1.row h2.touch, fun k hk => by
    rcases h2.row k hk with h | h
    · exact h1.row k h
    · exact .inr (Nat.le_trans h1.touch.size h)⟩
theorem SideRun.after {base b : Nat} {last : Bool} {v v2 : Value} {w w1 w2 : World} {l2 : List UInt8} (hb : Below w.heap.size w w1) (h2 : SideRun base b last v w1 l2 v2 w2) : SideRun base b last v w l2 v2 w2 :=
  ⟨h2.at', (Touch.of_below (S := SideBlk b v) hb).trans h2.touch (fun _ _ h => h), fun k hk => by
    rcases h2.row k hk with h | h
    · exact .inl h
    · exact .inr (Nat.le_trans hb.size h)⟩
theorem SideRun.then {base b : Nat} {last : Bool} {v v1 : Value} {w w1 w2 : World} {l1 : List UInt8} (h1 : SideRun base b last v w l1 v1 w1) (hb : Below w1.heap.size w1 w2) : SideRun base b last v w l1 v1 w2 :=
  ⟨h1.at'.below hb, h1.touch.trans (Touch.of_below (S := SideBlk b v) hb) (fun _ _ h => h), h1.row⟩
/-- The append's row stored back into the side. -/
theorem SideAt.store {w w' : World} {base b : Nat} {l m : List UInt8} {last : Bool} {v v' : Value} (h : SideAt w base b l last v) (ha : Appd base l m v w v' w') : SideRun base b last v w (l ++ m) v' (w'.setCell ⟨b, 0, none⟩ v') := by
  have hvb : ∀ k, v.ownBlock = some k → base ≤ k := fun k hk => (h.own.lt k hk).1
  have hblk := (ha.2.1.block b h.in_heap (fun e => by have := hvb b e; have := h.lt; omega)).trans h.blk
  have hvb' : ∀ k, v'.ownBlock = some k → base ≤ k := fun k hk => (ha.1.lt k hk).1
  refine ⟨⟨?_, ?_, h.lt⟩, ?_, ha.2.2⟩
  · rw [heap_setCell_same w' b 0 _ _ v' hblk]; rfl
  · exact (Touch.setCell (S := fun k => k = b) (Touch.refl _ w') (.inl rfl) v').own ha.1 (fun k hk e => by have := hvb' k hk; have := h.lt; omega)
  · exact (ha.2.1.mono (S' := SideBlk b v) (fun k _ hk => .inr hk)).setCell (.inl (.inl rfl)) v'
theorem blk_after {w w' : World} {base b : Nat} {l m : List UInt8} {last : Bool} {v v' : Value} (h : SideAt w base b l last v) (ha : Appd base l m v w v' w') : w'.heap[b]? = some (.cells #[v, .bool last] 62 (0, 0)) :=
  (ha.2.1.block b h.in_heap (fun e => by have := (h.own.lt b e).1; have := h.lt; omega)).trans h.blk
theorem cell_after {w w' : World} {base b : Nat} {l m : List UInt8} {last : Bool} {v v' : Value} (h : SideAt w base b l last v) (ha : Appd base l m v w v' w') : w'.cell? ⟨b, 0, none⟩ = some v := by
  rw [cell_of_row _ _ _ _ _ _ (blk_after h ha)]; rfl
theorem free_after {w w' : World} {base b : Nat} {l m : List UInt8} {last : Bool} {v v' : Value} (h : SideAt w base b l last v) (ha : Appd base l m v w v' w') : w'.frozen? ⟨b, 0, none⟩ = false := frozen_of_heap (blk_after h ha) 0
theorem app2 {w : World} {ops : Array Oper} {rest : List Oper} {o : Oper} {a : Act} {Q : Exit → Act → World → Prop} (hgd : o.guard = none) (s x : Operand)
    (ho : o.op = .call { callee := .builtin .append, args := #[s, x], argTypes := #[42, 42] }) (hty : o.type = 42) (base : Nat) (l : List UInt8) (b c : UInt8) (y z : Int) (hy : y = (b.toNat : Int)) (hz : z = (c.toNat : Int)) (v : Value) (hs : a.eval s = v)
    (hown : w.ownsRow base 5 1 v l.length (byteCells l)) (hx : a.eval x = .slice (some ⟨w.heap.size, 0, none⟩) 2 2) (hlen : l.length + 2 ≤ 140737488355328) (hbase : base ≤ w.heap.size)
    (h : ∀ v' w', Appd base l [b, c] v w v' w' → wpList Tryd.prog ops Q rest (a.put o.dst v') w') : wpList Tryd.prog ops Q (o :: rest) a (w.alloc (.cells #[.int .u8 y, .int .u8 z] 5)) := by
  subst hy hz
  obtain ⟨v', w', hr, hp⟩ := app_run base l [b, c] v w 0 2 2 rfl #[.int .u8 b.toNat, .int .u8 c.toNat] rfl hown hlen hbase
  refine wpList_plain hgd fun K hK => ?_
  unfold Oper.wp execOp
  have hr' : (Builtin.append_ #[42, 42] 42 #[v, .slice (some ⟨w.heap.size, 0, none⟩) 2 2]).run Tryd.prog (w.alloc (.cells #[.int .u8 b.toNat, .int .u8 c.toNat] 5)) = .ok v' w' := hr
  simp only [ho, hty, resolve, invoke, builtin, Sem.run_bind, Sem.run_pure, Result.andThen_ok, List.map_toArray, List.map_cons, List.map_nil, hs, hx, hr']
  exact hK _ _ (h v' w' hp)
theorem pieceP_yes {l x : List UInt8} (h : pieceP l = some x) : ∃ n, cntB 16 l = some n ∧ 1 ≤ l.length ∧ l.length ≤ 4 ∧ x = [UInt8.ofNat (n / 256), UInt8.ofNat n] := by
  unfold pieceP at h
  split at h
  · rename_i n hn
    split at h
    · rename_i hl
      injection h with h
      exact ⟨n, hn, hl.1, hl.2, h.symm⟩
    · cases h
  · cases h
theorem pieceP_no {l : List UInt8} (h : pieceP l = none) : cntB 16 l = none ∨ l.length = 0 ∨ 4 < l.length := by
  unfold pieceP at h
  split at h
  · split at h
    · cases h
    · omega
  · rename_i hn; exact .inl hn
set_option maxHeartbeats 1000000 in
set_option maxRecDepth 100000 in
theorem pieceA_yes (s : ByteArray) (x : List UInt8) (hx : pieceP s.data.toList = some x) (hs : s.size ≤ 16777216) (w : World) (G : GoodE w) (base b : Nat) (l : List UInt8) (last : Bool) (v : Value) (hS : SideAt w base b l last v) (hbase : base ≤ w.heap.size) (hl : l.length ≤ 16777216) :
    Calls Tryd.prog 46 #[.pointer (some ⟨b, 0, none⟩), .string s] w fun e w' => ∃ v', e = .returned (.bool true) ∧ SideRun base b last v w (l ++ x) v' w' := by
  obtain ⟨n, hn, h1, h4, rfl⟩ := pieceP_yes hx
  have hz1 : 1 ≤ s.size := by rw [Lib.size_eq]; exact h1
  have hz4 : ¬ (s.size : Int) > 4 := by rw [Lib.size_eq]; omega
  have hemp := empty_not (T := s) (fun e => by rw [e] at h1; simp at h1)
  have hnb := cntB_le hn
  have HC := hid (count_A (b := 16) (by omega) hs (n := n) (k := true) (by rw [hn]; rfl) w G)
  have hcv0 : IntKind.u8.wrap ((n : Int) / 256) = ((UInt8.ofNat (n / 256)).toNat : Int) := by rw [IntKind.wrap_u8, UInt8.toNat_ofNat']; omega
  have hcv1 : IntKind.u8.wrap (n : Int) = ((UInt8.ofNat n).toNat : Int) := by rw [IntKind.wrap_u8, UInt8.toNat_ofNat']; omega
  have HS := hid hS
  clear hx hn h1 h4 G hS hnb
  go_enter Tryd.func46, Tryd.ntmps46
  go_wp2_with fail
  refine HC.out.mono ?_
  rintro e w1 ⟨rfl, hb1⟩
  have hS1 := HS.out.below hb1
  have c0 := hS1.cell0
  have HS1 := hid hS1
  have HB1 := hid hb1
  have hbase1 : base ≤ w1.heap.size := Nat.le_trans hbase hb1.size
  clear hb1 hS1
  obtain ⟨ao, cap, hvs⟩ := slice_of_row HS1.out.own
  subst hvs
  go_wp2_with (at_builtin; refine app2 rfl _ _ rfl rfl base l (UInt8.ofNat (n / 256)) (UInt8.ofNat n) _ _ hcv0 hcv1 (.slice ao l.length cap) rfl HS1.out.own rfl (by omega) hbase1 ?_; intro v' w5 happ; obtain ⟨ao2, cap2, hv2⟩ := slice_of_row happ.1; rw [List.length_append] at hv2; subst hv2; have hst := HS1.out.store happ; have c5 := cell_after HS1.out happ; have f5 := free_after HS1.out happ; have Hst := hid hst; clear hst happ)
  go_ret
  exact ⟨_, rfl, SideRun.after HB1.out Hst.out⟩
/-- A call on a side that says no. -/
def SideNo (b : Nat) (v : Value) (w w' : World) : Prop := Touch (SideBlk b v) w w'
set_option maxHeartbeats 1000000 in
set_option maxRecDepth 100000 in
theorem pieceA_no (s : ByteArray) (hx : pieceP s.data.toList = none) (hs : s.size ≤ 16777216) (w : World) (G : GoodE w) (b : Nat) (v : Value) :
    Calls Tryd.prog 46 #[.pointer (some ⟨b, 0, none⟩), .string s] w fun e w' => e = .returned (.bool false) ∧ SideNo b v w w' := by
  obtain ⟨n, ok, ho⟩ := optV_pair (cntB 16 s.data.toList)
  have HC := hid (count_A (b := 16) (by omega) hs ho w G)
  have hways : ok = false ∨ (ok = true ∧ s.size = 0) ∨ (ok = true ∧ 4 < s.size ∧ s.size ≠ 0) := by
    rcases pieceP_no hx with h | h | h
    · rw [h] at ho; left; simp [optV] at ho; exact ho.2
    · cases ok
      · exact .inl rfl
      · exact .inr (.inl ⟨rfl, by rw [Lib.size_eq]; exact h⟩)
    · cases ok
      · exact .inl rfl
      · exact .inr (.inr ⟨rfl, by rw [Lib.size_eq]; exact h, by rw [Lib.size_eq]; omega⟩)
  clear hx ho G
  rcases hways with rfl | ⟨rfl, h0⟩ | ⟨rfl, h4, h0⟩
  · go_enter Tryd.func46, Tryd.ntmps46
    go_wp2_with (go_at_call 42; refine HC.out.mono ?_; rintro e w1 ⟨rfl, hb1⟩)
    all_goals go_ret
    all_goals exact ⟨rfl, Touch.of_below hb1⟩
  · have hl : s.data.toList = [] := List.eq_nil_of_length_eq_zero (by rw [← Lib.size_eq]; exact h0)
    have hse : s = ⟨#[]⟩ := by cases s; simp at hl; rw [hl]
    subst hse
    clear hl h0
    go_enter Tryd.func46, Tryd.ntmps46
    go_wp2_with (go_at_call 42; refine HC.out.mono ?_; rintro e w1 ⟨rfl, hb1⟩)
    go_ret
    exact ⟨rfl, Touch.of_below hb1⟩
  · have hemp := empty_not (T := s) (fun e => h0 (by rw [Lib.size_eq, e]; rfl))
    have hz4 : (s.size : Int) > 4 := by omega
    clear h0
    go_enter Tryd.func46, Tryd.ntmps46
    go_wp2_with (go_at_call 42; refine HC.out.mono ?_; rintro e w1 ⟨rfl, hb1⟩)
    go_ret
    exact ⟨rfl, Touch.of_below hb1⟩
end Go.Proofs.YtiookngmgednjaaDoor
