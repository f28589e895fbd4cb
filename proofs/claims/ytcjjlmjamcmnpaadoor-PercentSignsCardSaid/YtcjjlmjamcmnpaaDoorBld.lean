/- Walks: strings.Builder's copyCheck, WriteByte, Write, String, at a builder of the call's own. -/
import Derived.Test.YtcjjlmjamcmnpaaDoorProg
import Derived.Test.YtcjjlmjamcmnpaaDoorOwn
import Derived.Lib.Builder
import Derived.Lib.Strings
import Derived.OneCell
namespace Go.Proofs.YtcjjlmjamcmnpaaDoor
open Go.RowKit Go.Lib

/-- Block b is a strings.Builder of the call's own; it holds the bytes l in the slice v. -/
def Bld (b : Nat) (l : List UInt8) (v : Value) (w : World) : Prop :=
  ∃ p, (p = .pointer none ∨ p = .pointer (some ⟨b, 0, none⟩)) ∧ w.heap[b]? = some (.cells #[p, v] 37 (0, 0)) ∧ w.ownsRow 0 5 1 v l.length (byteCells l) ∧ v.ownBlock ≠ some b

theorem Touch.freeze {S : Nat → Prop} {a w : World} (h : Touch S a w) {p : Addr} (hp : S p.block ∨ a.heap.size ≤ p.block) (n : Nat) : Touch S a (w.freeze p n) := by
  unfold World.freeze
  split
  · exact h
  · refine ⟨h.os, h.tape, h.output, by simpa using h.size, fun k hk hn => ?_⟩
    show (w.heap.modify p.block _)[k]? = _
    rw [Array.getElem?_modify, if_neg (fun e => by
      subst e
      rcases hp with hp | hp
      · exact hn hp
      · omega)]
    exact h.block k hk hn

theorem Bld.lt {b : Nat} {l : List UInt8} {v : Value} {w : World} (h : Bld b l v w) : b < w.heap.size := by
  obtain ⟨p, _, hb, _⟩ := h
  exact (Array.getElem?_eq_some_iff.1 hb).1
theorem Bld.old {b : Nat} {l : List UInt8} {v : Value} {w : World} (h : Bld b l v w) : ∀ k, v.ownBlock = some k → k < w.heap.size := by
  obtain ⟨p, _, _, ho, _⟩ := h
  exact fun k hk => (ho.lt k hk).2
theorem Bld.fresh (w : World) : Bld w.heap.size [] (.slice none 0 0) (w.alloc (.cells #[.pointer none, .slice none 0 0] 37)) :=
  ⟨_, .inl rfl, heap_alloc_new _ _, World.ownsRow_nil _ _ _ _, by simp [Value.ownBlock]⟩
theorem Bld.touch {b : Nat} {l : List UInt8} {v : Value} {w w' : World} {S : Nat → Prop} (h : Bld b l v w) (ht : Touch S w w') (hb : ¬ S b) (hv : ∀ k, v.ownBlock = some k → ¬ S k) : Bld b l v w' := by
  obtain ⟨p, hp, hb', ho, hn⟩ := h
  have hlt : b < w.heap.size := (Array.getElem?_eq_some_iff.1 hb').1
  exact ⟨p, hp, (ht.block b hlt hb).trans hb', ht.own ho hv, hn⟩

theorem bldSize : (Tryd.prog.info? 37).map (·.size) = some 2 := by kernel_rfl
theorem infoByte : (Tryd.prog.info? 5).map (fun i => (i.zero, i.size, i.bytes)) = some (some (.int .u8 0), 1, 1) := by kernel_rfl

theorem bldLies : liesAt Tryd.prog Tryd.prog.depth 37 (2 / Tryd.prog.cellsOf 37) 0 37 1 = true := by kernel_rfl
theorem cellsByte : Tryd.prog.cellsOf 5 = 1 := by kernel_rfl

theorem copyCheck_any (b : Nat) (l : List UInt8) (v : Value) (w : World) (h : Bld b l v w) :
    Calls Tryd.prog 24 #[.pointer (some ⟨b, 0, none⟩)] w fun e w' => e = .returned (.tuple #[]) ∧ (w'.heap[b]? = some (.cells #[.pointer (some ⟨b, 0, none⟩), v] 37 (0, 0)) ∧ Touch (fun k => k = b) w w') := by
  obtain ⟨p, hp, hb, ho, hn⟩ := h
  obtain ⟨j, hj, hjs⟩ := Option.map_eq_some_iff.1 bldSize
  have h0 : w.cell? ⟨b, 0, none⟩ = some p := by rw [cell_of_heap hb]; rfl
  have hfz := frozen_of_heap hb 0
  have hsh : w.shape? b = some (37, 2) := by simp [World.shape?, hb]
  have Hb := hid hb
  clear hb
  rcases hp with rfl | rfl
  · have h1 := Lib.run_to_unsafe w ⟨b, 0, none⟩ Tryd.underlying35 Tryd.underlying59 hj (by rw [hjs]; decide) hsh (Nat.zero_lt_succ 1)
    have h2 := Lib.run_from_unsafe w ⟨b, 0, none⟩ Tryd.underlying59 Tryd.underlying35 hj hsh bldLies
    have h3 := run_callFunc_extern (P := Tryd.prog) Tryd.func31 (by kernel_rfl) (by kernel_rfl) (by kernel_rfl) (e := Extern.AbiNoEscape.same) (by kernel_rfl)
    have h4 : ∀ (x : Value) (w : World), (Extern.AbiNoEscape.same #[x]).run Tryd.prog w = .ok x w := fun _ _ => rfl
    go_enter Tryd.func24, Tryd.ntmps24
    go_wp2
    go_end0
    refine ⟨rfl, ?_, Touch.setCell (S := fun k => k = b) (p := ⟨b, 0, none⟩) (Touch.refl _ _) (.inl rfl) _⟩
    have := heap_setCell_same w b 0 _ _ (.pointer (some ⟨b, 0, none⟩)) Hb.out
    exact this
  · have h1 := Lib.run_neq_ptr_same w ⟨b, 0, none⟩ Tryd.underlying35 hj
    go_enter Tryd.func24, Tryd.ntmps24
    go_wp2
    go_end0
    exact ⟨rfl, Hb.out, Touch.refl _ _⟩

theorem slice_of_own {w : World} {B : Nat} {e : TypeId} {v : Value} {n : Nat} {xs : List Value} (h : w.ownsRow B e 1 v n xs) : ∃ ao cap, v = .slice ao n cap := by
  rcases h.2 with ⟨hv, h0⟩ | ⟨g, cap, cur, hv, _⟩
  · exact ⟨none, 0, by rw [hv, h0]⟩
  · exact ⟨_, _, hv⟩

/-- What a writer leaves: the builder holds more; only its own two blocks may have turned; its row lies where it lay, or is new. -/
def Wrote (b : Nat) (l : List UInt8) (v : Value) (w w' : World) : Prop :=
  ∃ v', Bld b l v' w' ∧ Touch (fun k => k = b ∨ v.ownBlock = some k) w w' ∧ ∀ k, v'.ownBlock = some k → v.ownBlock = some k ∨ w.heap.size ≤ k

theorem byteCells_snoc (l : List UInt8) (c : UInt8) : byteCells l ++ [.int .u8 c.toNat] = byteCells (l ++ [c]) := by simp [byteCells]

set_option maxRecDepth 100000 in
theorem writeByte_any (b : Nat) (l : List UInt8) (v : Value) (c : UInt8) (w : World) (h : Bld b l v w) (hlen : l.length + 1 ≤ 140737488355328) :
    Calls Tryd.prog 19 #[.pointer (some ⟨b, 0, none⟩), .int .u8 c.toNat] w fun e w' => e = .returned .nilIface ∧ Wrote b (l ++ [c]) v w w' := by
  obtain ⟨i0, hi, hz0, hz1, hz2⟩ := info_parts infoByte
  have hcc := copyCheck_any b l v w h
  have hv := h.old
  obtain ⟨p, hp, hb, ho, hn⟩ := h
  go_enter Tryd.func19, Tryd.ntmps19
  go_wp2_with fail
  refine hcc.mono ?_
  rintro e w1 ⟨rfl, hb1, ht1⟩
  have ho1 := ht1.own ho (fun k hk e => hn (by rw [hk, e]))
  have c1 : w1.cell? ⟨b, 1, none⟩ = some v := by rw [cell_of_heap hb1]; rfl
  have hlt : b < w1.heap.size := (Array.getElem?_eq_some_iff.1 hb1).1
  have Hb1 := hid hb1
  clear hb1 hb hp
  go_wp2_with (at_builtin; refine wpList_append_mine rfl _ _ 32 rfl 0 5 i0 (.int .u8 0) 1 1 Tryd.underlying32 hi hz0 hz1 hz2 rfl (by decide) _ _ _ rfl (ho1.alloc _) ⟨w1.heap.size, 0, none⟩ 1 1 [.int .u8 c.toNat] rfl rfl ?c1 ?c2 ?c3 ?c4 (Nat.zero_le _) ?_)
  case c1 =>
    intro j u hj
    match j, hj with
    | 0, hj => simp at hj; subst hj; simp [Addr.add]
  case c2 => intro u hu; simp at hu; subst hu; rfl
  case c3 => unfold maxLen; omega
  case c4 => omega
  intro v' w2 hown' hgrow hpos
  obtain ⟨ao, cap, rfl⟩ := slice_of_own hown'
  have hb1 := Hb1.out
  have e1 : w2.heap[b]? = some (.cells #[.pointer (some ⟨b, 0, none⟩), v] 37 (0, 0)) := by
    rw [hgrow.block b (by simp; omega) (fun e => hn e.symm), Below.heap_alloc _ _ _ hlt]; exact hb1
  have c2 : w2.cell? ⟨b, 1, none⟩ = some v := by rw [cell_of_heap e1]; rfl
  have f2 := frozen_of_heap e1 1
  have E1 := hid e1
  have ho2 : (w2.setCell ⟨b, 1, none⟩ (.slice ao (l.length + 1) cap)).ownsRow 0 5 1 (Value.slice ao (l.length + 1) cap) (l ++ [c]).length (byteCells (l ++ [c])) := by
    rw [← byteCells_snoc, List.length_append]
    refine ownsRow_setCell_other hown' (a := ⟨b, 1, none⟩) ?_ _
    intro e
    rcases hpos b e with h | h
    · exact hn h
    · omega
  have hn2 : (Value.slice ao (l.length + 1) cap).ownBlock ≠ some b := by
    intro e
    rcases hpos b e with h | h
    · exact hn h
    · omega
  have HT : Hid (Touch (fun k => k = b ∨ v.ownBlock = some k) w (w2.setCell ⟨b, 1, none⟩ (.slice ao (l.length + 1) cap))) := by
    refine Touch.setCell ?_ (.inl (.inl rfl)) _
    refine (((ht1.mono (fun k _ h => .inl h)).alloc _).trans (Touch.of_grown hgrow) (fun k hk h => .inr h))
  have HP : Hid (∀ k, (Value.slice ao (l.length + 1) cap).ownBlock = some k → v.ownBlock = some k ∨ w.heap.size ≤ k) := by
    intro k hk
    rcases hpos k hk with h | h
    · exact .inl h
    · right; have := ht1.size; omega
  have HO := hid ho2
  have HN := hid hn2
  clear e1 ho2 hn2 hown' hgrow hpos ho1 hcc hb1
  go_wp2
  go_ret
  exact ⟨rfl, _, ⟨_, .inr rfl, heap_setCell_same w2 b 1 _ _ _ E1.out, HO.out, HN.out⟩, HT.out, HP.out⟩

theorem byteCells_append' (l m : List UInt8) : byteCells l ++ byteCells m = byteCells (l ++ m) := by simp [byteCells]

set_option maxRecDepth 100000 in
theorem write_any (b : Nat) (l : List UInt8) (v : Value) (q cp : Nat) (m : List UInt8) (w : World) (h : Bld b l v w) (hlen : l.length + m.length ≤ 140737488355328) (hqb : q ≠ b)
    (hq : ∀ (j : Nat) (c : UInt8), m[j]? = some c → w.cell? ⟨q, j, none⟩ = some (.int .u8 c.toNat)) (hql : q < w.heap.size) :
    Calls Tryd.prog 22 #[.pointer (some ⟨b, 0, none⟩), .slice (some ⟨q, 0, none⟩) m.length cp] w fun e w' => e = .returned (.tuple #[.int .i64 m.length, .nilIface]) ∧ Wrote b (l ++ m) v w w' := by
  obtain ⟨i0, hi, hz0, hz1, hz2⟩ := info_parts infoByte
  have hcc := copyCheck_any b l v w h
  have hv := h.old
  obtain ⟨p, hp, hb, ho, hn⟩ := h
  go_enter Tryd.func22, Tryd.ntmps22
  go_wp2_with fail
  refine hcc.mono ?_
  rintro e w1 ⟨rfl, hb1, ht1⟩
  have ho1 := ht1.own ho (fun k hk e => hn (by rw [hk, e]))
  have c1 : w1.cell? ⟨b, 1, none⟩ = some v := by rw [cell_of_heap hb1]; rfl
  have hlt : b < w1.heap.size := (Array.getElem?_eq_some_iff.1 hb1).1
  have Hq : Hid (∀ (j : Nat) u, (byteCells m)[j]? = some u → w1.cell? ((⟨q, 0, none⟩ : Addr).add j) = some u) := by
    intro j u hu
    have hadd : (⟨q, 0, none⟩ : Addr).add j = ⟨q, j, none⟩ := by unfold Addr.add; split <;> simp_all
    rw [hadd, World.cell?_of_block (w := w) (a := ⟨q, j, none⟩) (ht1.block q hql hqb)]
    simp only [byteCells, List.getElem?_map, Option.map_eq_some_iff] at hu
    obtain ⟨c, hc, rfl⟩ := hu
    exact hq j c hc
  have Hb1 := hid hb1
  clear hb1 hb hp hq
  go_wp2_with (at_builtin; refine wpList_append_mine rfl _ _ 32 rfl 0 5 i0 (.int .u8 0) 1 1 Tryd.underlying32 hi hz0 hz1 hz2 rfl (by decide) _ _ _ rfl ho1 ⟨q, 0, none⟩ m.length cp (byteCells m) rfl (by rw [byteCells_length, Nat.mul_one]) Hq.out ?c2 ?c3 ?c4 (Nat.zero_le _) ?_)
  case c2 => intro u hu; simp only [byteCells, List.mem_map] at hu; obtain ⟨c, _, rfl⟩ := hu; rfl
  case c3 => unfold maxLen; omega
  case c4 => omega
  intro v' w2 hown' hgrow hpos
  obtain ⟨ao, cap, rfl⟩ := slice_of_own hown'
  have hb1 := Hb1.out
  have e1 : w2.heap[b]? = some (.cells #[.pointer (some ⟨b, 0, none⟩), v] 37 (0, 0)) := by
    rw [hgrow.block b hlt (fun e => hn e.symm)]; exact hb1
  have c2 : w2.cell? ⟨b, 1, none⟩ = some v := by rw [cell_of_heap e1]; rfl
  have f2 := frozen_of_heap e1 1
  have E1 := hid e1
  have hn2 : (Value.slice ao (l.length + m.length) cap).ownBlock ≠ some b := by
    intro e
    rcases hpos b e with h | h
    · exact hn h
    · omega
  have ho2 : (w2.setCell ⟨b, 1, none⟩ (.slice ao (l.length + m.length) cap)).ownsRow 0 5 1 (Value.slice ao (l.length + m.length) cap) (l ++ m).length (byteCells (l ++ m)) := by
    rw [← byteCells_append', List.length_append]
    exact ownsRow_setCell_other hown' (a := ⟨b, 1, none⟩) hn2 _
  have HT : Hid (Touch (fun k => k = b ∨ v.ownBlock = some k) w (w2.setCell ⟨b, 1, none⟩ (.slice ao (l.length + m.length) cap))) := by
    refine Touch.setCell ?_ (.inl (.inl rfl)) _
    exact ((ht1.mono (fun k _ h => .inl h)).trans (Touch.of_grown hgrow) (fun k hk h => .inr h))
  have HP : Hid (∀ k, (Value.slice ao (l.length + m.length) cap).ownBlock = some k → v.ownBlock = some k ∨ w.heap.size ≤ k) := by
    intro k hk
    rcases hpos k hk with h | h
    · exact .inl h
    · right; have := ht1.size; omega
  have HO := hid ho2
  have HN := hid hn2
  clear e1 ho2 hn2 hown' hgrow hpos ho1 hcc hb1
  go_wp2
  go_ret2
  exact ⟨rfl, _, ⟨_, .inr rfl, heap_setCell_same w2 b 1 _ _ _ E1.out, HO.out, HN.out⟩, HT.out, HP.out⟩

set_option maxHeartbeats 1000000 in
set_option maxRecDepth 100000 in
theorem bldString_any (b : Nat) (l : List UInt8) (v : Value) (w : World) (h : Bld b l v w) :
    Calls Tryd.prog 17 #[.pointer (some ⟨b, 0, none⟩)] w fun e w' => e = .returned (.string ⟨l.toArray⟩) ∧ Touch (fun k => v.ownBlock = some k) w w' := by
  obtain ⟨p, hp, hb, ho, hn⟩ := h
  by_cases h0 : l = []
  · subst h0
    have hUS : ∀ (W : World) (q : Option Addr), (Builtin.unsafeString_ #[54, 3] 9 #[.pointer q, .int .i64 0]).run Tryd.prog W = .ok (.string .empty) W := fun W q => Lib.run_unsafeString_none W _ _ _ q
    have hlt : b < w.heap.size := (Array.getElem?_eq_some_iff.1 hb).1
    rcases ho.2 with ⟨rfl, _⟩ | ⟨g, cap, cur, rfl, _, hg, _, hcm, _, _⟩
    · have hSD : (Builtin.unsafeSliceData_ #[32] 54 #[.slice none 0 0]).run Tryd.prog w.drew = .ok (.pointer none) w.drew := rfl
      have c1 : w.drew.cell? ⟨b, 1, none⟩ = some (.slice none 0 0) := by
        have : w.drew.heap[b]? = some (.cells #[p, .slice none 0 0] 37 (0, 0)) := hb
        rw [Lib.cell_of_heap this]; rfl
      have c0 : w.cell? ⟨b, 1, none⟩ = some (.slice none 0 0) := c1
      clear hb hp ho hn
      go_enter Tryd.func17, Tryd.ntmps17
      go_wp2
      go_region
      all_goals (go_wp2; go_ret; exact ⟨rfl, (Touch.refl _ w).drew⟩)
    · by_cases hc0 : cap = 0
      · subst hc0
        have hSD : (Builtin.unsafeSliceData_ #[32] 54 #[.slice (some ⟨g, 0, none⟩) 0 0]).run Tryd.prog w.drew = .ok (.pointer (some ⟨w.drew.heap.size, 0, none⟩)) (w.drew.alloc (.view ⟨g, 0, none⟩ 5)) :=
          Lib.run_unsafeSliceData_zero w.drew _ _ 5 Tryd.underlying54 ⟨g, 0, none⟩ 0 (5, cur.size) (by have hg' : w.drew.heap[g]? = some (.cells cur 5 (0, 0)) := hg; simp [World.shape?, hg'])
        have c2 : (w.drew.alloc (.view ⟨g, 0, none⟩ 5)).cell? ⟨b, 1, none⟩ = some (.slice (some ⟨g, 0, none⟩) 0 0) := by
          have : (w.drew.alloc (.view ⟨g, 0, none⟩ 5)).heap[b]? = _ := (Lib.alloc_old w.drew _ b hlt).trans hb
          rw [Lib.cell_of_heap this]; rfl
        have c3 : (w.alloc (.view ⟨g, 0, none⟩ 5)).drew.cell? ⟨b, 1, none⟩ = some (.slice (some ⟨g, 0, none⟩) 0 0) := c2
        have c1 : w.drew.cell? ⟨b, 1, none⟩ = some (.slice (some ⟨g, 0, none⟩) 0 0) := by
          have : w.drew.heap[b]? = some (.cells #[p, .slice (some ⟨g, 0, none⟩) 0 0] 37 (0, 0)) := hb
          rw [Lib.cell_of_heap this]; rfl
        have c0 : w.cell? ⟨b, 1, none⟩ = some (.slice (some ⟨g, 0, none⟩) 0 0) := c1
        clear hb hp ho hn
        go_enter Tryd.func17, Tryd.ntmps17
        go_wp2
        go_region
        all_goals (go_wp2; go_ret; exact ⟨rfl, ((Touch.refl _ w).drew).alloc _⟩)
      · have hSD : (Builtin.unsafeSliceData_ #[32] 54 #[.slice (some ⟨g, 0, none⟩) 0 cap]).run Tryd.prog w.drew = .ok (.pointer (some ⟨g, 0, none⟩)) w.drew :=
          Lib.run_unsafeSliceData_row _ _ _ _ _ _ hc0
        clear hc0
        have c1 : w.drew.cell? ⟨b, 1, none⟩ = some (.slice (some ⟨g, 0, none⟩) 0 cap) := by
          have : w.drew.heap[b]? = some (.cells #[p, .slice (some ⟨g, 0, none⟩) 0 cap] 37 (0, 0)) := hb
          rw [Lib.cell_of_heap this]; rfl
        have c0 : w.cell? ⟨b, 1, none⟩ = some (.slice (some ⟨g, 0, none⟩) 0 cap) := c1
        clear hb hp ho hn
        go_enter Tryd.func17, Tryd.ntmps17
        go_wp2
        go_region
        all_goals (go_wp2; go_ret; exact ⟨rfl, (Touch.refl _ w).drew⟩)
  · have hl0 : l.length ≠ 0 := by simpa using h0
    obtain ⟨g, cap, cur, rfl, hbg, hg, hnc, hcm, hcs, htake⟩ : ∃ g cap cur, v = .slice (some ⟨g, 0, none⟩) l.length cap ∧ 0 ≤ g ∧ w.heap[g]? = some (.cells cur 5 (0, 0)) ∧ l.length ≤ cap ∧ cap ≤ maxLen ∧ cur.size = cap * 1 ∧ cur.toList.take (l.length * 1) = byteCells l := by
      rcases ho.2 with ⟨_, hz⟩ | ⟨g, cap, cur, hv, r⟩
      · exact absurd hz hl0
      · exact ⟨g, cap, cur, hv, r⟩
    have c1 : w.drew.cell? ⟨b, 1, none⟩ = some (.slice (some ⟨g, 0, none⟩) l.length cap) := by
      have : w.drew.heap[b]? = some (.cells #[p, .slice (some ⟨g, 0, none⟩) l.length cap] 37 (0, 0)) := hb
      rw [Lib.cell_of_heap this]; rfl
    have hSD : (Builtin.unsafeSliceData_ #[32] 54 #[.slice (some ⟨g, 0, none⟩) l.length cap]).run Tryd.prog w.drew = .ok (.pointer (some ⟨g, 0, none⟩)) w.drew :=
      Lib.run_unsafeSliceData_row _ _ _ _ _ _ (by omega)
    have hUS : (Builtin.unsafeString_ #[54, 3] 9 #[.pointer (some ⟨g, 0, none⟩), .int .i64 l.length]).run Tryd.prog w.drew = .ok (.string ⟨l.toArray⟩) (w.drew.freeze ⟨g, 0, none⟩ l.length) := by
      refine Lib.run_unsafeString_row w.drew 54 3 9 5 Tryd.underlying54 cellsByte g cur.size (by have hg' : w.drew.heap[g]? = some (.cells cur 5 (0, 0)) := hg; simp [World.shape?, hg']) l h0 (by omega) (by unfold maxLen at hcm; omega) ?_
      intro j x hx
      have := ho.cells (g := g) rfl j (.int .u8 x.toNat) (by simp [Lib.byteCells, hx])
      exact this
    have c0 : w.cell? ⟨b, 1, none⟩ = some (.slice (some ⟨g, 0, none⟩) l.length cap) := c1
    clear htake hcs hg hb hp ho hbg
    go_enter Tryd.func17, Tryd.ntmps17
    go_wp2
    go_region
    all_goals (go_wp2; go_ret; exact ⟨rfl, (Touch.refl (fun k => (Value.slice (some ⟨g, 0, none⟩) l.length cap).ownBlock = some k) w).drew.freeze (p := ⟨g, 0, none⟩) (.inl rfl) _⟩)
end Go.Proofs.YtcjjlmjamcmnpaaDoor
