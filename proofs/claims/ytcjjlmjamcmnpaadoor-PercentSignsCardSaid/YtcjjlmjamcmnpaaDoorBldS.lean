/- Walk: strings.Builder's WriteString, at a builder of the call's own. -/
import Derived.Test.YtcjjlmjamcmnpaaDoorBld
import Derived.Lib.AppendStr
namespace Go.Proofs.YtcjjlmjamcmnpaaDoor
open Go.RowKit Go.Lib

theorem strCells_eq (s : ByteArray) : strCells s = byteCells s.data.toList := rfl

theorem run_append_mine_str {P : Program} {w : World} (base : Nat) (t u ty e : TypeId) (i : TypeInfo) (ht : P.underlying t = some (.slice e)) (hu : P.underlying u = some .string) (hi : P.info? e = some i) (hz : i.zero = some (.int .u8 0))
    (hsize : i.size = 1) (hby : i.bytes = 1) (v : Value) (n : Nat) (xs : List Value) (hown : w.ownsRow base e 1 v n xs) (s : ByteArray)
    (h63 : n + s.size ≤ maxLen) (hbytes : n + s.size ≤ 140737488355328) (hbase : base ≤ w.heap.size) :
    ∃ v' w', (Builtin.append_ #[t, u] ty #[v, .string s]).run P w = .ok v' w' ∧ w'.ownsRow base e 1 v' (n + s.size) (xs ++ strCells s) ∧ w.grownBy w' v.ownBlock ∧
      (∀ k, v'.ownBlock = some k → v.ownBlock = some k ∨ w.heap.size ≤ k) := by
  have hsmall : n + s.size ≤ 9223372036854775807 := by simp only [maxLen] at h63; omega
  rcases hown.2 with ⟨rfl, rfl⟩ | ⟨g, cap, cur, rfl, hbg, hg, hnc, hcm, hcs, htake⟩
  · obtain ⟨v', w', r1, r2, r3, _⟩ := run_append_own_string (P := P) w w.heap.size t u ty e i ht hu hi hz hsize hby (.slice none 0 0) 0 xs ⟨hown.1, .inl ⟨rfl, rfl⟩⟩ s h63 hbytes (Nat.le_refl _)
    exact ⟨v', w', r1, ownsRow_mono r2 hbase, r3, fun k hk => .inr (r2.lt k hk).1⟩
  · obtain ⟨v', w', r1, r2, r3, _⟩ := run_append_own_string (P := P) w base t u ty e i ht hu hi hz hsize hby _ n xs hown s h63 hbytes hbase
    refine ⟨v', w', r1, r2, r3, fun k hk => ?_⟩
    have hxl : xs.length = n := by simpa using hown.1
    by_cases hroom : n + s.size ≤ cap
    · have hcs' : cur.size = cap := by simpa using hcs
      have hr := run_append_room_string (P := P) w t u ty e i ht hu hi hsize g n cap cur hg s hroom (by omega)
      rw [hr] at r1
      cases r1
      exact .inl hk
    · have holds : ∀ j u, xs[j]? = some u → w.cell? ((⟨g, 0, none⟩ : Addr).add j) = some u := hown.cells (g := g) rfl
      have hr := run_append_grow_string (P := P) w t u ty e i (.int .u8 0) ht hu hi hz ⟨g, 0, none⟩ n cap xs (by rw [hsize]; simpa using hxl) holds s (by omega) (by omega) (by rw [hby]; exact growslice_fits (by omega) (by omega))
      rw [hr] at r1
      cases r1
      right
      simp only [Value.ownBlock, Option.some.injEq] at hk
      omega

theorem wpList_append_mine_str {P : Program} {w : World} {ops : Array Oper} {rest : List Oper} {o : Oper} {a : Act} {Q : Exit → Act → World → Prop} (hgd : o.guard = none) (sl x : Operand) (t u : TypeId)
    (ho : o.op = .call { callee := .builtin .append, args := #[sl, x], argTypes := #[t, u] })
    (base : Nat) (e : TypeId) (i : TypeInfo) (ht : P.underlying t = some (.slice e)) (hu : P.underlying u = some .string) (hi : P.info? e = some i) (hz : i.zero = some (.int .u8 0))
    (hsize : i.size = 1) (hby : i.bytes = 1)
    (v : Value) (n : Nat) (xs : List Value) (hs : a.eval sl = v) (hown : w.ownsRow base e 1 v n xs) (s : ByteArray) (hx : a.eval x = .string s)
    (h63 : n + s.size ≤ maxLen) (hbytes : n + s.size ≤ 140737488355328) (hbase : base ≤ w.heap.size)
    (h : ∀ v' w', w'.ownsRow base e 1 v' (n + s.size) (xs ++ strCells s) → w.grownBy w' v.ownBlock → (∀ k, v'.ownBlock = some k → v.ownBlock = some k ∨ w.heap.size ≤ k) → wpList P ops Q rest (a.put o.dst v') w') : wpList P ops Q (o :: rest) a w := by
  obtain ⟨v', w', hr, h2, h3, h4⟩ := run_append_mine_str (P := P) base t u o.type e i ht hu hi hz hsize hby v n xs hown s h63 hbytes hbase
  refine wpList_plain hgd fun K hK => ?_
  unfold Oper.wp execOp
  simp only [ho, resolve, invoke, builtin, Sem.run_bind, Sem.run_pure, Result.andThen_ok, List.map_toArray, List.map_cons, List.map_nil, hs, hx, hr]
  exact hK _ _ (h v' w' h2 h3 h4)

set_option maxHeartbeats 1000000 in
set_option maxRecDepth 100000 in
theorem writeString_any (b : Nat) (l : List UInt8) (v : Value) (s : ByteArray) (w : World) (h : Bld b l v w) (hlen : l.length + s.size ≤ 140737488355328) :
    Calls Tryd.prog 16 #[.pointer (some ⟨b, 0, none⟩), .string s] w fun e w' => e = .returned (.tuple #[.int .i64 s.size, .nilIface]) ∧ Wrote b (l ++ s.data.toList) v w w' := by
  obtain ⟨i0, hi, hz0, hz1, hz2⟩ := info_parts infoByte
  have hcc := copyCheck_any b l v w h
  have hv := h.old
  obtain ⟨p, hp, hb, ho, hn⟩ := h
  go_enter Tryd.func16, Tryd.ntmps16
  go_wp2_with fail
  refine hcc.mono ?_
  rintro e w1 ⟨rfl, hb1, ht1⟩
  have ho1 := ht1.own ho (fun k hk e => hn (by rw [hk, e]))
  have c1 : w1.cell? ⟨b, 1, none⟩ = some v := by rw [cell_of_heap hb1]; rfl
  have hlt : b < w1.heap.size := (Array.getElem?_eq_some_iff.1 hb1).1
  have Hb1 := hid hb1
  clear hb1 hb hp
  go_wp2_with (at_builtin; refine wpList_append_mine_str rfl _ _ 32 9 rfl 0 5 i0 Tryd.underlying32 Tryd.underlying9 hi hz0 hz1 hz2 _ _ _ rfl ho1 s rfl ?c3 ?c4 (Nat.zero_le _) ?_)
  case c3 => unfold maxLen; omega
  case c4 => omega
  intro v' w2 hown' hgrow hpos
  obtain ⟨ao, cap, rfl⟩ := slice_of_own hown'
  have hb1 := Hb1.out
  have e1 : w2.heap[b]? = some (.cells #[.pointer (some ⟨b, 0, none⟩), v] 37 (0, 0)) := by
    rw [hgrow.block b hlt (fun e => hn e.symm)]; exact hb1
  have c2 : w2.cell? ⟨b, 1, none⟩ = some v := by rw [cell_of_heap e1]; rfl
  have f2 := frozen_of_heap e1 1
  have E1 := hid e1
  have hn2 : (Value.slice ao (l.length + s.size) cap).ownBlock ≠ some b := by
    intro e
    rcases hpos b e with h | h
    · exact hn h
    · omega
  have ho2 : (w2.setCell ⟨b, 1, none⟩ (.slice ao (l.length + s.size) cap)).ownsRow 0 5 1 (Value.slice ao (l.length + s.size) cap) (l ++ s.data.toList).length (byteCells (l ++ s.data.toList)) := by
    rw [← byteCells_append', List.length_append]
    exact ownsRow_setCell_other hown' (a := ⟨b, 1, none⟩) hn2 _
  have HT : Hid (Touch (fun k => k = b ∨ v.ownBlock = some k) w (w2.setCell ⟨b, 1, none⟩ (.slice ao (l.length + s.size) cap))) := by
    refine Touch.setCell ?_ (.inl (.inl rfl)) _
    exact ((ht1.mono (fun k _ h => .inl h)).trans (Touch.of_grown hgrow) (fun k hk h => .inr h))
  have HP : Hid (∀ k, (Value.slice ao (l.length + s.size) cap).ownBlock = some k → v.ownBlock = some k ∨ w.heap.size ≤ k) := by
    intro k hk
    rcases hpos k hk with h | h
    · exact .inl h
    · right; have := ht1.size; omega
  have HO := hid ho2
  have HN := hid hn2
  clear e1 ho2 hn2 hown' hgrow hpos ho1 hcc hb1
  go_wp2
  go_ret2
  exact ⟨rfl, _, ⟨_, .inr rfl, heap_setCell_same w2 b 1 _ _ _ E1.out, HO.out, HN.out⟩, HT.out, HP.out⟩
end Go.Proofs.YtcjjlmjamcmnpaaDoor
