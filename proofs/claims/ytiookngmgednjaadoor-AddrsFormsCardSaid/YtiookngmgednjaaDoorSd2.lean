/- Walk: a side of a text of sixteen bytes: (*side).four. -/
import Derived.Test.YtiookngmgednjaaDoorSd1
import Derived.Test.YtiookngmgednjaaDoorFu
namespace Go.Proofs.YtiookngmgednjaaDoor
open Go.RowKit Go.Lib Go.Proofs.Foot

/-- What the walks of a side take of the world in which the side was made. -/
structure Amb (w0 : World) : Prop where
  err : GoodE w0
  tab : GoodA w0
  sh : w0.ShapedOpen Tryd.prog
theorem Amb.below {w0 w : World} (h : Amb w0) (hb : Below w0.heap.size w0 w) : Amb w :=
  ⟨h.err.below hb, h.tab.below hb, h.sh.keptBut (hb.frame (fun _ => False)) (fun _ h => h.elim)⟩
/-- A call on a side made since w0 leaves w0's blocks as they were. -/
theorem side_below {w0 w w' : World} {base b : Nat} {l : List UInt8} {last : Bool} {v : Value} (hw : Below w0.heap.size w0 w) (hS : SideAt w base b l last v) (hb : w0.heap.size ≤ b) (ht : Touch (SideBlk b v) w w') : Below w0.heap.size w0 w' :=
  hw.trans (ht.below (fun k hk => by
    rcases hk with rfl | hk
    · exact hb
    · have := (hS.own.lt k hk).1; have := hS.lt; omega) hw.size)
theorem pu8_ok {t : ByteArray} {n : Nat} (h : Lib.parseUintB 8 t.data.toList = .ok n) (hz : t.size ≤ 16777216) (w : World) :
    Calls Tryd.prog 67 #[.string t, .int .i64 10, .int .i64 8] w fun e w' => e = .returned (.tuple #[.int .u64 n, .nilIface]) ∧ Below w.heap.size w w' :=
  (Tryd.strconv_ParseUint_10_at8_ok t (by omega) n h w).mono fun e w' ⟨he, hw⟩ => ⟨he, by
    rcases hw with rfl | rfl
    · exact Below.refl _ _
    · exact Lib.bytesWorld_below _ _ t⟩
theorem pu8_no {t : ByteArray} (h : Lib.parseUintB 8 t.data.toList = Lib.parseMag [] ∨ Lib.parseUintB 8 t.data.toList = .range) (hz : t.size ≤ 16777216) (w : World) (G : GoodE w) :
    Calls Tryd.prog 67 #[.string t, .int .i64 10, .int .i64 8] w fun e w' => ∃ (N u : Nat), e = .returned (.tuple #[.int .u64 u, .iface 121 (.pointer (some ⟨N, 0, none⟩))]) ∧ Below w.heap.size w w' := by
  obtain ⟨⟨e1, c1, h1⟩, e2, c2, h2⟩ := G
  rcases h with h | h
  · exact (Tryd.strconv_ParseUint_10_at8_syntax t (by omega) h e1 w c1 h1).mono fun e w' ⟨N, he, _, _, hb⟩ => ⟨N, 0, he, hb⟩
  · exact (Tryd.strconv_ParseUint_10_at8_range t (by omega) h e2 w c2 h2).mono fun e w' ⟨N, he, _, _, hb⟩ => ⟨N, 255, he, hb⟩
theorem app1z {w : World} {ops : Array Oper} {rest : List Oper} {o : Oper} {a : Act} {Q : Exit → Act → World → Prop} (hgd : o.guard = none) (s x : Operand)
    (ho : o.op = .call { callee := .builtin .append, args := #[s, x], argTypes := #[42, 42] }) (hty : o.type = 42) (base : Nat) (l : List UInt8) (b : UInt8) (z : Int) (hz : z = (b.toNat : Int)) (v : Value) (hs : a.eval s = v)
    (hown : w.ownsRow base 5 1 v l.length (byteCells l)) (hx : a.eval x = .slice (some ⟨w.heap.size, 0, none⟩) 1 1) (hlen : l.length + 1 ≤ 140737488355328) (hbase : base ≤ w.heap.size)
    (h : ∀ v' w', Appd base l [b] v w v' w' → wpList Tryd.prog ops Q rest (a.put o.dst v') w') : wpList Tryd.prog ops Q (o :: rest) a (w.alloc (.cells #[.int .u8 z] 5)) := by
  subst hz
  exact app1 hgd s x ho hty base l b v hs hown hx hlen hbase h
/-- What four answers. -/
def FourSide (base b : Nat) (last : Bool) (l0 : List UInt8) (v : Value) (w : World) (P : List (List UInt8)) (e : Ending) (w' : World) : Prop :=
  (octAcc [] P = none ∧ e = .returned (.bool false) ∧ Touch (SideBlk b v) w w') ∨ ∃ x v', octAcc [] P = some x ∧ e = .returned (.bool (last && decide (P.length = 4))) ∧ SideRun base b last v w (l0 ++ x) v' w'
theorem toList_inj {a b : ByteArray} (h : a.toList = b.toList) : a = b := by
  rw [ByteArray.toList_eq, ByteArray.toList_eq] at h
  exact bytes_ext h
theorem octAcc_yes {out p : List UInt8} {ps : List (List UInt8)} {n : Nat} (h : octB p = some n) : octAcc out (p :: ps) = octAcc (out ++ [UInt8.ofNat n]) ps := by rw [octAcc, h]
theorem octAcc_no {out p : List UInt8} {ps : List (List UInt8)} (h : octB p = none) : octAcc out (p :: ps) = none := by rw [octAcc, h]
theorem parts_drop {L : List ByteArray} {k : Nat} {T : ByteArray} (hT : L[k]? = some T) : (L.map (·.data.toList)).drop k = T.data.toList :: (L.map (·.data.toList)).drop (k + 1) := by
  have hl := (List.getElem?_eq_some_iff.1 hT).1
  have := drop_parts (m := L.length) hT hl
  rwa [List.take_of_length_le (Nat.le_refl _)] at this
set_option maxHeartbeats 2000000 in
set_option maxRecDepth 100000 in
theorem fourSide_any (s : ByteArray) (hs : s.size ≤ 4194304) (w0 w : World) (A0 : Amb w0) (hw : Below w0.heap.size w0 w) (base b : Nat) (hb0 : w0.heap.size ≤ b) (l0 : List UInt8) (last : Bool) (v : Value) (hS : SideAt w base b l0 last v) (hbase : base ≤ w.heap.size) (hl : l0.length ≤ 16777216) :
    Calls Tryd.prog 48 #[.pointer (some ⟨b, 0, none⟩), .string s] w (FourSide base b last l0 v w (cutAt 46 s.data.toList)) := by
  obtain ⟨L, hcut, h1, hLs, hel, hsp⟩ := split_at s 46 w (by omega) (A0.below hw).sh
  have hLs2 : L.length ≤ s.size + 1 := by
    have := congrArg List.length hcut
    rw [List.length_map, cutAt_length] at this
    have h2 := List.count_le_length (a := (46 : UInt8)) (l := s.data.toList)
    rw [← Lib.size_eq] at h2
    omega
  rw [← hcut]
  have Hsp := hid hsp
  have HS := hid hS
  have HA := hid A0
  have Hw := hid hw
  have Hel := hid hel
  have hbw : b < w.heap.size := hS.in_heap
  obtain ⟨n, hn⟩ : ∃ n, n = L.length := ⟨_, rfl⟩
  have Hn := hid hn
  rw [← hn] at hLs hLs2 h1 Hsp
  clear hsp hS A0 hw hel hcut hn
  go_enter Tryd.func48, Tryd.ntmps48
  go_wp2_with (go_at_call 25; refine Hsp.out.mono ?_; rintro e w1 ⟨rfl, hTx, hb1, hlt⟩)
  have HTx := hid hTx
  have Hb1 := hid hb1
  have HS1 := hid (HS.out.below hb1)
  have hbase1 : base ≤ w1.heap.size := Nat.le_trans hbase hb1.size
  have Hw1 := hid (below_chain Hw.out hb1)
  have Hlt := hid hlt
  have hgb : ¬ SideBlk b v w.heap.size := fun h => by
    rcases h with h | h
    · omega
    · have := (HS.out.own.lt _ h).2; omega
  have Hgb := hid hgb
  clear hTx hb1 hlt hgb
  go_loopw [14] (fun iv wr => ∃ (k : Nat) (out : List UInt8) (vk : Value), k ≤ n ∧ iv = .int .i64 k ∧ out.length ≤ k ∧ Hid (octAcc [] (L.map (·.data.toList)) = octAcc out ((L.map (·.data.toList)).drop k) ∧ SideRun base b last v w1 (l0 ++ out) vk wr)) (fun iv _ => n - (RowKit.intOf iv).toNat)
  case atStart => exact ⟨0, [], v, Nat.zero_le _, rfl, Nat.le_refl _, hid ⟨rfl, by rw [List.append_nil]; exact SideRun.refl HS1.out⟩⟩
  case round =>
    obtain ⟨k, out, vk, hk, rfl, hout, hh⟩ := hrel
    obtain ⟨hacc, hrun⟩ := hh.out
    clear hh
    have Hrun := hid hrun
    have Hacc := hid hacc
    have hbelow := side_below Hw1.out HS1.out hb0 hrun.touch
    have Hamb := hid (HA.out.below hbelow)
    by_cases hlt : k < n
    · obtain ⟨T3, hT3⟩ : ∃ T3, L[k]? = some T3 := ⟨_, List.getElem?_eq_getElem (by rw [← Hn.out]; exact hlt)⟩
      have hz3 : T3.size ≤ 16777216 := Hel.out T3 (List.mem_of_getElem? hT3)
      have hc3 : wr.cell? ⟨w.heap.size, k, none⟩ = some (.string T3) := by
        have h1 := HTx.out k T3 hT3
        rw [Nat.zero_add] at h1
        rw [World.cell?_of_block (hrun.touch.block w.heap.size Hlt.out Hgb.out)]
        exact h1
      have hdrop := parts_drop hT3
      have Hdrop := hid hdrop
      have hsz : base ≤ wr.heap.size := Nat.le_trans hbase1 hrun.touch.size
      clear hrun hacc hT3 hdrop hbelow
      cases ho : octB T3.data.toList with
      | some x =>
        obtain ⟨hx, hp, hb⟩ := octB_some ho
        have HP := hid (fun w => pu8_ok hp hz3 w)
        have HFm : Hid (∀ w, Amb w → Calls Tryd.prog 70 #[.int .u64 x, .int .i64 10] w fun e w' => e = .returned (.string T3) ∧ Below w.heap.size w w') := hid (fun w A => by
          have h := fmtU x (by omega) w A.tab.1
          have e : baseT 10 x = T3 := bytes_ext (by rw [baseT]; exact hb)
          rw [e] at h; exact h)
        have Hstep := hid (show octAcc [] (L.map (·.data.toList)) = octAcc (out ++ [UInt8.ofNat x]) ((L.map (·.data.toList)).drop (k + 1)) by rw [Hacc.out, Hdrop.out, octAcc_yes ho])
        have hcv : IntKind.u8.wrap (x : Int) = ((UInt8.ofNat x).toNat : Int) := by rw [IntKind.wrap_u8, UInt8.toNat_ofNat']; omega
        clear ho hp hb
        go_wp2_with fail
        refine (HP.out _).mono ?_
        rintro e w2 ⟨rfl, hb2⟩
        have Hb2 := hid hb2
        clear hb2
        go_wp2_with fail
        refine (HFm.out _ (Hamb.out.below Hb2.out)).mono ?_
        rintro e w3 ⟨rfl, hb3⟩
        have Hrun3 := hid ((Hrun.out.then Hb2.out).then hb3)
        clear hb3
        have c0 := Hrun3.out.at'.cell0
        have hsz3 : base ≤ w3.heap.size := Nat.le_trans hbase1 Hrun3.out.touch.size
        obtain ⟨ao, cap, hvs⟩ := slice_of_row Hrun3.out.at'.own
        have hll : (l0 ++ out).length = l0.length + out.length := List.length_append
        rw [hll] at hvs
        have Hll := hid hll
        clear hll
        subst hvs
        go_wp2_with (at_builtin; refine app1z rfl _ _ rfl rfl base (l0 ++ out) (UInt8.ofNat x) _ hcv (.slice ao (l0.length + out.length) cap) rfl Hrun3.out.at'.own rfl (by rw [Hll.out]; omega) hsz3 ?_; intro v' w5 happ; obtain ⟨ao2, cap2, hv2⟩ := slice_of_row happ.1; rw [List.length_append, Hll.out] at hv2; subst hv2; have hst := Hrun3.out.at'.store happ; have c5 := cell_after Hrun3.out.at' happ; have f5 := free_after Hrun3.out.at' happ; have Hst := hid hst; clear hst happ)
        have hrn := Hrun3.out.trans Hst.out
        rw [List.append_assoc] at hrn
        have Hrn := hid (And.intro Hstep.out hrn)
        clear hrn
        exact ⟨⟨k + 1, out ++ [UInt8.ofNat x], _, by omega, by go_num, by simp; omega, Hrn⟩, by simp only [RowKit.intOf]; omega⟩
      | none =>
        have Hno := hid (show octAcc [] (L.map (·.data.toList)) = none by rw [Hacc.out, Hdrop.out, octAcc_no ho])
        rcases octB_none ho with ⟨x, hx, hp, hb⟩ | hp
        · have HP := hid (fun w => pu8_ok hp hz3 w)
          obtain ⟨F, hF⟩ : ∃ F, F = baseT 10 x := ⟨_, rfl⟩
          have hne : ¬ F = T3 := fun e => hb (by rw [← e, hF]; rfl)
          have HFm : Hid (∀ w, Amb w → Calls Tryd.prog 70 #[.int .u64 x, .int .i64 10] w fun e w' => e = .returned (.string F) ∧ Below w.heap.size w w') := hid (fun w A => by
            rw [hF]; exact fmtU x (by omega) w A.tab.1)
          have hne2 : (F.toList == T3.toList) = false := by rw [beq_eq_false_iff_ne]; exact fun e => hne (toList_inj e)
          have hne3 : ¬ F.toList = T3.toList := fun e => hne (toList_inj e)
          clear ho hp hb hF
          go_wp2_with fail
          refine (HP.out _).mono ?_
          rintro e w2 ⟨rfl, hb2⟩
          have Hb2 := hid hb2
          clear hb2
          go_wp2_with fail
          refine (HFm.out _ (Hamb.out.below Hb2.out)).mono ?_
          rintro e w3 ⟨rfl, hb3⟩
          have Hrun3 := hid ((Hrun.out.then Hb2.out).then hb3)
          clear hb3
          go_wp2
          go_ret
          exact .inl ⟨Hno.out, rfl, (SideRun.after Hb1.out Hrun3.out).touch⟩
        · have HP := hid (fun w G => pu8_no hp hz3 w G)
          clear ho hp
          go_wp2_with fail
          refine (HP.out _ Hamb.out.err).mono ?_
          rintro e w2 ⟨N, u, rfl, hb2⟩
          have Hrun3 := hid (Hrun.out.then hb2)
          clear hb2
          go_wp2
          go_ret
          exact .inl ⟨Hno.out, rfl, (SideRun.after Hb1.out Hrun3.out).touch⟩
    · have hnil : (L.map (·.data.toList)).drop k = [] := List.drop_eq_nil_of_le (by rw [List.length_map, ← Hn.out]; omega)
      rw [hnil] at hacc
      have c1 := hrun.at'.cell1
      have hlen : (L.map (·.data.toList)).length = n := by rw [List.length_map]; exact Hn.out.symm
      have Hres := hid (show ∀ q, q = (last && decide (n = 4)) → FourSide base b last l0 v w (L.map (·.data.toList)) (.returned (.bool q)) wr from fun q hq => .inr ⟨out, vk, hacc, by rw [hlen, hq], SideRun.after Hb1.out hrun⟩)
      clear hacc hrun hbelow hnil hlen
      cases last with
      | false =>
        go_wp2
        go_ret
        exact Hres.out _ rfl
      | true =>
        by_cases h4 : n = 4
        · have i4 : ((n : Int) == 4) = true := by rw [beq_iff_eq]; omega
          have Hq := hid (show true = (true && decide (n = 4)) by rw [h4]; rfl)
          clear h4
          go_wp2
          go_ret
          exact Hres.out _ Hq.out
        · have i4 : ((n : Int) == 4) = false := by rw [beq_eq_false_iff_ne]; omega
          have Hq := hid (show false = (true && decide (n = 4)) by rw [decide_eq_false h4]; rfl)
          clear h4
          go_wp2
          go_ret
          exact Hres.out _ Hq.out
end Go.Proofs.YtiookngmgednjaaDoor
