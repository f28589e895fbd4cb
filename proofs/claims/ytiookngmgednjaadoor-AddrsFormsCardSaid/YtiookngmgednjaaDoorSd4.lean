/- Walk: addrs.Six. -/
import Derived.Test.YtiookngmgednjaaDoorSd3
import Derived.Test.YtiookngmgednjaaDoorAd14
import Derived.Laws.CopyOwn
import Derived.BigQuiet
import Derived.Deep.QuietTactic
namespace Go.Proofs.YtiookngmgednjaaDoor
open Go.RowKit Go.Lib Go.Proofs.Foot

/-- A copy of cells into a block, as a step of a drawn region. -/
theorem step_copy_t {P : Program} {ops : Array Oper} {o : Oper} {a : Act} {w : World} {K : Act → World → Prop} {Q : Exit → Act → World → Prop} {E : Prop} (hgd : o.guard = none) (d s : Operand) (dT sT : TypeId)
    (ho : o.op = .call { callee := .builtin .copy, args := #[d, s], argTypes := #[dT, sT] }) (elem : TypeId) (hu : P.underlying dT = some (.slice elem)) (hsz : (P.info? elem).map (·.size) = some 1)
    (dp sp : Option Addr) (dLen dCap sLen sCap : Nat) (hd : a.eval d = .slice dp dLen dCap) (hs : a.eval s = .slice sp sLen sCap)
    (g off : Nat) (cur : Array Value) (t : TypeId) (hg : w.heap[g]? = some (.cells cur t (0, 0))) (cs : List Value) (hn : cs.length = Nat.min sLen dLen)
    (hpos : 0 < cs.length → dp = some ⟨g, off, none⟩ ∧ ∃ ad, sp = some ad ∧ ∀ j v, cs[j]? = some v → w.cell? (ad.add j) = some v)
    (hfit : off + cs.length ≤ cur.size) (h1 : ∀ v ∈ cs, v.oneCell' = true)
    (h : ∀ w', Hid (w'.heap[g]? = some (.cells (splice cur.toList off cs).toArray t (0, 0)) ∧ Touch (fun k => k = g) w w') → K (a.put o.dst (goInt cs.length)) w') :
    if Region.wanted o (yielded ops a.tmps) = true then Oper.wp P o a w K Q else E := by
  have hw : Region.wanted o (yielded ops a.tmps) = true := by simp [Region.wanted, hgd]
  rw [if_pos hw]
  by_cases h0 : cs.length = 0
  · obtain rfl : cs = [] := List.eq_nil_of_length_eq_zero h0
    have hrun := run_copy_none (P := P) w dT sT o.type elem dp sp dLen dCap sLen sCap hu hsz (by simpa using hn.symm)
    unfold Oper.wp
    simp [execOp, ho, resolve, invoke, builtin, hd, hs, hrun, Result.andThen]
    exact h w (hid ⟨by simpa [splice] using hg, Touch.refl _ _⟩)
  · obtain ⟨rfl, ad, rfl, hsrc⟩ := hpos (by omega)
    have hrun := run_copy_row (P := P) w dT sT o.type elem g off dLen dCap ad sLen sCap cur t cs hu hsz hg hn hsrc hfit h1
    unfold Oper.wp
    simp [execOp, ho, resolve, invoke, builtin, hd, hs, hrun, Result.andThen]
    exact h _ (hid ⟨by simpa [splice] using setRow_heap w g _ _ t _ hg, ⟨rfl, rfl, rfl, by simp [World.setRow], fun k _ hk => setRow_other w g k _ hk⟩⟩)
theorem splice_adr {b : Bool} {R x : List UInt8} {off : Nat} : (splice (adrC b R).toList (1 + off) (byteCells x)).toArray = adrC b (R.take off ++ x ++ R.drop (off + x.length)) := by
  have e1 : (adrC b R).toList = Value.bool b :: R.map (fun c => Value.int .u8 c.toNat) := rfl
  rw [splice, e1, show 1 + off = off + 1 from by omega, List.take_succ_cons, show off + 1 + (byteCells x).length = off + x.length + 1 from by rw [byteCells_length]; omega, List.drop_succ_cons]
  unfold adrC
  simp [byteCells, List.map_take, List.map_drop]
theorem byteCells_one {x : List UInt8} : ∀ v ∈ byteCells x, v.oneCell' = true := by
  intro v hv
  simp only [byteCells, List.mem_map] at hv
  obtain ⟨c, _, rfl⟩ := hv
  rfl
/-- The cells of a side's row. -/
theorem row_cells {w : World} {base : Nat} {v : Value} {x : List UInt8} {ao : Option Addr} {cap : Nat} (hown : w.ownsRow base 5 1 v x.length (byteCells x)) (hv : v = .slice ao x.length cap) (h0 : 0 < (byteCells x).length) : ∃ ad, ao = some ad ∧ ∀ j u, (byteCells x)[j]? = some u → w.cell? (ad.add j) = some u := by
  rw [byteCells_length] at h0
  rcases hown.2 with ⟨hv2, h⟩ | ⟨g, cap2, cur, hv2, hb, hg, hnc, hcm, hcs, htake⟩
  · have hv3 := hv.symm.trans hv2
    injection hv3 with _ h2 _
    omega
  · have hv3 := hv.symm.trans hv2
    injection hv3 with h1 h2 h3
    refine ⟨_, h1, ?_⟩
    exact hown.cells (g := g) (by rw [hv2]; rfl)
theorem cut_len (l : List UInt8) : (Lib.cut l [58, 58]).1.length ≤ l.length ∧ (Lib.cut l [58, 58]).2.1.length ≤ l.length := by
  unfold Lib.cut
  split
  · refine ⟨?_, ?_⟩
    · show (l.take _).length ≤ _
      rw [List.length_take]; omega
    · show (l.drop _).length ≤ _
      rw [List.length_drop]; omega
  · exact ⟨Nat.le_refl _, Nat.zero_le _⟩
theorem heap_old4 {w : World} {k : Nat} {o x : Obj} (h : w.heap[k]? = some x) : (w.alloc o).heap[k]? = some x := by
  have hlt : k < w.heap.size := (Array.getElem?_eq_some_iff.1 h).1
  show (w.heap.push o)[k]? = some x
  rw [Array.getElem?_push_lt hlt, ← h, Array.getElem?_eq_getElem hlt]
theorem octP_len {l x : List UInt8} (h : fourP l = some x) : x.length = 4 := by
  unfold fourP at h
  split at h
  · rename_i h4
    have := octAcc_len _ _ _ h
    rw [this, h4]; rfl
  · cases h
theorem pieceAcc_len (e : Bool) : ∀ (ps : List (List UInt8)) (out x : List UInt8), pieceAcc e out ps = some x → x.length ≤ out.length + 4 * ps.length
  | [], out, x, h => by rw [pieceAcc] at h; injection h with h; rw [h]; simp
  | [p], out, x, h => by
    cases hp : pieceP p with
    | some b =>
      rw [pieceAcc_last hp] at h
      injection h with h
      rw [← h, List.length_append, pieceP_len hp]; simp
    | none =>
      rw [pieceAcc_four hp] at h
      split at h
      · cases h4 : fourP p with
        | none => rw [h4] at h; cases h
        | some b =>
          rw [h4] at h
          injection h with h
          rw [← h, List.length_append, octP_len h4]; simp
      · cases h
  | p :: q :: ps, out, x, h => by
    cases hp : pieceP p with
    | some b =>
      rw [pieceAcc_more hp] at h
      have := pieceAcc_len e (q :: ps) _ _ h
      rw [List.length_append, pieceP_len hp] at this
      simp only [List.length_cons] at this ⊢
      omega
    | none => rw [pieceAcc_none hp] at h; cases h
theorem takeP_len {e : Bool} {l x : List UInt8} (h : takeP e l = some x) : x.length ≤ 4 * (l.length + 1) := by
  unfold takeP at h
  split at h
  · injection h with h; rw [← h]; simp
  · have h1 := pieceAcc_len e _ _ _ h
    rw [cutAt_length] at h1
    have := List.count_le_length (a := (58 : UInt8)) (l := l)
    simp only [List.length_nil] at h1
    omega
theorem sixOf_some (f : Bool) (x y : List UInt8) : sixOf f (some x) (some y) = if (f = false ∧ x.length + y.length = 16) ∨ (f = true ∧ x.length + y.length ≤ 14) then (true, x ++ noughts (16 - x.length - y.length) ++ y, 0) else (false, noughts 16, 5) := rfl
theorem adr_size (b : Bool) (R : List UInt8) : (adrC b R).size = R.length + 1 := by simp [adrC]
theorem six_row {x y : List UInt8} (h : x.length + y.length ≤ 16) : ((noughts 16).take 0 ++ x ++ (noughts 16).drop (0 + x.length)).take (16 - y.length) ++ y ++ ((noughts 16).take 0 ++ x ++ (noughts 16).drop (0 + x.length)).drop (16 - y.length + y.length) = x ++ noughts (16 - x.length - y.length) ++ y := by
  have e : (noughts 16).take 0 ++ x ++ (noughts 16).drop (0 + x.length) = x ++ noughts (16 - x.length) := by simp only [noughts, List.take_zero, List.nil_append, List.drop_replicate, Nat.zero_add]
  rw [e]
  have e1 : (x ++ noughts (16 - x.length)).take (16 - y.length) = x ++ noughts (16 - x.length - y.length) := by
    rw [List.take_append, List.take_of_length_le (by omega)]
    congr 1
    simp only [noughts, List.take_replicate]
    congr 1
    omega
  have e2 : (x ++ noughts (16 - x.length)).drop (16 - y.length + y.length) = [] := by
    apply List.drop_eq_nil_of_le
    simp [noughts]; omega
  rw [e1, e2, List.append_nil]
theorem infoU8s : (Tryd.prog.info? 5).map (·.size) = some 1 := by kernel_rfl
theorem arr16 : Tryd.prog.arrayLen 22 = 16 := by kernel_rfl
theorem elem16 (V : World) : (sizeOf (Tryd.prog.elem 22)).run Tryd.prog V = .ok 1 V := by kernel_rfl
theorem slice_all (g : Nat) (V : World) : (Instr.sliceAt 22 (.pointer (some ⟨g, 1, none⟩)) none none none).run Tryd.prog V = .ok (.slice (some ⟨g, 1, none⟩) 16 16) V := by
  rw [run_sliceAt_array_all V 22 ⟨g, 1, none⟩ (by kernel_rfl), elem16, arr16]
  rfl
/-- Where the last n of the sixteen bytes begin. -/
def fromAdr (g n : Nat) : Addr := if n = 0 then ⟨g, 1, none⟩ else ⟨g, 1 + (16 - n), none⟩
theorem slice_tail (g n : Nat) (hn : n ≤ 16) (V : World) : (Instr.sliceAt 22 (.pointer (some ⟨g, 1, none⟩)) (some (.int .i64 (16 - (n : Int)))) none none).run Tryd.prog V = .ok (.slice (some (fromAdr g n)) n n) V := by
  rw [run_sliceAt_array_l V 22 ⟨g, 1, none⟩ (by kernel_rfl) .i64 (16 - (n : Int)) (by omega) (by rw [arr16]; omega), elem16, arr16]
  have e : (16 - (n : Int)).toNat = 16 - n := by omega
  show Result.ok (slicedAt ⟨g, 1, none⟩ (16 - (n : Int)).toNat 16 16 1) V = _
  rw [e]
  by_cases h : n = 0
  · subst h; simp [slicedAt, fromAdr]
  · have h2 : ¬ 16 = 16 - n := by omega
    simp [slicedAt, fromAdr, h, h2, Addr.add]
    omega
theorem not_side {b k : Nat} (h : k ≠ b) : ¬ SideBlk b (.slice none 0 0) k := fun e => by
  rcases e with e | e
  · exact h e
  · simp [Value.ownBlock] at e
/-- What Six answers, as a value. -/
def sixV (x : Bool × List UInt8 × Nat) : Value := .tuple #[.agg (adrC x.1 x.2.1), .int .i64 x.2.2]
theorem results_row2 {P : Program} {fn : Func} {p u : Tmp} {ty : TypeId} (h : fn.results = #[.cell p ty, .tmp u]) (tmps : Array Value) (w : World) (g : Nat) (t : TypeId) (cs : Array Value) (fr : Nat × Nat) (d : TypeDesc)
    (hp : tmps.getD p undef = .pointer (some ⟨g, 0, none⟩)) (hg : w.heap[g]? = some (.cells cs t fr))
    (hu : P.underlying ty = some d) (hd : (match d with | .struct _ | .array _ _ => true | _ => false) = true) (hi : (P.info? ty).map (·.size) = some cs.size) :
    (results fn tmps).run P w = .ok (.tuple #[.agg cs, tmps.getD u undef]) w := by
  have hp' : tmps[p]?.getD undef = .pointer (some ⟨g, 0, none⟩) := by simpa using hp
  simp [results, h, hp', asAddr, run_loadVar_row w g t ty cs fr d hg hu hd hi]
theorem true17 : adrC true (noughts 16) = #[.bool true, .int .u8 0, .int .u8 0, .int .u8 0, .int .u8 0, .int .u8 0, .int .u8 0, .int .u8 0, .int .u8 0, .int .u8 0, .int .u8 0, .int .u8 0, .int .u8 0, .int .u8 0, .int .u8 0, .int .u8 0, .int .u8 0] := rfl
set_option maxHeartbeats 4000000 in
set_option maxRecDepth 100000 in
theorem sixA_any (s : ByteArray) (hs : s.size ≤ 1048576) (w : World) (A0 : Amb w) :
    Calls Tryd.prog 16 #[.string s] w fun e w' => e = .returned (sixV (sixS s.data.toList)) ∧ Below w.heap.size w w' := by
  have hcut := fun W (h : World.ShapedOpen Tryd.prog W) => Tryd.strings_Cut_shaped s ⟨#[58, 58]⟩ W h (by omega)
  have HC := hid hcut
  have HA := hid A0
  clear hcut A0
  go_enter Tryd.func16, Tryd.ntmps16
  go_wp2_with fail
  rw [← zero17, ← true17]
  have hga : ((w.alloc (.cells (adrC false (noughts 16)) 24)).alloc (.cells (adrC true (noughts 16)) 24)).heap[w.heap.size]? = some (.cells (adrC false (noughts 16)) 24 (0, 0)) := heap_old4 (heap_alloc_new _ _)
  have hgb : ((w.alloc (.cells (adrC false (noughts 16)) 24)).alloc (.cells (adrC true (noughts 16)) 24)).heap[w.heap.size + 1]? = some (.cells (adrC true (noughts 16)) 24 (0, 0)) := by
    have h := heap_alloc_new (w.alloc (.cells (adrC false (noughts 16)) 24)) (.cells (adrC true (noughts 16)) 24)
    rwa [show (w.alloc (.cells (adrC false (noughts 16)) 24)).heap.size = w.heap.size + 1 from by simp] at h
  have hz2 : ((w.alloc (.cells (adrC false (noughts 16)) 24)).alloc (.cells (adrC true (noughts 16)) 24)).heap.size = w.heap.size + 2 := by simp
  have hba : Below w.heap.size w ((w.alloc (.cells (adrC false (noughts 16)) 24)).alloc (.cells (adrC true (noughts 16)) 24)) := ((Below.refl _ _).alloc (Nat.le_refl _) _).alloc (by simp) _
  generalize (w.alloc (.cells (adrC false (noughts 16)) 24)).alloc (.cells (adrC true (noughts 16)) 24) = wa at *
  obtain ⟨c1, c2, c3, hcc⟩ : ∃ c1 c2 c3, Lib.cut s.data.toList [58, 58] = (c1, c2, c3) := ⟨_, _, _, rfl⟩
  have hC := HC.out wa (HA.out.below hba).sh
  have e58 : (⟨#[58, 58]⟩ : ByteArray).data.toList = [58, 58] := rfl
  rw [hcc] at hC
  obtain ⟨T1, hT1⟩ : ∃ T1 : ByteArray, T1 = ⟨c1.toArray⟩ := ⟨_, rfl⟩
  obtain ⟨T2, hT2⟩ : ∃ T2 : ByteArray, T2 = ⟨c2.toArray⟩ := ⟨_, rfl⟩
  simp only [← hT1, ← hT2] at hC
  have hl1 : T1.data.toList = c1 := by rw [hT1]
  have hl2 : T2.data.toList = c2 := by rw [hT2]
  have hlen := cut_len s.data.toList
  rw [hcc] at hlen
  have hz1 : T1.size ≤ 1048576 := by rw [Lib.size_eq, hl1]; have := hlen.1; rw [← Lib.size_eq] at this; simp only [] at this; omega
  have hzz2 : T2.size ≤ 1048576 := by rw [Lib.size_eq, hl2]; have := hlen.2; rw [← Lib.size_eq] at this; simp only [] at this; omega
  have hF : sixS s.data.toList = sixOf c3 (takeP (!c3) T1.data.toList) (takeP true T2.data.toList) := by unfold sixS; rw [hcc, hl1, hl2]
  have HF := hid hF
  have HC2 := hid hC
  have Hga := hid hga
  have Hgb := hid hgb
  have Hz2 := hid hz2
  have Hba := hid hba
  clear hC hF hga hgb hz2 hba hcc hT1 hT2 hl1 hl2 hlen e58
  refine HC2.out.mono ?_
  rintro e wb ⟨rfl, nq, rfl⟩
  go_wp2_with fail
  have hL : (((wa.drewN nq).alloc (.cells #[.slice none 0 0, .bool !c3] 62)).alloc (.cells #[.slice none 0 0, .bool true] 62)).heap[wa.heap.size]? = some (.cells #[.slice none 0 0, .bool !c3] 62 (0, 0)) := heap_old4 (heap_alloc_new (wa.drewN nq) _)
  have hR : (((wa.drewN nq).alloc (.cells #[.slice none 0 0, .bool !c3] 62)).alloc (.cells #[.slice none 0 0, .bool true] 62)).heap[wa.heap.size + 1]? = some (.cells #[.slice none 0 0, .bool true] 62 (0, 0)) := by
    have h := heap_alloc_new ((wa.drewN nq).alloc (.cells #[.slice none 0 0, .bool !c3] 62)) (.cells #[.slice none 0 0, .bool true] 62)
    rwa [show ((wa.drewN nq).alloc (.cells #[.slice none 0 0, .bool !c3] 62)).heap.size = wa.heap.size + 1 from by simp] at h
  have hzc : (((wa.drewN nq).alloc (.cells #[.slice none 0 0, .bool !c3] 62)).alloc (.cells #[.slice none 0 0, .bool true] 62)).heap.size = wa.heap.size + 2 := by simp
  have hbc : Below wa.heap.size wa (((wa.drewN nq).alloc (.cells #[.slice none 0 0, .bool !c3] 62)).alloc (.cells #[.slice none 0 0, .bool true] 62)) := (Below.alloc (show Below wa.heap.size wa (wa.drewN nq) from ⟨rfl, rfl, rfl, Nat.le_refl _, fun _ _ => rfl⟩) (Nat.le_refl _) _).alloc (by simp) _
  generalize ((wa.drewN nq).alloc (.cells #[.slice none 0 0, .bool !c3] 62)).alloc (.cells #[.slice none 0 0, .bool true] 62) = wc at *
  obtain ⟨b1, hb1⟩ : ∃ b1, b1 = wa.heap.size := ⟨_, rfl⟩
  rw [← hb1] at hL hR hzc ⊢
  have hb1w : w.heap.size + 2 = b1 := by rw [hb1]; exact Hz2.out.symm
  have hbcw : Below w.heap.size w wc := Hba.out.trans (hbc.mono Hba.out.size)
  have hgc := (hbc.block w.heap.size (by omega)).trans Hga.out
  have hgcb := (hbc.block (w.heap.size + 1) (by omega)).trans Hgb.out
  have SL := hid (show SideAt wc (b1 + 2) b1 [] (!c3) (.slice none 0 0) from ⟨hL, World.ownsRow_nil _ _ _ _, by omega⟩)
  have SR := hid (show SideAt wc (b1 + 2) (b1 + 1) [] true (.slice none 0 0) from ⟨hR, World.ownsRow_nil _ _ _ _, by omega⟩)
  have Hzc := hid hzc
  have Hbc := hid hbcw
  have Hgc := hid hgc
  have Hgcb := hid hgcb
  have HT := hid (takeA_any T1 hz1 w wc HA.out hbcw (b1 + 2) b1 (by omega) [] (!c3) (.slice none 0 0) SL.out (by omega) (Nat.zero_le _))
  clear hL hR hzc hbc hb1 hbcw hgc hgcb Hga Hgb Hba HC2 HC
  refine HT.out.mono ?_
  intro e wd hres
  rcases hres with ⟨ho, rfl, ht⟩ | ⟨x, v1, ho, rfl, hr1⟩
  · have hF := HF.out
    rw [ho] at hF
    have HF2 : Hid (sixS s.data.toList = (false, noughts 16, 5)) := hid hF
    have hgd := (ht.block w.heap.size (by have := Hzc.out; omega) (not_side (by omega))).trans Hgc.out
    have Hbd := hid (side_below Hbc.out SL.out (by omega) ht)
    clear hF ho ht
    go_wp2_with (refine wpList_store_row rfl 24 _ _ rfl w.heap.size (adrC false (noughts 16)) rfl rfl _ _ hgd (infoAdr (noughts 16) rfl false) rfl (adr_one _ _) ?_)
    refine bodyPost_ret (v := sixV (false, noughts 16, 5)) (results_row2 (p := 2) (u := 3) rfl _ _ w.heap.size _ (adrC false (noughts 16)) _ _ rfl (setRow_heap wd w.heap.size _ (adrC false (noughts 16)) _ _ hgd) Tryd.underlying24 rfl (infoAdr (noughts 16) rfl false)) rfl ⟨by rw [HF2.out], below_setRow Hbd.out (Nat.le_refl _) _⟩
  · rw [List.nil_append] at hr1
    have hgd := (hr1.touch.block w.heap.size (by have := Hzc.out; omega) (not_side (by omega))).trans Hgc.out
    have hgdb := (hr1.touch.block (w.heap.size + 1) (by have := Hzc.out; omega) (not_side (by omega))).trans Hgcb.out
    have hbd := side_below Hbc.out SL.out (by omega) hr1.touch
    have SR2 := hid (SR.out.touch hr1.touch (not_side (by omega)) (fun k h => by simp [Value.ownBlock] at h))
    have SL2 := hid hr1.at'
    have Hbd := hid hbd
    have Hgd := hid hgd
    have Hgdb := hid hgdb
    have Ho := hid ho
    have HT2 := hid (takeA_any T2 hzz2 w wd HA.out hbd (b1 + 2) (b1 + 1) (by omega) [] true (.slice none 0 0) SR2.out (by have := hr1.touch.size; have := Hzc.out; omega) (Nat.zero_le _))
    have hdl : b1 + 2 ≤ wd.heap.size := by have := hr1.touch.size; have := Hzc.out; omega
    clear hgd hgdb hbd ho hr1
    go_wp2_with fail
    refine HT2.out.mono ?_
    intro e we hres
    rcases hres with ⟨ho2, rfl, ht⟩ | ⟨y, v2, ho2, rfl, hr2⟩
    · have hF := HF.out
      rw [Ho.out, ho2] at hF
      have HF2 : Hid (sixS s.data.toList = (false, noughts 16, 5)) := hid hF
      have hgd := (ht.block w.heap.size (by omega) (not_side (by omega))).trans Hgd.out
      have Hbe := hid (side_below Hbd.out SR2.out (by omega) ht)
      clear hF ho2 ht
      go_wp2_with (refine wpList_store_row rfl 24 _ _ rfl w.heap.size (adrC false (noughts 16)) rfl rfl _ _ hgd (infoAdr (noughts 16) rfl false) rfl (adr_one _ _) ?_)
      refine bodyPost_ret (v := sixV (false, noughts 16, 5)) (results_row2 (p := 2) (u := 3) rfl _ _ w.heap.size _ (adrC false (noughts 16)) _ _ rfl (setRow_heap we w.heap.size _ (adrC false (noughts 16)) _ _ hgd) Tryd.underlying24 rfl (infoAdr (noughts 16) rfl false)) rfl ⟨by rw [HF2.out], below_setRow Hbe.out (Nat.le_refl _) _⟩
    · rw [List.nil_append] at hr2
      have hge := (hr2.touch.block w.heap.size (by omega) (not_side (by omega))).trans Hgd.out
      have hgeb := (hr2.touch.block (w.heap.size + 1) (by omega) (not_side (by omega))).trans Hgdb.out
      have hbe := side_below Hbd.out SR2.out (by omega) hr2.touch
      have hnb : ∀ k, v1.ownBlock = some k → ¬ SideBlk (b1 + 1) (.slice none 0 0) k := fun k hk h => by
        rcases h with h | h
        · have := (SL2.out.own.lt k hk).1; omega
        · simp [Value.ownBlock] at h
      have SL3 := hid (SL2.out.touch hr2.touch (not_side (by omega)) hnb)
      have SR3 := hid hr2.at'
      have hel : b1 + 2 ≤ we.heap.size := Nat.le_trans hdl hr2.touch.size
      have hF := HF.out
      rw [Ho.out, ho2] at hF
      have HF2 := hid hF
      have Hge := hid hge
      have Hgeb := hid hgeb
      have Hbe := hid hbe
      have hxl := takeP_len Ho.out
      have hyl := takeP_len ho2
      rw [← Lib.size_eq] at hxl hyl
      clear hge hgeb hbe hF hr2 ho2
      obtain ⟨ao1, cap1, hv1⟩ := slice_of_row SL3.out.own
      obtain ⟨ao2, cap2, hv2⟩ := slice_of_row SR3.out.own
      have c1 := SL3.out.cell0
      have c2 := SR3.out.cell0
      have Hv1 := hid hv1
      have Hv2 := hid hv2
      rw [hv1] at c1
      rw [hv2] at c2
      obtain ⟨xn, hxn⟩ : ∃ xn, xn = x.length := ⟨_, rfl⟩
      obtain ⟨yn, hyn⟩ : ∃ yn, yn = y.length := ⟨_, rfl⟩
      rw [← hxn] at c1 hxl
      rw [← hyn] at c2 hyl
      have Hxn := hid hxn
      have Hyn := hid hyn
      obtain ⟨n, hn⟩ : ∃ n, n = xn + yn := ⟨_, rfl⟩
      have q1 : IntKind.i64.wrap ((xn : Int) + (yn : Int)) = (n : Int) := by rw [IntWalk.i64_in _ (by omega)]; omega
      have Hn := hid hn
      clear hv1 hv2 hxn hyn hn hxl hyl
      go_wp2_with fail
      go_quiet (fail)
      have hbq : Below we.heap.size we (we.drewN nq) := ⟨rfl, rfl, rfl, Nat.le_refl _, fun _ _ => rfl⟩
      have SL4 := hid (SL3.out.below hbq)
      have SR4 := hid (SR3.out.below hbq)
      have hgf := (hbq.block w.heap.size (by omega)).trans Hge.out
      have hgfb := (hbq.block (w.heap.size + 1) (by omega)).trans Hgeb.out
      have Hbf := hid (below_chain Hbe.out hbq)
      have hfl : b1 + 2 ≤ (we.drewN nq).heap.size := hel
      have d1 := SL4.out.cell0
      have d2 := SR4.out.cell0
      rw [Hv1.out] at d1
      rw [Hv2.out] at d2
      rw [← Hxn.out] at d1
      rw [← Hyn.out] at d2
      clear c1 c2 hbq SL3 SR3 Hge Hgeb Hbe
      generalize we.drewN nq = wf at *
      by_cases hgood : (c3 = false ∧ n = 16) ∨ (c3 = true ∧ n ≤ 14)
      · have hF : sixS s.data.toList = (true, x ++ noughts (16 - xn - yn) ++ y, 0) := by
          rw [HF2.out]
          rw [sixOf_some, if_pos (by rw [← Hxn.out, ← Hyn.out, ← Hn.out]; exact hgood), ← Hxn.out, ← Hyn.out]
        have HF3 := hid hF
        have hn16 : n ≤ 16 := by omega
        have hxy : xn + yn ≤ 16 := by have := Hn.out; omega
        have Hgf := hid hgf
        have Hgfb := hid hgfb
        clear hF HF2 hgf hgfb
        have hsl9 : ∀ V, (Instr.sliceAt 22 (.pointer (some ⟨w.heap.size + 1, 1, none⟩)) none none none).run Tryd.prog V = .ok (.slice (some ⟨w.heap.size + 1, 1, none⟩) 16 16) V := fun V => slice_all (w.heap.size + 1) V
        have hsl10 : ∀ V, (Instr.sliceAt 22 (.pointer (some ⟨w.heap.size + 1, 1, none⟩)) (some (.int .i64 (16 - (yn : Int)))) none none).run Tryd.prog V = .ok (.slice (some (fromAdr (w.heap.size + 1) yn)) yn yn) V := fun V => slice_tail (w.heap.size + 1) yn (by have := Hn.out; omega) V
        have q2 : IntKind.i64.wrap (16 - (yn : Int)) = 16 - (yn : Int) := IntWalk.i64_in _ (by omega)
        have Hx1 := hid (show (byteCells x).length = Nat.min xn 16 by rw [byteCells_length, ← Hxn.out]; exact (Nat.min_eq_left (by omega)).symm)
        have Hx2 := hid (show 0 < (byteCells x).length → ∃ ad, ao1 = some ad ∧ ∀ j u, (byteCells x)[j]? = some u → wf.cell? (ad.add j) = some u from fun h0 => row_cells SL4.out.own Hv1.out h0)
        have Hx3 := hid (show 1 + (byteCells x).length ≤ (adrC true (noughts 16)).size by rw [byteCells_length, ← Hxn.out]; have : (adrC true (noughts 16)).size = 17 := rfl; omega)
        cases c3 with
        | false =>
          have h16 : ((n : Int) != 16) = false := by
            rcases hgood with ⟨_, h⟩ | ⟨h, _⟩
            · rw [bne_eq_false_iff_eq]; omega
            · cases h
          clear hgood
          go_wp2_with fail
          go_region_law ((refine step_copy_t (by rfl) _ _ _ _ (by rfl) 5 Tryd.underlying42 infoU8s (some ⟨w.heap.size + 1, 1, none⟩) ao1 16 16 xn cap1 (by rfl) (by rfl) (w.heap.size + 1) 1 (adrC true (noughts 16)) 24 Hgfb.out (byteCells x) Hx1.out (fun h0 => ⟨rfl, Hx2.out h0⟩) Hx3.out byteCells_one ?_; intro wg hwg))
          obtain ⟨hwg1, hwg2⟩ := hwg.out
          clear hwg
          rw [show (1 : Nat) = 1 + 0 from rfl, splice_adr] at hwg1
          obtain ⟨R1, hR1⟩ : ∃ R1, R1 = (noughts 16).take 0 ++ x ++ (noughts 16).drop (0 + x.length) := ⟨_, rfl⟩
          rw [← hR1] at hwg1
          have hR1l : R1.length = 16 := by rw [hR1]; simp [noughts]; have := Hxn.out; omega
          have hRf := six_row (x := x) (y := y) (by rw [← Hxn.out, ← Hyn.out]; exact hxy)
          rw [← hR1, ← Hxn.out, ← Hyn.out] at hRf
          have htg : Touch (fun k => k = w.heap.size + 1) wf wg := ⟨hwg2.os, hwg2.tape, hwg2.output, hwg2.size, hwg2.block⟩
          have SR5 := hid (SR4.out.touch htg (by omega) (fun k hk h => by have := (SR4.out.own.lt k hk).1; omega))
          have d3 := SR5.out.cell0
          rw [Hv2.out] at d3
          rw [← Hyn.out] at d3
          have hgg := (htg.block w.heap.size (by omega) (by omega)).trans Hgf.out
          have Hgg := hid hgg
          have Hbg := hid (Hbf.out.trans (htg.below (B := w.heap.size) (fun k hk => by omega) Hbf.out.size))
          have Hwg1 := hid hwg1
          have HRf := hid hRf
          have Hy1 := hid (show (byteCells y).length = Nat.min yn yn by rw [byteCells_length, ← Hyn.out]; exact (Nat.min_self _).symm)
          have Hy2 := hid (show 0 < (byteCells y).length → ∃ ad, ao2 = some ad ∧ ∀ j u, (byteCells y)[j]? = some u → wg.cell? (ad.add j) = some u from fun h0 => row_cells SR5.out.own Hv2.out h0)
          have Hy3 := hid (show 1 + (16 - yn) + (byteCells y).length ≤ (adrC true R1).size by rw [byteCells_length, ← Hyn.out, adr_size, hR1l]; omega)
          have Hy4 := hid (show 0 < (byteCells y).length → some (fromAdr (w.heap.size + 1) yn) = some ⟨w.heap.size + 1, 1 + (16 - yn), none⟩ from fun h0 => by rw [byteCells_length, ← Hyn.out] at h0; rw [fromAdr, if_neg (by omega)])
          clear hwg1 hwg2 htg hgg hRf
          go_wp2_with fail
          go_region_law ((refine step_copy_t (by rfl) _ _ _ _ (by rfl) 5 Tryd.underlying42 infoU8s (some (fromAdr (w.heap.size + 1) yn)) ao2 yn yn yn cap2 (by rfl) (by rfl) (w.heap.size + 1) (1 + (16 - yn)) (adrC true R1) 24 Hwg1.out (byteCells y) Hy1.out (fun h0 => ⟨Hy4.out h0, Hy2.out h0⟩) Hy3.out byteCells_one ?_; intro wh hwh))
          all_goals (
            obtain ⟨hwh1, hwh2⟩ := hwh.out
            clear hwh
            rw [splice_adr, ← Hyn.out, HRf.out] at hwh1
            have htg2 : Touch (fun k => k = w.heap.size + 1) wg wh := ⟨hwh2.os, hwh2.tape, hwh2.output, hwh2.size, hwh2.block⟩
            have hgh := (htg2.block w.heap.size (by have := SR5.out.in_heap; omega) (by omega)).trans Hgg.out
            have Hbh := hid (Hbg.out.trans (htg2.below (B := w.heap.size) (fun k hk => by omega) Hbg.out.size))
            obtain ⟨R2, hR2⟩ : ∃ R2, R2 = x ++ noughts (16 - xn - yn) ++ y := ⟨_, rfl⟩
            rw [← hR2] at hwh1
            have hF3 := HF3.out
            rw [← hR2] at hF3
            have HF4 := hid hF3
            have hR2l : R2.length = 16 := by rw [hR2]; simp [noughts]; have := Hxn.out; have := Hyn.out; omega
            have hC17 : (17 : Nat) = (adrC true R2).size := by simp [adrC, hR2l]
            have HC17 := hid hC17
            have Hl := hid hR2l
            clear hwh2 htg2 hR2 hF3 hR2l hC17
            go_wp2_with (first
              | (refine wpList_load_row rfl 24 _ rfl (w.heap.size + 1) rfl _ _ _ _ hwh1 Tryd.underlying24 rfl (infoAdr R2 Hl.out true) ?_)
              | (refine wpList_store_row rfl 24 _ _ rfl w.heap.size (adrC true R2) rfl rfl _ _ hgh (infoAdr R2 Hl.out true) HC17.out (adr_one _ _) ?_))
            refine bodyPost_ret (v := sixV (true, R2, 0)) (results_row2 (p := 2) (u := 3) rfl _ _ w.heap.size _ (adrC true R2) _ _ rfl (setRow_heap wh w.heap.size _ (adrC true R2) _ _ hgh) Tryd.underlying24 rfl (infoAdr (R2) Hl.out true)) rfl ⟨by rw [HF4.out], below_setRow Hbh.out (Nat.le_refl _) _⟩)
        | true =>
          have h14 : ¬ (n : Int) > 14 := by
            rcases hgood with ⟨h, _⟩ | ⟨_, h⟩
            · cases h
            · omega
          clear hgood
          go_wp2_with fail
          go_region_law ((refine step_copy_t (by rfl) _ _ _ _ (by rfl) 5 Tryd.underlying42 infoU8s (some ⟨w.heap.size + 1, 1, none⟩) ao1 16 16 xn cap1 (by rfl) (by rfl) (w.heap.size + 1) 1 (adrC true (noughts 16)) 24 Hgfb.out (byteCells x) Hx1.out (fun h0 => ⟨rfl, Hx2.out h0⟩) Hx3.out byteCells_one ?_; intro wg hwg))
          obtain ⟨hwg1, hwg2⟩ := hwg.out
          clear hwg
          rw [show (1 : Nat) = 1 + 0 from rfl, splice_adr] at hwg1
          obtain ⟨R1, hR1⟩ : ∃ R1, R1 = (noughts 16).take 0 ++ x ++ (noughts 16).drop (0 + x.length) := ⟨_, rfl⟩
          rw [← hR1] at hwg1
          have hR1l : R1.length = 16 := by rw [hR1]; simp [noughts]; have := Hxn.out; omega
          have hRf := six_row (x := x) (y := y) (by rw [← Hxn.out, ← Hyn.out]; exact hxy)
          rw [← hR1, ← Hxn.out, ← Hyn.out] at hRf
          have htg : Touch (fun k => k = w.heap.size + 1) wf wg := ⟨hwg2.os, hwg2.tape, hwg2.output, hwg2.size, hwg2.block⟩
          have SR5 := hid (SR4.out.touch htg (by omega) (fun k hk h => by have := (SR4.out.own.lt k hk).1; omega))
          have d3 := SR5.out.cell0
          rw [Hv2.out] at d3
          rw [← Hyn.out] at d3
          have hgg := (htg.block w.heap.size (by omega) (by omega)).trans Hgf.out
          have Hgg := hid hgg
          have Hbg := hid (Hbf.out.trans (htg.below (B := w.heap.size) (fun k hk => by omega) Hbf.out.size))
          have Hwg1 := hid hwg1
          have HRf := hid hRf
          have Hy1 := hid (show (byteCells y).length = Nat.min yn yn by rw [byteCells_length, ← Hyn.out]; exact (Nat.min_self _).symm)
          have Hy2 := hid (show 0 < (byteCells y).length → ∃ ad, ao2 = some ad ∧ ∀ j u, (byteCells y)[j]? = some u → wg.cell? (ad.add j) = some u from fun h0 => row_cells SR5.out.own Hv2.out h0)
          have Hy3 := hid (show 1 + (16 - yn) + (byteCells y).length ≤ (adrC true R1).size by rw [byteCells_length, ← Hyn.out, adr_size, hR1l]; omega)
          have Hy4 := hid (show 0 < (byteCells y).length → some (fromAdr (w.heap.size + 1) yn) = some ⟨w.heap.size + 1, 1 + (16 - yn), none⟩ from fun h0 => by rw [byteCells_length, ← Hyn.out] at h0; rw [fromAdr, if_neg (by omega)])
          clear hwg1 hwg2 htg hgg hRf
          go_wp2_with fail
          go_region_law ((refine step_copy_t (by rfl) _ _ _ _ (by rfl) 5 Tryd.underlying42 infoU8s (some (fromAdr (w.heap.size + 1) yn)) ao2 yn yn yn cap2 (by rfl) (by rfl) (w.heap.size + 1) (1 + (16 - yn)) (adrC true R1) 24 Hwg1.out (byteCells y) Hy1.out (fun h0 => ⟨Hy4.out h0, Hy2.out h0⟩) Hy3.out byteCells_one ?_; intro wh hwh))
          all_goals (
            obtain ⟨hwh1, hwh2⟩ := hwh.out
            clear hwh
            rw [splice_adr, ← Hyn.out, HRf.out] at hwh1
            have htg2 : Touch (fun k => k = w.heap.size + 1) wg wh := ⟨hwh2.os, hwh2.tape, hwh2.output, hwh2.size, hwh2.block⟩
            have hgh := (htg2.block w.heap.size (by have := SR5.out.in_heap; omega) (by omega)).trans Hgg.out
            have Hbh := hid (Hbg.out.trans (htg2.below (B := w.heap.size) (fun k hk => by omega) Hbg.out.size))
            obtain ⟨R2, hR2⟩ : ∃ R2, R2 = x ++ noughts (16 - xn - yn) ++ y := ⟨_, rfl⟩
            rw [← hR2] at hwh1
            have hF3 := HF3.out
            rw [← hR2] at hF3
            have HF4 := hid hF3
            have hR2l : R2.length = 16 := by rw [hR2]; simp [noughts]; have := Hxn.out; have := Hyn.out; omega
            have hC17 : (17 : Nat) = (adrC true R2).size := by simp [adrC, hR2l]
            have HC17 := hid hC17
            have Hl := hid hR2l
            clear hwh2 htg2 hR2 hF3 hR2l hC17
            go_wp2_with (first
              | (refine wpList_load_row rfl 24 _ rfl (w.heap.size + 1) rfl _ _ _ _ hwh1 Tryd.underlying24 rfl (infoAdr R2 Hl.out true) ?_)
              | (refine wpList_store_row rfl 24 _ _ rfl w.heap.size (adrC true R2) rfl rfl _ _ hgh (infoAdr R2 Hl.out true) HC17.out (adr_one _ _) ?_))
            refine bodyPost_ret (v := sixV (true, R2, 0)) (results_row2 (p := 2) (u := 3) rfl _ _ w.heap.size _ (adrC true R2) _ _ rfl (setRow_heap wh w.heap.size _ (adrC true R2) _ _ hgh) Tryd.underlying24 rfl (infoAdr (R2) Hl.out true)) rfl ⟨by rw [HF4.out], below_setRow Hbh.out (Nat.le_refl _) _⟩)
      · have hF : sixS s.data.toList = (false, noughts 16, 5) := by
          rw [HF2.out]
          rw [sixOf_some, if_neg (by rw [← Hxn.out, ← Hyn.out, ← Hn.out]; exact hgood)]
        have HF3 := hid hF
        clear hF HF2
        cases c3 with
        | false =>
          have h16 : ((n : Int) != 16) = true := by rw [bne_iff_ne]; intro h; exact hgood (.inl ⟨rfl, by omega⟩)
          clear hgood
          go_wp2_with (refine wpList_store_row rfl 24 _ _ rfl w.heap.size (adrC false (noughts 16)) rfl rfl _ _ hgf (infoAdr (noughts 16) rfl false) rfl (adr_one _ _) ?_)
          refine bodyPost_ret (v := sixV (false, noughts 16, 5)) (results_row2 (p := 2) (u := 3) rfl _ _ w.heap.size _ (adrC false (noughts 16)) _ _ rfl (setRow_heap wf w.heap.size _ (adrC false (noughts 16)) _ _ hgf) Tryd.underlying24 rfl (infoAdr (noughts 16) rfl false)) rfl ⟨by rw [HF3.out], below_setRow Hbf.out (Nat.le_refl _) _⟩
        | true =>
          have h14 : (n : Int) > 14 := by
            have : ¬ n ≤ 14 := fun h => hgood (.inr ⟨rfl, h⟩)
            omega
          clear hgood
          go_wp2_with (refine wpList_store_row rfl 24 _ _ rfl w.heap.size (adrC false (noughts 16)) rfl rfl _ _ hgf (infoAdr (noughts 16) rfl false) rfl (adr_one _ _) ?_)
          refine bodyPost_ret (v := sixV (false, noughts 16, 5)) (results_row2 (p := 2) (u := 3) rfl _ _ w.heap.size _ (adrC false (noughts 16)) _ _ rfl (setRow_heap wf w.heap.size _ (adrC false (noughts 16)) _ _ hgf) Tryd.underlying24 rfl (infoAdr (noughts 16) rfl false)) rfl ⟨by rw [HF3.out], below_setRow Hbf.out (Nat.le_refl _) _⟩
end Go.Proofs.YtiookngmgednjaaDoor
