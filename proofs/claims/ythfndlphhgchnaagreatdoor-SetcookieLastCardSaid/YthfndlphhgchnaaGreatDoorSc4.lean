/- Walk: setcookie.Parse. -/
import Derived.Test.YthfndlphhgchnaaGreatDoorSc3
import Derived.Test.YthfndlphhgchnaaGreatDoorSpec10d
import Derived.Deep.Cut
import Derived.Deep.DeepCutAuto
namespace Go.Proofs.YthfndlphhgchnaaGreatDoor
open Go.RowKit Go.Lib Go.Proofs.Foot

theorem results_row2 {P : Program} {fn : Func} {p u : Tmp} {ty : TypeId} (h : fn.results = #[.cell p ty, .tmp u]) (tmps : Array Value) (w : World) (g : Nat) (t : TypeId) (cs : Array Value) (fr : Nat × Nat) (d : TypeDesc)
    (hp : tmps.getD p undef = .pointer (some ⟨g, 0, none⟩)) (hg : w.heap[g]? = some (.cells cs t fr))
    (hu : P.underlying ty = some d) (hd : (match d with | .struct _ | .array _ _ => true | _ => false) = true) (hi : (P.info? ty).map (·.size) = some cs.size) :
    (results fn tmps).run P w = .ok (.tuple #[.agg cs, tmps.getD u undef]) w := by
  have hp' : tmps[p]?.getD undef = .pointer (some ⟨g, 0, none⟩) := by simpa using hp
  simp [results, h, hp', asAddr, run_loadVar_row w g t ty cs fr d hg hu hd hi]
/-- What Parse answers. -/
def TellsR (l : List UInt8) (w : World) (e : Ending) (w' : World) : Prop := e = .returned (.tuple #[.agg (rowC (parseC l).1), .int .i64 ((parseC l).2 : Nat)]) ∧ Below w.heap.size w w'
theorem TellsR.mk {l : List UInt8} {w w' : World} {t : CkT} {n : Nat} (h : parseC l = (t, n)) (hb : Below w.heap.size w w') : TellsR l w (.returned (.tuple #[.agg (rowC t), .int .i64 (n : Nat)])) w' := by
  unfold TellsR; rw [h]; exact ⟨rfl, hb⟩
theorem cut59 (s : ByteArray) (hs : s.size ≤ 16777216) (w : World) (hsh : w.ShapedOpen Tryz.prog) (P R : ByteArray) (m : Bool) (h : Lib.cut s.data.toList [59] = (P.data.toList, R.data.toList, m)) :
    Calls Tryz.prog 25 #[.string s, .string ⟨#[59]⟩] w fun e w' => e = .returned (.tuple #[.string P, .string R, .bool m]) ∧ Below w.heap.size w w' := by
  have hc := Tryz.strings_Cut_shaped s ⟨#[59]⟩ w hsh (by omega)
  have he : Lib.cut s.data.toList (⟨#[59]⟩ : ByteArray).data.toList = (P.data.toList, R.data.toList, m) := h
  rw [he] at hc
  refine hc.mono ?_
  rintro e w' ⟨h1, n, rfl⟩
  refine ⟨h1.trans ?_, below_drewN (Below.refl _ _) n⟩
  rw [show (⟨P.data.toList.toArray⟩ : ByteArray) = P from tx_of P, show (⟨R.data.toList.toArray⟩ : ByteArray) = R from tx_of R]
theorem pair_is (s : ByteArray) (hs : s.size ≤ 16777216) (w : World) (hsh : w.ShapedOpen Tryz.prog) (N V : ByteArray) (o : Bool) (hN : nameP s.data.toList = N.data.toList) (hV : valP s.data.toList = V.data.toList) (ho : hasE s.data.toList = o) :
    Calls Tryz.prog 26 #[.string s] w fun e w' => e = .returned (.tuple #[.string N, .string V, .bool o]) ∧ Below w.heap.size w w' := by
  have := pairA_any s hs w hsh
  rw [hN, hV, ho, tx_of, tx_of] at this
  exact this
theorem name_len (l : List UInt8) : (nameP l).length ≤ l.length := Nat.le_trans (trim_length _) (befE_len l)
theorem val_len (l : List UInt8) : (valP l).length ≤ l.length := Nat.le_trans (trim_length _) (aftE_len l)
/-- What the loop keeps. -/
structure PHead (w : World) (g b : Nat) (t : CkT) (wr : World) : Prop where
  res : Blk wr w.heap.size 24 (rowC {})
  ck : Blk wr g 57 (rowC t)
  mp : MapF wr b 7 attrF
  below : Below w.heap.size w wr
  lt : w.heap.size < g
  ne : b ≠ g
theorem PHead.go {w wr w' : World} {g b : Nat} {t : CkT} (h : PHead w g b t wr) (hb : Below wr.heap.size wr w') : PHead w g b t w' :=
  ⟨h.res.keep hb, h.ck.keep hb, h.mp.below hb, below_chain h.below hb, h.lt, h.ne⟩
theorem PHead.says {w wr w' : World} {g b : Nat} {t t' : CkT} (h : PHead w g b t wr) (hb : Blk w' g 57 (rowC t')) (hg : wr.grownBy w' (some g)) : PHead w g b t' w' := by
  have lt := h.lt
  have hr := h.res.lt
  refine ⟨(hg.block _ hr (fun e => by injection e with e; omega)).trans h.res, hb, h.mp.kept (hg.block _ h.mp.lt (fun e => h.ne (by injection e))), h.below.trans ?_, lt, h.ne⟩
  exact ⟨hg.os, hg.tape, hg.output, hg.size, fun k hk => hg.block k (by omega) (fun e => by injection e with e; omega)⟩
theorem badB_one {c : UInt8} (h1 : c.toNat < 32) (h2 : c.toNat ≠ 9) : badB c = true := by unfold badB; simp [h1, h2]
theorem badB_127 {c : UInt8} (h : c.toNat = 127) : badB c = true := by unfold badB; simp [h]
theorem badB_no {c : UInt8} (h : c.toNat = 9 ∨ (32 ≤ c.toNat ∧ c.toNat ≠ 127)) : badB c = false := by
  unfold badB
  rcases h with h | ⟨h1, h2⟩
  · simp [h]
  · simp [h2]; omega
theorem any_take_snoc {l : List UInt8} {k : Nat} (h : k < l.length) (ht : (l.take k).any badB = false) (hk : badB l[k] = false) : (l.take (k + 1)).any badB = false := by
  rw [take_snoc' h, List.any_append, ht]; simp [hk]
theorem any_at {l : List UInt8} {k : Nat} (h : k < l.length) (hk : badB l[k] = true) : l.any badB = true := by
  rw [List.any_eq_true]; exact ⟨l[k], List.getElem_mem h, hk⟩
/-- What a name means to the program. -/
theorem attr_ways (L : List UInt8) : (attrF L = none ∧ ∀ t v, attrC t L v = t) ∨ L = expL ∨ L = ageL ∨ L = domL ∨ L = pathL ∨ L = secL ∨ L = hidL ∨ L = siteL := by
  by_cases h1 : L = expL
  · exact .inr (.inl h1)
  by_cases h2 : L = ageL
  · exact .inr (.inr (.inl h2))
  by_cases h3 : L = domL
  · exact .inr (.inr (.inr (.inl h3)))
  by_cases h4 : L = pathL
  · exact .inr (.inr (.inr (.inr (.inl h4))))
  by_cases h5 : L = secL
  · exact .inr (.inr (.inr (.inr (.inr (.inl h5)))))
  by_cases h6 : L = hidL
  · exact .inr (.inr (.inr (.inr (.inr (.inr (.inl h6))))))
  by_cases h7 : L = siteL
  · exact .inr (.inr (.inr (.inr (.inr (.inr (.inr h7))))))
  refine .inl ⟨?_, fun t v => ?_⟩
  · unfold attrF
    rw [if_neg h7, if_neg h6, if_neg h5, if_neg h4, if_neg h3, if_neg h2, if_neg h1]
  · exact attrC_none (by simp only [List.mem_cons, List.mem_nil_iff, or_false, not_or]; exact ⟨h1, h2, h3, h4, h5, h6, h7⟩)
theorem say_expires (g : Nat) (t : CkT) (N : List UInt8) (V : ByteArray) (h : lower N = expL) (hv : V.size ≤ 1024) (w : World) (G : Good w) (hg : Blk w g 57 (rowC t)) :
    Calls Tryz.prog 39 #[.pointer (some ⟨g, 0, none⟩), .string V] w (SaysR g (applyC t N V.data.toList) w) := by
  have hl : V.data.toList.length ≤ 1024 := by rw [← Lib.size_eq]; exact hv
  have := (expires_any g t V (by omega) w G hg)
  rw [apply_go hl, h]
  exact this
theorem say_age (g : Nat) (t : CkT) (N : List UInt8) (V : ByteArray) (h : lower N = ageL) (hv : V.size ≤ 1024) (w : World) (G : Good w) (hg : Blk w g 57 (rowC t)) :
    Calls Tryz.prog 40 #[.pointer (some ⟨g, 0, none⟩), .string V] w (SaysR g (applyC t N V.data.toList) w) := by
  have hl : V.data.toList.length ≤ 1024 := by rw [← Lib.size_eq]; exact hv
  have := (age_any g t V (by omega) w G hg)
  rw [apply_go hl, h]
  exact this
theorem say_domain (g : Nat) (t : CkT) (N : List UInt8) (V : ByteArray) (h : lower N = domL) (hv : V.size ≤ 1024) (w : World) (_G : Good w) (hg : Blk w g 57 (rowC t)) :
    Calls Tryz.prog 41 #[.pointer (some ⟨g, 0, none⟩), .string V] w (SaysR g (applyC t N V.data.toList) w) := by
  have hl : V.data.toList.length ≤ 1024 := by rw [← Lib.size_eq]; exact hv
  have := (domain_any g t V (by omega) w hg)
  rw [apply_go hl, h]
  exact this
theorem say_path (g : Nat) (t : CkT) (N : List UInt8) (V : ByteArray) (h : lower N = pathL) (hv : V.size ≤ 1024) (w : World) (_G : Good w) (hg : Blk w g 57 (rowC t)) :
    Calls Tryz.prog 42 #[.pointer (some ⟨g, 0, none⟩), .string V] w (SaysR g (applyC t N V.data.toList) w) := by
  have hl : V.data.toList.length ≤ 1024 := by rw [← Lib.size_eq]; exact hv
  have := (path_any g t V w hg)
  rw [apply_go hl, h]
  exact this
theorem say_secure (g : Nat) (t : CkT) (N : List UInt8) (V : ByteArray) (h : lower N = secL) (hv : V.size ≤ 1024) (w : World) (_G : Good w) (hg : Blk w g 57 (rowC t)) :
    Calls Tryz.prog 43 #[.pointer (some ⟨g, 0, none⟩), .string V] w (SaysR g (applyC t N V.data.toList) w) := by
  have hl : V.data.toList.length ≤ 1024 := by rw [← Lib.size_eq]; exact hv
  have := (secure_any g t V w hg)
  rw [apply_go hl, h]
  exact this
theorem say_hidden (g : Nat) (t : CkT) (N : List UInt8) (V : ByteArray) (h : lower N = hidL) (hv : V.size ≤ 1024) (w : World) (_G : Good w) (hg : Blk w g 57 (rowC t)) :
    Calls Tryz.prog 44 #[.pointer (some ⟨g, 0, none⟩), .string V] w (SaysR g (applyC t N V.data.toList) w) := by
  have hl : V.data.toList.length ≤ 1024 := by rw [← Lib.size_eq]; exact hv
  have := (hidden_any g t V w hg)
  rw [apply_go hl, h]
  exact this
theorem say_site (g : Nat) (t : CkT) (N : List UInt8) (V : ByteArray) (h : lower N = siteL) (hv : V.size ≤ 1024) (w : World) (_G : Good w) (hg : Blk w g 57 (rowC t)) :
    Calls Tryz.prog 45 #[.pointer (some ⟨g, 0, none⟩), .string V] w (SaysR g (applyC t N V.data.toList) w) := by
  have hl : V.data.toList.length ≤ 1024 := by rw [← Lib.size_eq]; exact hv
  have := (site_any' g t V (by omega) w hg)
  rw [apply_go hl, h]
  exact this
theorem parse_long (s : ByteArray) (hs : 65536 < s.size) (w : World) : Calls Tryz.prog 14 #[.string s] w (TellsR s.data.toList w) := by
  have hP := hid (parseC_long (l := s.data.toList) (by rw [← Lib.size_eq]; exact hs))
  have hgt : (s.size : Int) > 65536 := by omega
  go_enter Tryz.func14, Tryz.ntmps14
  go_wp2_with (refine wpList_store_row rfl 24 _ _ rfl w.heap.size (rowC {}) rfl rfl _ _ (heap_alloc_new w _) (infoTd _) rfl (rowC_one _) ?_)
  exact bodyPost_ret (v := .tuple #[.agg (rowC {}), .int .i64 3]) (results_row2 (p := 2) (u := 3) rfl _ _ w.heap.size _ (rowC {}) _ _ rfl (setRow_heap _ w.heap.size _ (rowC {}) _ _ (heap_alloc_new w _)) Tryz.underlying24 rfl (infoTd _)) rfl
    (TellsR.mk hP.out (below_setRow ((Below.refl _ _).alloc (Nat.le_refl _) _) (Nat.le_refl _) _))
set_option maxHeartbeats 4000000 in
set_option maxRecDepth 100000 in
theorem parseA_short (s : ByteArray) (hs : ¬ 65536 < s.size) (w : World) (G : Good w) : Calls Tryz.prog 14 #[.string s] w (TellsR s.data.toList w) := by
  have hgt : ¬ ((s.size : Int) > 65536) := by omega
  have hsl : s.data.toList.length = s.size := (Lib.size_eq s).symm
  have Hsl := hid hsl
  have hnl := hid (show ¬ 65536 < s.data.toList.length by omega)
  have HG := hid G
  clear hsl G
  go_enter Tryz.func14, Tryz.ntmps14
  go_wp2_with (refine wpList_string_bytes rfl 9 52 5 _ rfl s rfl Tryz.underlying9 Tryz.underlying52 Tryz.underlying5 (w.heap.size + 1) (by simp) ?_; intro w2 cap hrow hb2 hz2 hcap)
  have hr0 : Blk w2 w.heap.size 24 (rowC {}) := (hb2.block _ (by omega)).trans (heap_alloc_new w _)
  have hfin : Below w.heap.size w w2 := ((Below.refl w.heap.size w).alloc (Nat.le_refl _) (.cells (rowC {}) 24)).trans (hb2.mono (by omega))
  have Hrow := hid hrow
  have Hr0 := hid hr0
  have Hfin := hid hfin
  clear hrow hr0 hfin hb2 hz2 hcap
  go_loop [23, 5] (fun i c => ∃ k : Nat, k ≤ s.size ∧ i = .int .i64 k ∧ Hid ((s.data.toList.take k).any badB = false)) (fun i _ => s.size - (RowKit.intOf i).toNat)
  case atStart => exact ⟨0, Nat.zero_le _, rfl, hid rfl⟩
  case round =>
    obtain ⟨k, hk, rfl, ht⟩ := hrel
    by_cases hlt : k < s.size
    · have hl : k < s.data.toList.length := by rw [Hsl.out]; exact hlt
      obtain ⟨x, hx⟩ : ∃ x : UInt8, x = s.data.toList[k] := ⟨_, rfl⟩
      have hc1 := Hrow.out.cell hl
      rw [← hx] at hc1
      have hx256 : (x.toNat : Int) < 256 := by have := UInt8.toNat_lt x; omega
      have Hyes := hid (fun h : badB x = true => any_at hl (by rw [← hx]; exact h))
      have Hno := hid (fun h : badB x = false => any_take_snoc hl ht.out (by rw [← hx]; exact h))
      clear hx hl
      by_cases hbad : (x.toNat < 32 ∧ x.toNat ≠ 9) ∨ x.toNat = 127
      · have hb : badB x = true := by
          rcases hbad with ⟨a, b⟩ | a
          · exact badB_one a b
          · exact badB_127 a
        have HP := hid (parseC_bad hnl.out (Hyes.out hb))
        have hR := Hr0.out
        have Hb := hid hbad
        clear hbad hb
        rcases Hb.out with ⟨a, b⟩ | a
        · have d1 : (x.toNat : Int) < 32 := by omega
          have d2 : ((x.toNat : Int) == 9) = false := by rw [beq_eq_false_iff_ne]; omega
          have d3 : ((x.toNat : Int) != 9) = true := by rw [bne, d2]; rfl
          clear a b
          go_wp2_with (refine wpList_store_row rfl 24 _ _ rfl w.heap.size (rowC {}) rfl rfl _ _ hR (infoTd _) rfl (rowC_one _) ?_)
          exact bodyPost_ret (v := .tuple #[.agg (rowC {}), .int .i64 4]) (results_row2 (p := 2) (u := 3) rfl _ _ w.heap.size _ (rowC {}) _ _ rfl (setRow_heap _ w.heap.size _ (rowC {}) _ _ Hr0.out) Tryz.underlying24 rfl (infoTd _)) rfl
            (TellsR.mk HP.out (below_setRow Hfin.out (Nat.le_refl _) _))
        · have d1 : ¬ (x.toNat : Int) < 32 := by omega
          have d2 : ((x.toNat : Int) == 127) = true := by rw [beq_iff_eq]; omega
          clear a
          go_wp2_with (refine wpList_store_row rfl 24 _ _ rfl w.heap.size (rowC {}) rfl rfl _ _ hR (infoTd _) rfl (rowC_one _) ?_)
          exact bodyPost_ret (v := .tuple #[.agg (rowC {}), .int .i64 4]) (results_row2 (p := 2) (u := 3) rfl _ _ w.heap.size _ (rowC {}) _ _ rfl (setRow_heap _ w.heap.size _ (rowC {}) _ _ Hr0.out) Tryz.underlying24 rfl (infoTd _)) rfl
            (TellsR.mk HP.out (below_setRow Hfin.out (Nat.le_refl _) _))
      · have Hn := hid (Hno.out (badB_no (by omega)))
        have e127 : ((x.toNat : Int) == 127) = false := by rw [beq_eq_false_iff_ne]; omega
        by_cases h9 : x.toNat = 9
        · have d1 : (x.toNat : Int) < 32 := by omega
          have d2 : ((x.toNat : Int) == 9) = true := by rw [beq_iff_eq]; omega
          have d3 : ((x.toNat : Int) != 9) = false := by rw [bne, d2]; rfl
          clear hbad h9
          go_wp2
          go_round
          case rel => exact ⟨k + 1, by omega, by go_num, Hn⟩
          case measure => simp [RowKit.intOf]; omega
        · have d1 : ¬ (x.toNat : Int) < 32 := by omega
          clear hbad h9
          go_wp2
          go_round
          case rel => exact ⟨k + 1, by omega, by go_num, Hn⟩
          case measure => simp [RowKit.intOf]; omega
    · have hclean : s.data.toList.any badB = false := by
        have := ht.out
        rwa [List.take_of_length_le (by rw [Hsl.out]; omega)] at this
      obtain ⟨p, r, m, hcut, hparts, -, -⟩ := cut_semis s.data.toList
      obtain ⟨P, hP⟩ : ∃ P : ByteArray, p = P.data.toList := ⟨tx _, (tx_list _).symm⟩
      obtain ⟨R, hR⟩ : ∃ R : ByteArray, r = R.data.toList := ⟨tx _, (tx_list _).symm⟩
      have hmem : p ∈ cutAt 59 s.data.toList := by rw [hparts]; simp
      have hpl := cutAt_size 59 _ _ hmem
      have hrl : r.length ≤ s.data.toList.length := by
        have := congrArg (fun x => x.2.1.length) hcut
        simp only at this
        rw [← this]
        unfold Lib.cut
        split
        · show (List.drop _ _).length ≤ _; rw [List.length_drop]; omega
        · exact Nat.zero_le _
      rw [hP, Hsl.out, ← Lib.size_eq] at hpl
      rw [hR, Hsl.out, ← Lib.size_eq] at hrl
      obtain ⟨N, hN⟩ : ∃ N : ByteArray, nameP P.data.toList = N.data.toList := ⟨tx _, (tx_list _).symm⟩
      obtain ⟨V, hV⟩ : ∃ V : ByteArray, valP P.data.toList = V.data.toList := ⟨tx _, (tx_list _).symm⟩
      obtain ⟨o, ho⟩ : ∃ o, hasE P.data.toList = o := ⟨_, rfl⟩
      obtain ⟨N0, hN0⟩ : ∃ N0 : ByteArray, N0 = if o = true then N else ⟨#[]⟩ := ⟨_, rfl⟩
      obtain ⟨V0, hV0⟩ : ∃ V0 : ByteArray, V0 = if o = true then V else N := ⟨_, rfl⟩
      have hNl := name_len P.data.toList
      have hVl := val_len P.data.toList
      rw [hN, ← Lib.size_eq, ← Lib.size_eq] at hNl
      rw [hV, ← Lib.size_eq, ← Lib.size_eq] at hVl
      have eN0 : name0 P.data.toList = N0.data.toList := by unfold name0; rw [ho, hN0]; split <;> simp [hN]
      have eV0 : value0 P.data.toList = V0.data.toList := by unfold value0; rw [ho, hV0]; split <;> simp [hV, hN]
      have hN0s : N0.size ≤ 65536 := by
        rw [hN0]; split
        · omega
        · exact Nat.zero_le _
      have hV0s : V0.size ≤ 65536 := by rw [hV0]; split <;> omega
      have hgo := parseC_go hnl.out hclean hparts
      rw [hP] at hgo
      have hst : startC P.data.toList (if m = true then cutAt 59 r else []) = if 4096 < N0.size + V0.size then ({}, 3) else if N0.data.toList = [] ∧ V0.data.toList = [] then ({}, 4) else (moreC { name := N0.data.toList, value := V0.data.toList } (if m = true then cutAt 59 R.data.toList else []), 0) := by
        unfold startC
        rw [eN0, eV0, hR, ← Lib.size_eq, ← Lib.size_eq]
      have Hgo := hid (hgo.trans hst)
      have HC := hid (cut59 s (by omega) w2 (HG.out.below Hfin.out).1 P R m (by rw [hcut, hP, hR]))
      have HPr := hid (fun W (h : Good W) => pair_is P (by omega) W h.1 N V o hN hV ho)
      have Hrl := hid hrl
      clear hclean hcut hparts hP hR hmem hpl hrl hN hV ho hgo hst eN0 eV0 hNl hVl ht
      go_wp2_with fail
      refine HC.out.mono ?_
      rintro e w3 ⟨rfl, hb3⟩
      have Hb3 := hid (below_chain Hfin.out hb3)
      have Hr3 := hid (Hr0.out.keep hb3)
      clear hb3
      go_wp2_with fail
      refine (HPr.out _ (HG.out.below Hb3.out)).mono ?_
      rintro e w4 ⟨rfl, hb4⟩
      have Hb4 := hid (below_chain Hb3.out hb4)
      have Hr4 := hid (Hr3.out.keep hb4)
      have hg4 : w.heap.size < w4.heap.size := Hr4.out.lt
      clear hb4
      go_upto_if 52 with fail
      go_cut [9, 10] (fun va vb wx => va = .string N0 ∧ vb = .string V0 ∧ w4 = wx)
      case first =>
        have HN0 := hid hN0
        have HV0 := hid hV0
        clear hN0 hV0
        cases o with
        | true =>
          go_wp2
          go_meet
          exact ⟨by rw [HN0.out]; rfl, by rw [HV0.out]; rfl, rfl⟩
        | false =>
          go_wp2
          go_meet
          exact ⟨by rw [HN0.out]; rfl, by rw [HV0.out]; rfl, rfl⟩
      case rest =>
        obtain ⟨rfl, rfl, rfl⟩ := hcut
        clear hN0 hV0
        have hR4 := Hr4.out
        by_cases hbig : 4096 < N0.size + V0.size
        · have hgt2 : (N0.size : Int) + (V0.size : Int) > 4096 := by omega
          have HP := hid (Hgo.out.trans (if_pos hbig))
          clear hbig
          go_wp2_with (refine wpList_store_row rfl 24 _ _ rfl w.heap.size (rowC {}) rfl rfl _ _ hR4 (infoTd _) rfl (rowC_one _) ?_)
          exact bodyPost_ret (v := .tuple #[.agg (rowC {}), .int .i64 3]) (results_row2 (p := 2) (u := 3) rfl _ _ w.heap.size _ (rowC {}) _ _ rfl (setRow_heap _ w.heap.size _ (rowC {}) _ _ Hr4.out) Tryz.underlying24 rfl (infoTd _)) rfl
            (TellsR.mk HP.out (below_setRow Hb4.out (Nat.le_refl _) _))
        · have hgt2 : ¬ ((N0.size : Int) + (V0.size : Int) > 4096) := by omega
          have hsum : N0.size + V0.size ≤ 4096 := by omega
          obtain ⟨NV, hNV⟩ : ∃ NV, NV = N0 ++ V0 := ⟨_, rfl⟩
          have hadd : ∀ W, (Op.stringOp .add N0 V0).run Tryz.prog W = .ok (.string NV) W := fun W => by rw [hNV]; exact run_string_add W _ _ (by omega) (by omega)
          have hNVl : NV.data.toList = N0.data.toList ++ V0.data.toList := by rw [hNV]; simp [ByteArray.data_append]
          have Hgo2 := hid (Hgo.out.trans (if_neg hbig))
          clear hbig hNV
          by_cases hemp : N0.data.toList = [] ∧ V0.data.toList = []
          · have HP := hid (Hgo2.out.trans (if_pos hemp))
            have he : NV = ⟨#[]⟩ := empty_is (by rw [hNVl, hemp.1, hemp.2]; rfl)
            subst he
            clear hemp hNVl
            go_wp2_with (refine wpList_store_row rfl 24 _ _ rfl w.heap.size (rowC {}) rfl rfl _ _ hR4 (infoTd _) rfl (rowC_one _) ?_)
            exact bodyPost_ret (v := .tuple #[.agg (rowC {}), .int .i64 4]) (results_row2 (p := 2) (u := 3) rfl _ _ w.heap.size _ (rowC {}) _ _ rfl (setRow_heap _ w.heap.size _ (rowC {}) _ _ Hr4.out) Tryz.underlying24 rfl (infoTd _)) rfl
              (TellsR.mk HP.out (below_setRow Hb4.out (Nat.le_refl _) _))
          · have HP := hid (Hgo2.out.trans (if_neg hemp))
            have he := empty_no (T := NV) (by rw [hNVl]; intro e; exact hemp (List.append_eq_nil_iff.1 e))
            obtain ⟨C0, hC0⟩ : ∃ C0 : CkT, C0 = { name := N0.data.toList, value := V0.data.toList } := ⟨_, rfl⟩
            have hR5 : Blk (w4.alloc (.cells #[.string N0, .string V0, .string ⟨#[]⟩, .string ⟨#[]⟩, .int .i64 0, .bool false, .int .i64 0, .bool false, .bool false, .bool false, .int .u8 0] 57)) w4.heap.size 57 (rowC C0) :=
              (Blk.first w4 _ _).eq (by rw [hC0]; unfold rowC; rw [tx_of, tx_of]; rfl)
            rw [← hC0] at HP
            obtain ⟨fin, hfin⟩ : ∃ fin, fin = moreC C0 (if m = true then cutAt 59 R.data.toList else []) := ⟨_, rfl⟩
            rw [← hfin] at HP
            have Hfin2 := hid hfin.symm
            have HR5 := hid hR5
            have HB5 := hid (show Below w4.heap.size w4 (w4.alloc (.cells #[.string N0, .string V0, .string ⟨#[]⟩, .string ⟨#[]⟩, .int .i64 0, .bool false, .int .i64 0, .bool false, .bool false, .bool false, .int .u8 0] 57)) from (Below.refl _ _).alloc (Nat.le_refl _) _)
            clear hemp hNVl hC0 hfin hR5
            go_wp2_with fail
            have hz5 : (w4.alloc (.cells #[.string N0, .string V0, .string ⟨#[]⟩, .string ⟨#[]⟩, .int .i64 0, .bool false, .int .i64 0, .bool false, .bool false, .bool false, .int .u8 0] 57)).heap.size = w4.heap.size + 1 := by simp
            generalize World.alloc w4 _ = w5 at *
            refine (attrF_any _).mono ?_
            rintro e w6 ⟨rfl, hM, hb6⟩
            have HM := hid hM
            have HB6 := hid hb6
            obtain ⟨g, hg⟩ : ∃ g, g = w4.heap.size := ⟨_, rfl⟩
            obtain ⟨b, hb⟩ : ∃ b, b = w5.heap.size := ⟨_, rfl⟩
            have H0 : Hid (PHead w g b C0 w6) := hid ⟨(Hr4.out.keep HB5.out).keep HB6.out, by rw [hg]; exact HR5.out.keep HB6.out, by rw [hb]; exact HM.out, below_chain (below_chain Hb4.out HB5.out) HB6.out, by rw [hg]; exact hg4, by rw [hg, hb, hz5]; omega⟩
            rw [← hb, ← hg]
            clear hM hb6 HM HB6 HB5 HR5 hz5 hb hg hR4 Hgo2 Hgo hadd he hsum
            go_wp2
            go_loopg [7, 8] (R.size + 1) (fun gk rv mv wr => ∃ (gm : Nat) (R : ByteArray) (m : Bool) (t : CkT), gm = gk ∧ rv = .string R ∧ mv = .bool m ∧ R.size ≤ 65536 ∧ (m = true → R.size + 1 ≤ gm) ∧ Hid (PHead w g b t wr ∧ moreC t (if m = true then cutAt 59 R.data.toList else []) = fin))
            case atStart => exact ⟨_, R, m, C0, rfl, rfl, rfl, (by have := Hrl.out; omega), (fun _ => Nat.le_refl _), hid ⟨H0.out, Hfin2.out⟩⟩
            case round =>
              obtain ⟨gm, R, m, t, rfl, rfl, rfl, hRs, hgm, hh⟩ := hrel
              obtain ⟨ph, heq⟩ := hh.out
              have PH := hid ph
              have Heq := hid heq
              clear ph heq hh
              cases m with
              | false =>
                have hf := Heq.out
                rw [if_neg (by decide), moreC_nil] at hf
                subst hf
                have hck := PH.out.ck
                have hres := PH.out.res
                clear hgm
                go_wp2_with (first
                  | (refine wpList_load_row rfl 57 _ rfl g rfl _ _ _ _ hck Tryz.underlying57 rfl (infoCk _) ?_)
                  | (refine wpList_store_row rfl 24 _ _ rfl w.heap.size (rowC t) rfl rfl _ _ hres (infoTd _) rfl (rowC_one _) ?_))
                exact bodyPost_ret (v := .tuple #[.agg (rowC t), .int .i64 0]) (results_row2 (p := 2) (u := 3) rfl _ _ w.heap.size _ (rowC t) _ _ rfl (setRow_heap _ w.heap.size _ (rowC t) _ _ PH.out.res) Tryz.underlying24 rfl (infoTd _)) rfl
                  (TellsR.mk HP.out (below_setRow PH.out.below (Nat.le_refl _) _))
              | true =>
                have hgm1 := hgm rfl
                have hf := Heq.out
                rw [if_pos rfl] at hf
                obtain ⟨p, r, m2, hcut, hparts, hyes, hno⟩ := cut_semis R.data.toList
                obtain ⟨P, hP⟩ : ∃ P : ByteArray, p = P.data.toList := ⟨tx _, (tx_list _).symm⟩
                obtain ⟨R2, hR2⟩ : ∃ R2 : ByteArray, r = R2.data.toList := ⟨tx _, (tx_list _).symm⟩
                rw [hparts, moreC_cons, hP, hR2] at hf
                have hmem : p ∈ cutAt 59 R.data.toList := by rw [hparts]; simp
                have hpl := cutAt_size 59 _ _ hmem
                rw [hP, ← Lib.size_eq, ← Lib.size_eq] at hpl
                have hr2 : R2.size ≤ 65536 ∧ (m2 = true → R2.size + 1 ≤ R.size) := by
                  cases hm2 : m2 with
                  | true =>
                    have e := congrArg List.length (hyes hm2)
                    rw [List.length_append, List.length_cons, hR2, ← Lib.size_eq, ← Lib.size_eq] at e
                    exact ⟨by omega, fun _ => by omega⟩
                  | false =>
                    have e := congrArg List.length (hno hm2).2
                    rw [hR2, ← Lib.size_eq] at e
                    exact ⟨by rw [e]; exact Nat.zero_le _, (fun h => by cases h)⟩
                obtain ⟨N, hN⟩ : ∃ N : ByteArray, nameP P.data.toList = N.data.toList := ⟨tx _, (tx_list _).symm⟩
                obtain ⟨V, hV⟩ : ∃ V : ByteArray, valP P.data.toList = V.data.toList := ⟨tx _, (tx_list _).symm⟩
                obtain ⟨o, ho⟩ : ∃ o, hasE P.data.toList = o := ⟨_, rfl⟩
                rw [hN, hV] at hf
                have hNl := name_len P.data.toList
                rw [hN, ← Lib.size_eq, ← Lib.size_eq] at hNl
                obtain ⟨L, hL⟩ : ∃ L : ByteArray, lower N.data.toList = L.data.toList := ⟨tx _, (tx_list _).symm⟩
                have hLs : L.size ≤ maxLen := by have := lower_length N.data.toList; rw [hL, ← Lib.size_eq, ← Lib.size_eq] at this; unfold maxLen; omega
                have HC := hid (fun W (h : Good W) => cut59 R (by omega) W h.1 P R2 m2 (by rw [hcut, hP, hR2]))
                have HPr := hid (fun W (h : Good W) => pair_is P (by omega) W h.1 N V o hN hV ho)
                have HLo := hid (fun W => lower_to N (by omega) W L hL)
                have Hf := hid hf
                have HL := hid hL
                have hR2s := hr2.1
                have hstep : m2 = true → R2.size + 1 ≤ gm - 1 := fun h => by have := hr2.2 h; omega
                have Hstep := hid hstep
                have HLs := hid hLs
                clear hf hcut hparts hyes hno hP hR2 hmem hpl hN hV ho hNl hL hr2 hgm hstep hLs
                go_wp2_with fail
                refine (HC.out _ (HG.out.below PH.out.below)).mono ?_
                rintro e wa ⟨rfl, hba⟩
                have PHa := hid (PH.out.go hba)
                clear hba
                go_wp2_with fail
                refine (HPr.out _ (HG.out.below PHa.out.below)).mono ?_
                rintro e wb ⟨rfl, hbb⟩
                have PHb := hid (PHa.out.go hbb)
                clear hbb
                go_wp2_with fail
                refine (HLo.out _).mono ?_
                rintro e wc ⟨rfl, hbc⟩
                have PHc := hid (PHb.out.go hbc)
                clear hbc
                have hl := PHc.out.mp.look2 (e := 60) Tryz.underlying58 (z := .nilFunc) (by kernel_rfl) true L HLs.out
                rw [if_pos rfl] at hl
                rcases attr_ways L.data.toList with ⟨hn, ha⟩ | hn | hn | hn | hn | hn | hn | hn
                · rw [hn] at hl
                  have hl2 : (Instr.lookup 58 (.map (some b)) (.string L) true).run Tryz.prog wc = .ok (.tuple #[.nilFunc, .bool false]) wc := hl
                  have Ht := hid (show applyC t N.data.toList V.data.toList = t by
                    unfold applyC; split
                    · rw [HL.out]; exact ha _ _
                    · rfl)
                  clear hn ha hl
                  go_wp2
                  go_roundg (gm - 1)
                  case rel => exact ⟨_, R2, m2, t, rfl, rfl, rfl, hR2s, Hstep.out, hid ⟨PHc.out, by have := Hf.out; rw [Ht.out] at this; exact this⟩⟩
                  case measure => omega
                · have hF : attrF L.data.toList = some (.func (.func 39) #[] #[]) := by rw [hn]; rfl
                  rw [hF] at hl
                  have hl2 : (Instr.lookup 58 (.map (some b)) (.string L) true).run Tryz.prog wc = .ok (.tuple #[.func (.func 39) #[] #[], .bool true]) wc := hl
                  by_cases hv : V.size ≤ 1024
                  · obtain ⟨t2, ht2⟩ : ∃ t2, t2 = applyC t N.data.toList V.data.toList := ⟨_, rfl⟩
                    have HK := hid (say_expires g t N.data.toList V (by rw [HL.out]; exact hn) hv wc (HG.out.below PHc.out.below) PHc.out.ck)
                    rw [← ht2] at HK
                    have Hf2 := hid (show moreC t2 (if m2 = true then cutAt 59 R2.data.toList else []) = fin by rw [ht2]; exact Hf.out)
                    clear hF hl hn ht2
                    go_wp2_with fail
                    refine HK.out.mono ?_
                    rintro e wd ⟨rfl, hblk, hgrow⟩
                    have PHd := hid (PHc.out.says hblk hgrow)
                    clear hblk hgrow hl2
                    go_wp2
                    go_roundg (gm - 1)
                    case rel => exact ⟨_, R2, m2, t2, rfl, rfl, rfl, hR2s, Hstep.out, hid ⟨PHd.out, Hf2.out⟩⟩
                    case measure => omega
                  · have Ht := hid (show applyC t N.data.toList V.data.toList = t from if_neg (by rw [← Lib.size_eq]; exact hv))
                    clear hF hl hn
                    go_wp2
                    go_roundg (gm - 1)
                    case rel => exact ⟨_, R2, m2, t, rfl, rfl, rfl, hR2s, Hstep.out, hid ⟨PHc.out, by have := Hf.out; rw [Ht.out] at this; exact this⟩⟩
                    case measure => omega
                · have hF : attrF L.data.toList = some (.func (.func 40) #[] #[]) := by rw [hn]; rfl
                  rw [hF] at hl
                  have hl2 : (Instr.lookup 58 (.map (some b)) (.string L) true).run Tryz.prog wc = .ok (.tuple #[.func (.func 40) #[] #[], .bool true]) wc := hl
                  by_cases hv : V.size ≤ 1024
                  · obtain ⟨t2, ht2⟩ : ∃ t2, t2 = applyC t N.data.toList V.data.toList := ⟨_, rfl⟩
                    have HK := hid (say_age g t N.data.toList V (by rw [HL.out]; exact hn) hv wc (HG.out.below PHc.out.below) PHc.out.ck)
                    rw [← ht2] at HK
                    have Hf2 := hid (show moreC t2 (if m2 = true then cutAt 59 R2.data.toList else []) = fin by rw [ht2]; exact Hf.out)
                    clear hF hl hn ht2
                    go_wp2_with fail
                    refine HK.out.mono ?_
                    rintro e wd ⟨rfl, hblk, hgrow⟩
                    have PHd := hid (PHc.out.says hblk hgrow)
                    clear hblk hgrow hl2
                    go_wp2
                    go_roundg (gm - 1)
                    case rel => exact ⟨_, R2, m2, t2, rfl, rfl, rfl, hR2s, Hstep.out, hid ⟨PHd.out, Hf2.out⟩⟩
                    case measure => omega
                  · have Ht := hid (show applyC t N.data.toList V.data.toList = t from if_neg (by rw [← Lib.size_eq]; exact hv))
                    clear hF hl hn
                    go_wp2
                    go_roundg (gm - 1)
                    case rel => exact ⟨_, R2, m2, t, rfl, rfl, rfl, hR2s, Hstep.out, hid ⟨PHc.out, by have := Hf.out; rw [Ht.out] at this; exact this⟩⟩
                    case measure => omega
                · have hF : attrF L.data.toList = some (.func (.func 41) #[] #[]) := by rw [hn]; rfl
                  rw [hF] at hl
                  have hl2 : (Instr.lookup 58 (.map (some b)) (.string L) true).run Tryz.prog wc = .ok (.tuple #[.func (.func 41) #[] #[], .bool true]) wc := hl
                  by_cases hv : V.size ≤ 1024
                  · obtain ⟨t2, ht2⟩ : ∃ t2, t2 = applyC t N.data.toList V.data.toList := ⟨_, rfl⟩
                    have HK := hid (say_domain g t N.data.toList V (by rw [HL.out]; exact hn) hv wc (HG.out.below PHc.out.below) PHc.out.ck)
                    rw [← ht2] at HK
                    have Hf2 := hid (show moreC t2 (if m2 = true then cutAt 59 R2.data.toList else []) = fin by rw [ht2]; exact Hf.out)
                    clear hF hl hn ht2
                    go_wp2_with fail
                    refine HK.out.mono ?_
                    rintro e wd ⟨rfl, hblk, hgrow⟩
                    have PHd := hid (PHc.out.says hblk hgrow)
                    clear hblk hgrow hl2
                    go_wp2
                    go_roundg (gm - 1)
                    case rel => exact ⟨_, R2, m2, t2, rfl, rfl, rfl, hR2s, Hstep.out, hid ⟨PHd.out, Hf2.out⟩⟩
                    case measure => omega
                  · have Ht := hid (show applyC t N.data.toList V.data.toList = t from if_neg (by rw [← Lib.size_eq]; exact hv))
                    clear hF hl hn
                    go_wp2
                    go_roundg (gm - 1)
                    case rel => exact ⟨_, R2, m2, t, rfl, rfl, rfl, hR2s, Hstep.out, hid ⟨PHc.out, by have := Hf.out; rw [Ht.out] at this; exact this⟩⟩
                    case measure => omega
                · have hF : attrF L.data.toList = some (.func (.func 42) #[] #[]) := by rw [hn]; rfl
                  rw [hF] at hl
                  have hl2 : (Instr.lookup 58 (.map (some b)) (.string L) true).run Tryz.prog wc = .ok (.tuple #[.func (.func 42) #[] #[], .bool true]) wc := hl
                  by_cases hv : V.size ≤ 1024
                  · obtain ⟨t2, ht2⟩ : ∃ t2, t2 = applyC t N.data.toList V.data.toList := ⟨_, rfl⟩
                    have HK := hid (say_path g t N.data.toList V (by rw [HL.out]; exact hn) hv wc (HG.out.below PHc.out.below) PHc.out.ck)
                    rw [← ht2] at HK
                    have Hf2 := hid (show moreC t2 (if m2 = true then cutAt 59 R2.data.toList else []) = fin by rw [ht2]; exact Hf.out)
                    clear hF hl hn ht2
                    go_wp2_with fail
                    refine HK.out.mono ?_
                    rintro e wd ⟨rfl, hblk, hgrow⟩
                    have PHd := hid (PHc.out.says hblk hgrow)
                    clear hblk hgrow hl2
                    go_wp2
                    go_roundg (gm - 1)
                    case rel => exact ⟨_, R2, m2, t2, rfl, rfl, rfl, hR2s, Hstep.out, hid ⟨PHd.out, Hf2.out⟩⟩
                    case measure => omega
                  · have Ht := hid (show applyC t N.data.toList V.data.toList = t from if_neg (by rw [← Lib.size_eq]; exact hv))
                    clear hF hl hn
                    go_wp2
                    go_roundg (gm - 1)
                    case rel => exact ⟨_, R2, m2, t, rfl, rfl, rfl, hR2s, Hstep.out, hid ⟨PHc.out, by have := Hf.out; rw [Ht.out] at this; exact this⟩⟩
                    case measure => omega
                · have hF : attrF L.data.toList = some (.func (.func 43) #[] #[]) := by rw [hn]; rfl
                  rw [hF] at hl
                  have hl2 : (Instr.lookup 58 (.map (some b)) (.string L) true).run Tryz.prog wc = .ok (.tuple #[.func (.func 43) #[] #[], .bool true]) wc := hl
                  by_cases hv : V.size ≤ 1024
                  · obtain ⟨t2, ht2⟩ : ∃ t2, t2 = applyC t N.data.toList V.data.toList := ⟨_, rfl⟩
                    have HK := hid (say_secure g t N.data.toList V (by rw [HL.out]; exact hn) hv wc (HG.out.below PHc.out.below) PHc.out.ck)
                    rw [← ht2] at HK
                    have Hf2 := hid (show moreC t2 (if m2 = true then cutAt 59 R2.data.toList else []) = fin by rw [ht2]; exact Hf.out)
                    clear hF hl hn ht2
                    go_wp2_with fail
                    refine HK.out.mono ?_
                    rintro e wd ⟨rfl, hblk, hgrow⟩
                    have PHd := hid (PHc.out.says hblk hgrow)
                    clear hblk hgrow hl2
                    go_wp2
                    go_roundg (gm - 1)
                    case rel => exact ⟨_, R2, m2, t2, rfl, rfl, rfl, hR2s, Hstep.out, hid ⟨PHd.out, Hf2.out⟩⟩
                    case measure => omega
                  · have Ht := hid (show applyC t N.data.toList V.data.toList = t from if_neg (by rw [← Lib.size_eq]; exact hv))
                    clear hF hl hn
                    go_wp2
                    go_roundg (gm - 1)
                    case rel => exact ⟨_, R2, m2, t, rfl, rfl, rfl, hR2s, Hstep.out, hid ⟨PHc.out, by have := Hf.out; rw [Ht.out] at this; exact this⟩⟩
                    case measure => omega
                · have hF : attrF L.data.toList = some (.func (.func 44) #[] #[]) := by rw [hn]; rfl
                  rw [hF] at hl
                  have hl2 : (Instr.lookup 58 (.map (some b)) (.string L) true).run Tryz.prog wc = .ok (.tuple #[.func (.func 44) #[] #[], .bool true]) wc := hl
                  by_cases hv : V.size ≤ 1024
                  · obtain ⟨t2, ht2⟩ : ∃ t2, t2 = applyC t N.data.toList V.data.toList := ⟨_, rfl⟩
                    have HK := hid (say_hidden g t N.data.toList V (by rw [HL.out]; exact hn) hv wc (HG.out.below PHc.out.below) PHc.out.ck)
                    rw [← ht2] at HK
                    have Hf2 := hid (show moreC t2 (if m2 = true then cutAt 59 R2.data.toList else []) = fin by rw [ht2]; exact Hf.out)
                    clear hF hl hn ht2
                    go_wp2_with fail
                    refine HK.out.mono ?_
                    rintro e wd ⟨rfl, hblk, hgrow⟩
                    have PHd := hid (PHc.out.says hblk hgrow)
                    clear hblk hgrow hl2
                    go_wp2
                    go_roundg (gm - 1)
                    case rel => exact ⟨_, R2, m2, t2, rfl, rfl, rfl, hR2s, Hstep.out, hid ⟨PHd.out, Hf2.out⟩⟩
                    case measure => omega
                  · have Ht := hid (show applyC t N.data.toList V.data.toList = t from if_neg (by rw [← Lib.size_eq]; exact hv))
                    clear hF hl hn
                    go_wp2
                    go_roundg (gm - 1)
                    case rel => exact ⟨_, R2, m2, t, rfl, rfl, rfl, hR2s, Hstep.out, hid ⟨PHc.out, by have := Hf.out; rw [Ht.out] at this; exact this⟩⟩
                    case measure => omega
                · have hF : attrF L.data.toList = some (.func (.func 45) #[] #[]) := by rw [hn]; rfl
                  rw [hF] at hl
                  have hl2 : (Instr.lookup 58 (.map (some b)) (.string L) true).run Tryz.prog wc = .ok (.tuple #[.func (.func 45) #[] #[], .bool true]) wc := hl
                  by_cases hv : V.size ≤ 1024
                  · obtain ⟨t2, ht2⟩ : ∃ t2, t2 = applyC t N.data.toList V.data.toList := ⟨_, rfl⟩
                    have HK := hid (say_site g t N.data.toList V (by rw [HL.out]; exact hn) hv wc (HG.out.below PHc.out.below) PHc.out.ck)
                    rw [← ht2] at HK
                    have Hf2 := hid (show moreC t2 (if m2 = true then cutAt 59 R2.data.toList else []) = fin by rw [ht2]; exact Hf.out)
                    clear hF hl hn ht2
                    go_wp2_with fail
                    refine HK.out.mono ?_
                    rintro e wd ⟨rfl, hblk, hgrow⟩
                    have PHd := hid (PHc.out.says hblk hgrow)
                    clear hblk hgrow hl2
                    go_wp2
                    go_roundg (gm - 1)
                    case rel => exact ⟨_, R2, m2, t2, rfl, rfl, rfl, hR2s, Hstep.out, hid ⟨PHd.out, Hf2.out⟩⟩
                    case measure => omega
                  · have Ht := hid (show applyC t N.data.toList V.data.toList = t from if_neg (by rw [← Lib.size_eq]; exact hv))
                    clear hF hl hn
                    go_wp2
                    go_roundg (gm - 1)
                    case rel => exact ⟨_, R2, m2, t, rfl, rfl, rfl, hR2s, Hstep.out, hid ⟨PHc.out, by have := Hf.out; rw [Ht.out] at this; exact this⟩⟩
                    case measure => omega
theorem parseA_any (s : ByteArray) (w : World) (G : Good w) : Calls Tryz.prog 14 #[.string s] w (TellsR s.data.toList w) := by
  by_cases h : 65536 < s.size
  · exact parse_long s h w
  · exact parseA_short s h w G
end Go.Proofs.YthfndlphhgchnaaGreatDoor
