/- Walk of the law SetcookieLast: of an attribute that is told again the last one counts. -/
import Derived.Test.YthfndlphhgchnaaGreatDoorSi
import Derived.Test.YthfndlphhgchnaaGreatDoorSpec10d
import Derived.Test.YthfndlphhgchnaaGreatDoorRows
import Derived.Test.YthfndlphhgchnaaGreatDoorGood7
import Derived.Deep.RegionHeld3
namespace Go.Proofs.YthfndlphhgchnaaGreatDoor
open Go.RowKit Go.Lib Go.Proofs.Foot

theorem digV_acc (l : List UInt8) : ∀ a, digV a l = a * 10 ^ l.length + digV 0 l := by
  induction l with
  | nil => intro a; rw [digV_nil, digV_nil]; simp
  | cons c l ih =>
    intro a
    rw [digV_cons, digV_cons, ih, ih (0 * 10 + (c.toNat - 48)), List.length_cons, Nat.pow_succ, Nat.add_mul, Nat.zero_mul, Nat.zero_add, ← Nat.add_assoc, Nat.mul_assoc, Nat.mul_comm 10]
/-- The last i digits of n. -/
def DigL (n i : Nat) (D : List UInt8) : Prop := D.length = i ∧ (∀ c ∈ D, digB c = true) ∧ digV 0 D = n % 10 ^ i
theorem digL_0 (n : Nat) : DigL n 0 [] := ⟨rfl, fun c h => (by cases h), by rw [digV_nil]; omega⟩
theorem dig_48 {d : Nat} (h : d < 10) : digB (UInt8.ofNat (48 + d)) = true ∧ (UInt8.ofNat (48 + d)).toNat = 48 + d := by
  have h1 : ∀ d < 10, digB (UInt8.ofNat (48 + d)) = true ∧ (UInt8.ofNat (48 + d)).toNat = 48 + d := by decide +kernel
  exact h1 d h
theorem digL_succ {n i : Nat} {D : List UInt8} (h : DigL n i D) : DigL n (i + 1) (UInt8.ofNat (48 + n / 10 ^ i % 10) :: D) := by
  obtain ⟨h1, h2, h3⟩ := h
  have hd := dig_48 (show n / 10 ^ i % 10 < 10 by omega)
  refine ⟨by rw [List.length_cons, h1], fun c hc => ?_, ?_⟩
  · rcases List.mem_cons.1 hc with rfl | hc
    · exact hd.1
    · exact h2 c hc
  · rw [digV_cons, digV_acc, h3, h1, hd.2, Nat.pow_succ, Nat.mod_mul]
    rw [show 0 * 10 + (48 + n / 10 ^ i % 10 - 48) = n / 10 ^ i % 10 from by omega, Nat.mul_comm, Nat.add_comm]
theorem digL_end {n i : Nat} {D : List UInt8} (h : DigL n i D) (h0 : n / 10 ^ i = 0) : (∀ c ∈ (48 :: D), digB c = true) ∧ digV 0 (48 :: D) = n ∧ (48 :: D).length = i + 1 := by
  obtain ⟨h1, h2, h3⟩ := h
  refine ⟨fun c hc => ?_, ?_, by rw [List.length_cons, h1]⟩
  · rcases List.mem_cons.1 hc with rfl | hc
    · decide
    · exact h2 c hc
  · rw [digV_cons, show 0 * 10 + ((48 : UInt8).toNat - 48) = 0 from rfl, h3]
    exact Nat.mod_eq_of_lt (by
      rcases Nat.lt_or_ge n (10 ^ i) with h | h
      · exact h
      · have := Nat.div_pos h (Nat.pow_pos (by decide : 0 < 10)); omega)
theorem slice_head (D : List UInt8) (V : World) : (Instr.slice 9 (.string (tx (48 :: D))) none (some (.int .i64 1)) none).run Tryz.prog V = .ok (.string (tx [48])) V := by
  have h := run_slice_string_h (P := Tryz.prog) V 9 (tx (48 :: D)) Tryz.underlying9 .i64 1 (by omega) (by rw [tx_size, List.length_cons]; omega)
  have e : (tx (48 :: D)).extract 0 (1 : Int).toNat = tx [48] := by
    rw [← tx_of ((tx (48 :: D)).extract 0 (1 : Int).toNat), ByteArray.data_extract, Array.toList_extract, tx_list]
    rfl
  rw [h, e]
theorem slice_tail (D : List UInt8) (V : World) : (Instr.slice 9 (.string (tx (48 :: D))) (some (.int .i64 1)) none none).run Tryz.prog V = .ok (.string (tx D)) V := by
  have h := run_slice_string_l (P := Tryz.prog) V 9 (tx (48 :: D)) Tryz.underlying9 .i64 1 (by omega) (by rw [tx_size, List.length_cons]; omega)
  have e : (tx (48 :: D)).extract (1 : Int).toNat (tx (48 :: D)).size = tx D := by
    rw [← tx_of ((tx (48 :: D)).extract (1 : Int).toNat (tx (48 :: D)).size), ByteArray.data_extract, Array.toList_extract, tx_list, tx_size, List.extract_eq_take_drop]
    have e2 : List.take ((48 :: D).length - 1) (List.drop 1 (48 :: D)) = D := List.take_of_length_le (by simp)
    exact congrArg tx e2
  rw [h, e]
def tenS : ByteArray := ⟨#[48, 49, 50, 51, 52, 53, 54, 55, 56, 57]⟩
theorem slice_dig (d : Nat) (h : d < 10) (V : World) : (Instr.slice 9 (.string ⟨#[48, 49, 50, 51, 52, 53, 54, 55, 56, 57]⟩) (some (.int .i64 d)) (some (.int .i64 ((d : Int) + 1))) none).run Tryz.prog V = .ok (.string (tx [UInt8.ofNat (48 + d)])) V := by
  have h1 : ∀ d < 10, (tenS.extract d (d + 1)).data.toList = [UInt8.ofNat (48 + d)] := by decide +kernel
  have e : tenS.extract d (d + 1) = tx [UInt8.ofNat (48 + d)] := by rw [← tx_of (tenS.extract d (d + 1)), h1 d h]
  have : (Instr.slice 9 (.string tenS) (some (.int .i64 d)) (some (.int .i64 ((d : Int) + 1))) none).run Tryz.prog V = .ok (.string (tenS.extract d (d + 1))) V := run_slice_string V _ _ _ _ _ _ Tryz.underlying9 (by omega) (by omega) (by show (d : Int) + 1 ≤ 10; omega)
  rw [e] at this
  exact this
theorem Cks.cellAt {w0 w : World} {g : Nat} {t : CkT} (h : Cks w0 [(g, t)] w) {i : Nat} {v : Value} (hv : (rowC t)[i]? = some v) : w.cell? ⟨g, i, none⟩ = some v :=
  Blk.cell (t := 24) (cs := rowC t) (h.at (by simp)) hv
theorem Cks.freeAt {w0 w : World} {g : Nat} {t : CkT} (h : Cks w0 [(g, t)] w) (i : Nat) : w.frozen? ⟨g, i, none⟩ = false :=
  Blk.free (t := 24) (cs := rowC t) (h.at (by simp)) i
theorem Cks.put {w0 w : World} {g : Nat} {t u : CkT} (h : Cks w0 [(g, t)] w) (hg : w0.heap.size ≤ g) (i : Nat) (v : Value) (e : (rowC t).setIfInBounds i v = rowC u) : Cks w0 [(g, u)] (w.setCell ⟨g, i, none⟩ v) := by
  refine ⟨fun p hp => ?_, h.below.setCell (p := ⟨g, i, none⟩) hg v⟩
  simp only [List.mem_cons, List.not_mem_nil, or_false] at hp
  subst hp
  have hb : Blk w g 24 (rowC t) := h.at (by simp)
  exact (hb.put i v).eq e
/-- In a drawn region the load of a cookie may be taken first. -/
theorem yields_ck {ops : Array Oper} {op : Oper} {a : Act} {w0 : World} {L : List (Nat × CkT)} {g : Nat} {t : CkT} (hw : Region.wanted op (yielded ops a.tmps) = true) (x : Operand) (ho : op.op = .load 24 x)
    (hx : a.eval x = .pointer (some ⟨g, 0, none⟩)) (hm : (g, t) ∈ L) : YieldsIf Tryz.prog ops (fun W => Cks w0 L W) op (.agg (rowC t)) a :=
  .inl ⟨hw, fun w hw' => by
    unfold execOp
    simp only [ho, hx, Instr.loadAt, Instr.sureAddr, Sem.run_bind, Sem.run_pure, Result.andThen_ok, run_loadVar_row w g _ _ _ _ _ (hw'.at hm) Tryz.underlying24 rfl (infoTd t)]⟩
/-- The law's cookie. -/
def lastC (t : CkT) (n k : Nat) : CkT := { t with age := n, hasAge := true, path := [47, 112], domain := [100], secure := true, hidden := true, site := k }
theorem last_list (l ds : List UInt8) (k : Nat) : l ++ [59, 32, 77, 65, 88, 45, 97, 103, 101, 32, 61, 32] ++ ds ++ [32, 59, 32, 112, 65, 84, 72, 61, 47, 112, 59, 32, 68, 111, 109, 97, 105, 110, 61, 46, 68, 59, 32, 115, 101, 99, 117, 114, 101, 61, 120, 59, 32, 72, 84, 84, 80, 111, 110, 108, 121, 59, 32, 83, 97, 109, 101, 83, 105, 116, 101, 61] ++ siteN k = l ++ 59 :: lastM ds k := by
  unfold lastM ageM restM
  simp
theorem lastC_wf {t : CkT} (h : WfC t) {n k : Nat} (hn : n ≤ 65535) (hk : k < 256) : WfC (lastC t n k) :=
  ⟨h.name, h.value, by show 1 ≤ maxLen; decide, by show 2 ≤ maxLen; decide, h.exp, wf_i64 (by show (-9223372036854775808 : Int) ≤ n; omega) (by show (n : Int) ≤ 9223372036854775807; omega), hk⟩
theorem last_tells {l : List UInt8} {t : CkT} (h : parseC l = (t, 0)) (hl : l.length ≤ 60000) {n i : Nat} {D : List UInt8} (hi : i ≤ 5) (hn : n ≤ 65535) (hD : DigL n i D) (h0 : n / 10 ^ i = 0) {k : Nat} (hk : k < 4) : parseC (l ++ 59 :: lastM (48 :: D) k) = (lastC t n k, 0) := by
  obtain ⟨h1, h2, h3⟩ := digL_end hD h0
  have hs : (siteN k).length ≤ 6 := by
    have : ∀ k < 4, (siteN k).length ≤ 6 := by decide
    exact this k hk
  have hlen : (lastM (48 :: D) k).length ≤ 200 := by
    unfold lastM ageM restM
    simp only [List.length_append, List.length_cons, List.length_nil] at h3 ⊢
    omega
  refine parse_append h (by rw [List.length_append, List.length_cons]; omega) (last_bad h1 hk) ?_
  rw [last_more h1 (by simp) (by rw [h3]; omega) (by rw [h2]; exact hn) hk, h2]
  rfl
theorem idle_tells {l : List UInt8} {t : CkT} (h : parseC l = (t, 0)) (hl : l.length ≤ 60000) : parseC (l ++ 59 :: idleM) = (t, 0) :=
  parse_append h (by rw [List.length_append, List.length_cons]; show _ + (33 + 1) ≤ _; omega) idle_bad (idle_more t)
set_option maxHeartbeats 20000000 in
set_option maxRecDepth 100000 in
theorem setcookieLast_walk (s : ByteArray) (_hs : s.size ≤ maxLen) (_z : s.size ≤ 140737488351232) (n0 : Int) (hn0 : (Lit.int .u16 n0).wf = true) (m0 : Int) (hm0 : (Lit.int .u8 m0).wf = true) (w : World) (hL : laidMetH Tryz.prog Rows.setcookieLastRow.laid w) (hsh : w.ShapedOpen Tryz.prog) :
    Calls Tryz.prog 9 #[.string s, .int .u16 n0, .int .u8 m0] w fun e w' => e = .returned (.bool true) ∧ Below w.heap.size w w' := by
  have G := hid (good_of hL (by kernel_rfl) (by kernel_rfl) (by kernel_rfl) hsh)
  have e0 : IntKind.u16.min = 0 := rfl
  have e1 : IntKind.u16.max = 65535 := rfl
  have e2 : IntKind.u8.min = 0 := rfl
  have e3 : IntKind.u8.max = 255 := rfl
  have n1 := (wf_bounds hn0).1
  have n2 := (wf_bounds hn0).2
  have m1 := (wf_bounds hm0).1
  have m2 := (wf_bounds hm0).2
  rw [e0] at n1
  rw [e1] at n2
  rw [e2] at m1
  rw [e3] at m2
  clear e0 e1 e2 e3 hn0 hm0 hL hsh _hs _z
  obtain ⟨n, rfl⟩ := Int.eq_ofNat_of_zero_le n1
  obtain ⟨m, rfl⟩ := Int.eq_ofNat_of_zero_le m1
  clear n1 m1
  by_cases h60 : (s.size : Int) > 60000
  · go_enter Tryz.func9, Tryz.ntmps9
    go_wp2_with fail
    refine (alive_any _ G.out).mono ?_
    rintro e w1 ⟨rfl, hb1⟩
    have B1 := hid hb1
    clear hb1
    go_wp2_with fail
    refine (alive_any _ (good_below G.out B1.out)).mono ?_
    rintro e w2 ⟨rfl, hb2⟩
    have B2 := hid (below_chain B1.out hb2)
    clear hb2
    go_wp2
    go_ret
    exact ⟨rfl, B2.out⟩
  · obtain ⟨t, e, hp⟩ : ∃ t e, parseC s.data.toList = (t, e) := ⟨_, _, rfl⟩
    have HP := hid (fun w G => parseA_is s w G t e hp)
    have Hp := hid hp
    have Hwf := hid (wf_parse hp)
    clear hp
    go_enter Tryz.func9, Tryz.ntmps9
    go_wp2_with fail
    refine (alive_any _ G.out).mono ?_
    rintro e w1 ⟨rfl, hb1⟩
    have B1 := hid hb1
    clear hb1
    go_wp2_with fail
    refine (HP.out _ (good_below G.out B1.out)).mono ?_
    rintro e w3 ⟨rfl, hb3⟩
    have W3 := hid (show Cks w [] w3 from ⟨fun p hp => (by cases hp), below_chain B1.out hb3⟩)
    clear hb3
    go_upto_region 4 with (refine wpList_store_row rfl 24 _ _ rfl w3.heap.size (rowC t) rfl rfl _ _ (heap_alloc_new w3 _) (infoTd t) rfl (rowC_one t) ?_)
    have W4 := hid (W3.out.add #[.string ⟨#[]⟩, .string ⟨#[]⟩, .string ⟨#[]⟩, .string ⟨#[]⟩, .int .i64 0, .bool false, .int .i64 0, .bool false, .bool false, .bool false, .int .u8 0] t)
    have hgg : w.heap.size ≤ w3.heap.size := W3.out.below.size
    generalize World.setRow _ w3.heap.size (rowC t) = w4 at *
    obtain ⟨g, hg⟩ : ∃ g, g = w3.heap.size := ⟨_, rfl⟩
    rw [← hg] at W4 hgg ⊢
    have Hgg := hid hgg
    clear hg hgg
    by_cases hn : e = 0
    · subst hn
      have hl : s.data.toList.length ≤ 60000 := by rw [← Lib.size_eq]; omega
      obtain ⟨S1, hS1⟩ : ∃ X, X = s ++ ⟨#[59, 32, 120, 59, 32, 121, 61, 122, 59, 59, 32, 61, 59, 32, 77, 97, 120, 45, 65, 103, 101, 61, 97, 59, 32, 69, 120, 112, 105, 114, 101, 115, 61, 98]⟩ := ⟨_, rfl⟩
      have q1 := addS hS1 (by omega) (by show (34 : Int) ≤ _; decide)
      have hS1l : S1.data.toList = s.data.toList ++ 59 :: idleM := by rw [hS1, catL]; rfl
      have HI := hid (fun w (G : Good w) => is_any S1 t Hwf.out true (by rw [hS1l]; exact decide_eq_true (idle_tells Hp.out hl)) w G)
      have r4 := W4.out.at (g := g) (t := t) (by simp)
      clear hS1 hS1l
      go_wp2_with (refine load_ckG (by rfl) _ rfl g rfl t r4 ?_)
      refine (HI.out _ (G.out.below W4.out.below)).mono ?_
      rintro e w5 ⟨rfl, hb5⟩
      have W5 := hid (W4.out.go hb5)
      clear hb5 r4 q1
      have v1 : IntKind.i64.wrap (n : Int) = n := IntWalk.i64_in _ (by omega)
      go_wp2
      go_loopw [9, 10] (fun d x wr => ∃ (i : Nat) (D : List UInt8), i ≤ 5 ∧ d = .string (tx (48 :: D)) ∧ x = .int .i64 ((n / 10 ^ i : Nat) : Int) ∧ Hid (DigL n i D) ∧ Hid (Cks w [(g, t)] wr)) (fun _ x _ => (RowKit.intOf x).toNat)
      case atStart => exact ⟨0, [], by omega, rfl, by simp, hid (digL_0 n), W5⟩
      case round =>
        obtain ⟨i, D, hi, rfl, rfl, HD, WD⟩ := hrel
        have hDl : D.length ≤ 5 := by have := HD.out.1; omega
        by_cases hx : n / 10 ^ i = 0
        · have hx0 := hid hx
          rw [hx]
          have HLT := hid (fun (k : Nat) (hk : k < 4) => last_tells Hp.out hl hi (show n ≤ 65535 by omega) HD.out hx hk)
          have hmk : m % 4 < 4 := Nat.mod_lt _ (by decide)
          have w1 : IntKind.u8.wrap ((m % 4 : Nat) : Int) = ((m % 4 : Nat) : Int) := IntWalk.u8_in _ (by omega)
          have w2 : IntKind.i64.wrap ((m % 4 : Nat) : Int) = ((m % 4 : Nat) : Int) := IntWalk.i64_in _ (by omega)
          have t1 : (m : Int).tmod 4 = ((m % 4 : Nat) : Int) := rfl
          have t2 : (m : Int) % 4 = ((m % 4 : Nat) : Int) := rfl
          clear hx hi
          generalize m % 4 = k at *
          have d := WD.out.cellAt (i := 6) (v := .int .i64 t.age) rfl
          have f := WD.out.freeAt 6
          go_upto_region 15 with fail
          have V0 : Hid (Cks w [(g, { t with age := n })] (wr.setCell ⟨g, 6, none⟩ (.int .i64 n))) := hid (WD.out.put Hgg.out 6 (.int .i64 n) rfl)
          clear d f
          generalize World.setCell wr _ _ = v0 at *
          have d := V0.out.cellAt (i := 7) (v := .bool t.hasAge) rfl
          have f := V0.out.freeAt 7
          go_upto_region 16 with fail
          have V1 : Hid (Cks w [(g, { t with age := n, hasAge := true })] (v0.setCell ⟨g, 7, none⟩ (.bool true))) := hid (V0.out.put Hgg.out 7 (.bool true) rfl)
          clear d f
          generalize World.setCell v0 _ _ = v1 at *
          have d := V1.out.cellAt (i := 3) (v := .string (tx t.path)) rfl
          have f := V1.out.freeAt 3
          go_upto_region 17 with fail
          have V2 : Hid (Cks w [(g, { t with age := n, hasAge := true, path := [47, 112] })] (v1.setCell ⟨g, 3, none⟩ (.string ⟨#[47, 112]⟩))) := hid (V1.out.put Hgg.out 3 (.string ⟨#[47, 112]⟩) rfl)
          clear d f
          generalize World.setCell v1 _ _ = v2 at *
          have d := V2.out.cellAt (i := 2) (v := .string (tx t.domain)) rfl
          have f := V2.out.freeAt 2
          go_upto_region 18 with fail
          have V3 : Hid (Cks w [(g, { t with age := n, hasAge := true, path := [47, 112], domain := [100] })] (v2.setCell ⟨g, 2, none⟩ (.string ⟨#[100]⟩))) := hid (V2.out.put Hgg.out 2 (.string ⟨#[100]⟩) rfl)
          clear d f
          generalize World.setCell v2 _ _ = v3 at *
          have d := V3.out.cellAt (i := 8) (v := .bool t.secure) rfl
          have f := V3.out.freeAt 8
          go_upto_region 19 with fail
          have V4 : Hid (Cks w [(g, { t with age := n, hasAge := true, path := [47, 112], domain := [100], secure := true })] (v3.setCell ⟨g, 8, none⟩ (.bool true))) := hid (V3.out.put Hgg.out 8 (.bool true) rfl)
          clear d f
          generalize World.setCell v3 _ _ = v4 at *
          have d := V4.out.cellAt (i := 9) (v := .bool t.hidden) rfl
          have f := V4.out.freeAt 9
          go_upto_region 20 with fail
          have V5 : Hid (Cks w [(g, { t with age := n, hasAge := true, path := [47, 112], domain := [100], secure := true, hidden := true })] (v4.setCell ⟨g, 9, none⟩ (.bool true))) := hid (V4.out.put Hgg.out 9 (.bool true) rfl)
          clear d f
          generalize World.setCell v4 _ _ = v5 at *
          have V6 := V5.out.alloc (.cells #[.int .u8 0, .int .u8 1, .int .u8 2, .int .u8 3] 22)
          have d10 := V6.cellAt (i := 10) (v := .int .u8 (t.site : Nat)) rfl
          have f10 := V6.freeAt 10
          clear V6
          obtain ⟨ds, hds⟩ : ∃ ds, ds = (48 : UInt8) :: D := ⟨_, rfl⟩
          have hdl : ds.length ≤ 6 := by rw [hds, List.length_cons]; omega
          rw [← hds] at HLT ⊢
          clear hds
          obtain ⟨S2, hS2⟩ : ∃ X, X = s ++ ⟨#[59, 32, 77, 65, 88, 45, 97, 103, 101, 32, 61, 32]⟩ := ⟨_, rfl⟩
          have zS2 : S2.size = s.size + 12 := by rw [hS2, catZ]; rfl
          obtain ⟨S3, hS3⟩ : ∃ X, X = S2 ++ tx ds := ⟨_, rfl⟩
          have zds : (tx ds).size ≤ 6 := by rw [tx_size]; exact hdl
          have zS3 : S3.size = S2.size + (tx ds).size := by rw [hS3, catZ]
          obtain ⟨S4, hS4⟩ : ∃ X, X = S3 ++ ⟨#[32, 59, 32, 112, 65, 84, 72, 61, 47, 112, 59, 32, 68, 111, 109, 97, 105, 110, 61, 46, 68, 59, 32, 115, 101, 99, 117, 114, 101, 61, 120, 59, 32, 72, 84, 84, 80, 111, 110, 108, 121, 59, 32, 83, 97, 109, 101, 83, 105, 116, 101, 61]⟩ := ⟨_, rfl⟩
          have zS4 : S4.size = S3.size + 52 := by rw [hS4, catZ]; rfl
          have q1 := addS hS2 (by omega) (by show (12 : Int) ≤ _; decide)
          have q2 := addS hS3 (by omega) (by omega)
          have q3 := addS hS4 (by omega) (by show (52 : Int) ≤ _; decide)
          have HS : Hid (S4.data.toList = s.data.toList ++ (⟨#[59, 32, 77, 65, 88, 45, 97, 103, 101, 32, 61, 32]⟩ : ByteArray).data.toList ++ ds ++ (⟨#[32, 59, 32, 112, 65, 84, 72, 61, 47, 112, 59, 32, 68, 111, 109, 97, 105, 110, 61, 46, 68, 59, 32, 115, 101, 99, 117, 114, 101, 61, 120, 59, 32, 72, 84, 84, 80, 111, 110, 108, 121, 59, 32, 83, 97, 109, 101, 83, 105, 116, 101, 61]⟩ : ByteArray).data.toList) := hid (by rw [hS4, catL, hS3, catL, hS2, catL, tx_list])
          clear hS2 hS3 hS4 hdl
          have hk : k = 0 ∨ k = 1 ∨ k = 2 ∨ k = 3 := by omega
          rcases hk with rfl | rfl | rfl | rfl
          · obtain ⟨S5, hS5⟩ : ∃ X, X = S4 ++ ⟨#[63]⟩ := ⟨_, rfl⟩
            have q4 := addS hS5 (by omega) (by show (1 : Int) ≤ _; decide)
            have hS5l : S5.data.toList = s.data.toList ++ 59 :: lastM ds 0 := by
              rw [hS5, catL, HS.out]
              exact last_list s.data.toList ds 0
            have HJ := hid (fun w (G : Good w) => is_any S5 (lastC t n 0) (lastC_wf Hwf.out (by omega) (by omega)) true (by rw [hS5l]; exact decide_eq_true (HLT.out 0 (by omega))) w G)
            have W9 : Hid (Cks w [(g, lastC t n 0)] ((v5.alloc (.cells #[.int .u8 0, .int .u8 1, .int .u8 2, .int .u8 3] 22)).setCell ⟨g, 10, none⟩ (.int .u8 0))) :=
              hid ((V5.out.alloc _).put Hgg.out 10 (.int .u8 0) rfl)
            clear hS5 hS5l
            go_upto_region 21 with fail
            generalize World.setCell (World.alloc _ _) _ _ = w9 at *
            clear d10 f10
            refine wp_region_held_drew (S := fun W => Cks w [(g, lastC t n 0)] W) (by kernel_rfl) W9.out.drew (fun hHeld => ?_)
            refine wpAnyH_take (i := 0) (oi := _) (v := ?_) rfl (by kernel_rfl) (by kernel_rfl) (by kernel_rfl) (fun _ _ _ h => h) (Or.inl ⟨by rfl, ?_⟩) (by assumption) ?_
            rotate_left
            · intro W hSw
              go_simp
              try (with_reducible rfl)
            try simp only [Act.put, List.getElem_toArray, List.getElem_cons_zero, List.setIfInBounds_toArray, List.set_cons_zero, List.set_cons_succ]
            refine wpAnyH_take (i := 1) (oi := _) (v := ?_) rfl (by kernel_rfl) (by kernel_rfl) (by kernel_rfl) (fun _ _ _ h => h) (Or.inl ⟨by rfl, ?_⟩) (by assumption) ?_
            rotate_left
            · intro W hSw
              go_simp
              try (with_reducible rfl)
            try simp only [Act.put, List.getElem_toArray, List.getElem_cons_succ, List.getElem_cons_zero, List.setIfInBounds_toArray, List.set_cons_zero, List.set_cons_succ]
            refine wpAnyH_take (i := 2) (oi := _) (v := ?_) rfl (by kernel_rfl) (by kernel_rfl) (by kernel_rfl) (fun _ _ _ h => h) (Or.inl ⟨by rfl, ?_⟩) (by assumption) ?_
            rotate_left
            · intro W hSw
              go_simp
              try (with_reducible rfl)
            try simp only [Act.put, List.getElem_toArray, List.getElem_cons_succ, List.getElem_cons_zero, List.setIfInBounds_toArray, List.set_cons_zero, List.set_cons_succ]
            refine wpAnyH_take (i := 3) (oi := _) (v := ?_) rfl (by kernel_rfl) (by kernel_rfl) (by kernel_rfl) (fun _ _ _ h => h) (Or.inl ⟨by rfl, ?_⟩) (by assumption) ?_
            rotate_left
            · intro W hSw
              go_simp
              try (with_reducible rfl)
            try simp only [Act.put, List.getElem_toArray, List.getElem_cons_succ, List.getElem_cons_zero, List.setIfInBounds_toArray, List.set_cons_zero, List.set_cons_succ]
            refine wpAnyH_take (i := 4) (oi := _) (v := ?_) rfl (by kernel_rfl) (by kernel_rfl) (by kernel_rfl) (fun _ _ _ h => h) (Or.inl ⟨by rfl, ?_⟩) (by assumption) ?_
            rotate_left
            · intro W hSw
              go_simp
              try (with_reducible rfl)
            try simp only [Act.put, List.getElem_toArray, List.getElem_cons_succ, List.getElem_cons_zero, List.setIfInBounds_toArray, List.set_cons_zero, List.set_cons_succ]
            refine wpAnyH_take (i := 6) (oi := _) (v := ?_) rfl (by kernel_rfl) (by kernel_rfl) (by kernel_rfl) (fun _ _ _ h => h) (Or.inl ⟨by rfl, ?_⟩) (by assumption) ?_
            rotate_left
            · intro W hSw
              go_simp
              try (with_reducible rfl)
            try simp only [Act.put, List.getElem_toArray, List.getElem_cons_succ, List.getElem_cons_zero, List.setIfInBounds_toArray, List.set_cons_zero, List.set_cons_succ]
            refine wpAnyH_take (i := 10) (oi := _) (v := _) rfl (by kernel_rfl) (by kernel_rfl) (by kernel_rfl) (fun _ _ _ h => h) (yields_ck (by rfl) _ rfl rfl (List.mem_singleton.2 rfl)) (by assumption) ?_
            try simp only [Act.put, List.getElem_toArray, List.getElem_cons_succ, List.getElem_cons_zero, List.setIfInBounds_toArray, List.set_cons_zero, List.set_cons_succ]
            refine wpAnyH_ready (rs := [5]) (by kernel_rfl) (by simp) ?_
            refine AllReadyH.cons (o := _) rfl (fun K hK => ?_) AllReadyH.nil
            go_simp
            have HA := hid (Cks.alloc hHeld (.cells #[.string ⟨#[63]⟩, .string ⟨#[83, 84, 82, 73, 67, 84]⟩, .string ⟨#[108, 97, 120]⟩, .string ⟨#[78, 111, 110, 101]⟩] 9))
            refine hK.out _ _ HA.out (fun hHeld => ?_)
            clear hK K
            try simp only [Act.put, List.getElem_toArray, List.getElem_cons_succ, List.getElem_cons_zero, List.setIfInBounds_toArray, List.set_cons_zero, List.set_cons_succ]
            refine wpAnyH_take (i := 7) (oi := _) (v := ?_) rfl (by kernel_rfl) (by kernel_rfl) (by kernel_rfl) (fun _ _ _ h => h) (Or.inl ⟨by rfl, ?_⟩) (by assumption) ?_
            rotate_left
            · intro W hSw
              go_simp
              try (with_reducible rfl)
            try simp only [Act.put, List.getElem_toArray, List.getElem_cons_succ, List.getElem_cons_zero, List.setIfInBounds_toArray, List.set_cons_zero, List.set_cons_succ]
            refine wpAnyH_ready (rs := [8]) (by kernel_rfl) (by simp) ?_
            refine AllReadyH.cons (o := _) rfl (fun K hK => ?_) AllReadyH.nil
            go_simp
            refine hK.out _ _ HA.out (fun hHeld => ?_)
            clear hK K
            try simp only [Act.put, List.getElem_toArray, List.getElem_cons_succ, List.getElem_cons_zero, List.setIfInBounds_toArray, List.set_cons_zero, List.set_cons_succ]
            refine wpAnyH_take (i := 9) (oi := _) (v := ?_) rfl (by kernel_rfl) (by kernel_rfl) (by kernel_rfl) (fun _ _ _ h => h) (Or.inl ⟨by rfl, ?_⟩) (by assumption) ?_
            rotate_left
            · intro W hSw
              go_simp
              try (with_reducible rfl)
            try simp only [Act.put, List.getElem_toArray, List.getElem_cons_succ, List.getElem_cons_zero, List.setIfInBounds_toArray, List.set_cons_zero, List.set_cons_succ]
            refine wpAnyH_ready (rs := [11]) (by kernel_rfl) (by simp) ?_
            refine AllReadyH.cons (o := _) rfl (fun K hK => ?_) AllReadyH.nil
            go_simp
            refine (HJ.out _ (G.out.below hHeld.below)).mono ?_
            rintro e w11 ⟨rfl, hb11⟩
            have W11 := hid (Cks.go hHeld hb11)
            clear hb11 hHeld
            go_wp2_with fail
            refine hK.out _ _ W11.out (fun hHeld => ?_)
            clear hK K
            try simp only [Act.put, List.getElem_toArray, List.getElem_cons_succ, List.getElem_cons_zero, List.setIfInBounds_toArray, List.set_cons_zero, List.set_cons_succ]
            refine wpAnyH_take (i := 12) (oi := _) (v := ?_) rfl (by kernel_rfl) (by kernel_rfl) (by kernel_rfl) (fun _ _ _ h => h) (Or.inl ⟨by rfl, ?_⟩) (by assumption) ?_
            rotate_left
            · intro W hSw
              go_simp
              try (with_reducible rfl)
            try simp only [Act.put, List.getElem_toArray, List.getElem_cons_succ, List.getElem_cons_zero, List.setIfInBounds_toArray, List.set_cons_zero, List.set_cons_succ]
            refine wpAnyH_done (by kernel_rfl) ?_ _
            go_wp2
            go_ret
            exact ⟨rfl, W11.out.below⟩
          · obtain ⟨S5, hS5⟩ : ∃ X, X = S4 ++ ⟨#[83, 84, 82, 73, 67, 84]⟩ := ⟨_, rfl⟩
            have q4 := addS hS5 (by omega) (by show (6 : Int) ≤ _; decide)
            have hS5l : S5.data.toList = s.data.toList ++ 59 :: lastM ds 1 := by
              rw [hS5, catL, HS.out]
              exact last_list s.data.toList ds 1
            have HJ := hid (fun w (G : Good w) => is_any S5 (lastC t n 1) (lastC_wf Hwf.out (by omega) (by omega)) true (by rw [hS5l]; exact decide_eq_true (HLT.out 1 (by omega))) w G)
            have W9 : Hid (Cks w [(g, lastC t n 1)] ((v5.alloc (.cells #[.int .u8 0, .int .u8 1, .int .u8 2, .int .u8 3] 22)).setCell ⟨g, 10, none⟩ (.int .u8 1))) :=
              hid ((V5.out.alloc _).put Hgg.out 10 (.int .u8 1) rfl)
            clear hS5 hS5l
            go_upto_region 21 with fail
            generalize World.setCell (World.alloc _ _) _ _ = w9 at *
            clear d10 f10
            refine wp_region_held_drew (S := fun W => Cks w [(g, lastC t n 1)] W) (by kernel_rfl) W9.out.drew (fun hHeld => ?_)
            refine wpAnyH_take (i := 0) (oi := _) (v := ?_) rfl (by kernel_rfl) (by kernel_rfl) (by kernel_rfl) (fun _ _ _ h => h) (Or.inl ⟨by rfl, ?_⟩) (by assumption) ?_
            rotate_left
            · intro W hSw
              go_simp
              try (with_reducible rfl)
            try simp only [Act.put, List.getElem_toArray, List.getElem_cons_zero, List.setIfInBounds_toArray, List.set_cons_zero, List.set_cons_succ]
            refine wpAnyH_take (i := 1) (oi := _) (v := ?_) rfl (by kernel_rfl) (by kernel_rfl) (by kernel_rfl) (fun _ _ _ h => h) (Or.inl ⟨by rfl, ?_⟩) (by assumption) ?_
            rotate_left
            · intro W hSw
              go_simp
              try (with_reducible rfl)
            try simp only [Act.put, List.getElem_toArray, List.getElem_cons_succ, List.getElem_cons_zero, List.setIfInBounds_toArray, List.set_cons_zero, List.set_cons_succ]
            refine wpAnyH_take (i := 2) (oi := _) (v := ?_) rfl (by kernel_rfl) (by kernel_rfl) (by kernel_rfl) (fun _ _ _ h => h) (Or.inl ⟨by rfl, ?_⟩) (by assumption) ?_
            rotate_left
            · intro W hSw
              go_simp
              try (with_reducible rfl)
            try simp only [Act.put, List.getElem_toArray, List.getElem_cons_succ, List.getElem_cons_zero, List.setIfInBounds_toArray, List.set_cons_zero, List.set_cons_succ]
            refine wpAnyH_take (i := 3) (oi := _) (v := ?_) rfl (by kernel_rfl) (by kernel_rfl) (by kernel_rfl) (fun _ _ _ h => h) (Or.inl ⟨by rfl, ?_⟩) (by assumption) ?_
            rotate_left
            · intro W hSw
              go_simp
              try (with_reducible rfl)
            try simp only [Act.put, List.getElem_toArray, List.getElem_cons_succ, List.getElem_cons_zero, List.setIfInBounds_toArray, List.set_cons_zero, List.set_cons_succ]
            refine wpAnyH_take (i := 4) (oi := _) (v := ?_) rfl (by kernel_rfl) (by kernel_rfl) (by kernel_rfl) (fun _ _ _ h => h) (Or.inl ⟨by rfl, ?_⟩) (by assumption) ?_
            rotate_left
            · intro W hSw
              go_simp
              try (with_reducible rfl)
            try simp only [Act.put, List.getElem_toArray, List.getElem_cons_succ, List.getElem_cons_zero, List.setIfInBounds_toArray, List.set_cons_zero, List.set_cons_succ]
            refine wpAnyH_take (i := 6) (oi := _) (v := ?_) rfl (by kernel_rfl) (by kernel_rfl) (by kernel_rfl) (fun _ _ _ h => h) (Or.inl ⟨by rfl, ?_⟩) (by assumption) ?_
            rotate_left
            · intro W hSw
              go_simp
              try (with_reducible rfl)
            try simp only [Act.put, List.getElem_toArray, List.getElem_cons_succ, List.getElem_cons_zero, List.setIfInBounds_toArray, List.set_cons_zero, List.set_cons_succ]
            refine wpAnyH_take (i := 10) (oi := _) (v := _) rfl (by kernel_rfl) (by kernel_rfl) (by kernel_rfl) (fun _ _ _ h => h) (yields_ck (by rfl) _ rfl rfl (List.mem_singleton.2 rfl)) (by assumption) ?_
            try simp only [Act.put, List.getElem_toArray, List.getElem_cons_succ, List.getElem_cons_zero, List.setIfInBounds_toArray, List.set_cons_zero, List.set_cons_succ]
            refine wpAnyH_ready (rs := [5]) (by kernel_rfl) (by simp) ?_
            refine AllReadyH.cons (o := _) rfl (fun K hK => ?_) AllReadyH.nil
            go_simp
            have HA := hid (Cks.alloc hHeld (.cells #[.string ⟨#[63]⟩, .string ⟨#[83, 84, 82, 73, 67, 84]⟩, .string ⟨#[108, 97, 120]⟩, .string ⟨#[78, 111, 110, 101]⟩] 9))
            refine hK.out _ _ HA.out (fun hHeld => ?_)
            clear hK K
            try simp only [Act.put, List.getElem_toArray, List.getElem_cons_succ, List.getElem_cons_zero, List.setIfInBounds_toArray, List.set_cons_zero, List.set_cons_succ]
            refine wpAnyH_take (i := 7) (oi := _) (v := ?_) rfl (by kernel_rfl) (by kernel_rfl) (by kernel_rfl) (fun _ _ _ h => h) (Or.inl ⟨by rfl, ?_⟩) (by assumption) ?_
            rotate_left
            · intro W hSw
              go_simp
              try (with_reducible rfl)
            try simp only [Act.put, List.getElem_toArray, List.getElem_cons_succ, List.getElem_cons_zero, List.setIfInBounds_toArray, List.set_cons_zero, List.set_cons_succ]
            refine wpAnyH_ready (rs := [8]) (by kernel_rfl) (by simp) ?_
            refine AllReadyH.cons (o := _) rfl (fun K hK => ?_) AllReadyH.nil
            go_simp
            refine hK.out _ _ HA.out (fun hHeld => ?_)
            clear hK K
            try simp only [Act.put, List.getElem_toArray, List.getElem_cons_succ, List.getElem_cons_zero, List.setIfInBounds_toArray, List.set_cons_zero, List.set_cons_succ]
            refine wpAnyH_take (i := 9) (oi := _) (v := ?_) rfl (by kernel_rfl) (by kernel_rfl) (by kernel_rfl) (fun _ _ _ h => h) (Or.inl ⟨by rfl, ?_⟩) (by assumption) ?_
            rotate_left
            · intro W hSw
              go_simp
              try (with_reducible rfl)
            try simp only [Act.put, List.getElem_toArray, List.getElem_cons_succ, List.getElem_cons_zero, List.setIfInBounds_toArray, List.set_cons_zero, List.set_cons_succ]
            refine wpAnyH_ready (rs := [11]) (by kernel_rfl) (by simp) ?_
            refine AllReadyH.cons (o := _) rfl (fun K hK => ?_) AllReadyH.nil
            go_simp
            refine (HJ.out _ (G.out.below hHeld.below)).mono ?_
            rintro e w11 ⟨rfl, hb11⟩
            have W11 := hid (Cks.go hHeld hb11)
            clear hb11 hHeld
            go_wp2_with fail
            refine hK.out _ _ W11.out (fun hHeld => ?_)
            clear hK K
            try simp only [Act.put, List.getElem_toArray, List.getElem_cons_succ, List.getElem_cons_zero, List.setIfInBounds_toArray, List.set_cons_zero, List.set_cons_succ]
            refine wpAnyH_take (i := 12) (oi := _) (v := ?_) rfl (by kernel_rfl) (by kernel_rfl) (by kernel_rfl) (fun _ _ _ h => h) (Or.inl ⟨by rfl, ?_⟩) (by assumption) ?_
            rotate_left
            · intro W hSw
              go_simp
              try (with_reducible rfl)
            try simp only [Act.put, List.getElem_toArray, List.getElem_cons_succ, List.getElem_cons_zero, List.setIfInBounds_toArray, List.set_cons_zero, List.set_cons_succ]
            refine wpAnyH_done (by kernel_rfl) ?_ _
            go_wp2
            go_ret
            exact ⟨rfl, W11.out.below⟩
          · obtain ⟨S5, hS5⟩ : ∃ X, X = S4 ++ ⟨#[108, 97, 120]⟩ := ⟨_, rfl⟩
            have q4 := addS hS5 (by omega) (by show (3 : Int) ≤ _; decide)
            have hS5l : S5.data.toList = s.data.toList ++ 59 :: lastM ds 2 := by
              rw [hS5, catL, HS.out]
              exact last_list s.data.toList ds 2
            have HJ := hid (fun w (G : Good w) => is_any S5 (lastC t n 2) (lastC_wf Hwf.out (by omega) (by omega)) true (by rw [hS5l]; exact decide_eq_true (HLT.out 2 (by omega))) w G)
            have W9 : Hid (Cks w [(g, lastC t n 2)] ((v5.alloc (.cells #[.int .u8 0, .int .u8 1, .int .u8 2, .int .u8 3] 22)).setCell ⟨g, 10, none⟩ (.int .u8 2))) :=
              hid ((V5.out.alloc _).put Hgg.out 10 (.int .u8 2) rfl)
            clear hS5 hS5l
            go_upto_region 21 with fail
            generalize World.setCell (World.alloc _ _) _ _ = w9 at *
            clear d10 f10
            refine wp_region_held_drew (S := fun W => Cks w [(g, lastC t n 2)] W) (by kernel_rfl) W9.out.drew (fun hHeld => ?_)
            refine wpAnyH_take (i := 0) (oi := _) (v := ?_) rfl (by kernel_rfl) (by kernel_rfl) (by kernel_rfl) (fun _ _ _ h => h) (Or.inl ⟨by rfl, ?_⟩) (by assumption) ?_
            rotate_left
            · intro W hSw
              go_simp
              try (with_reducible rfl)
            try simp only [Act.put, List.getElem_toArray, List.getElem_cons_zero, List.setIfInBounds_toArray, List.set_cons_zero, List.set_cons_succ]
            refine wpAnyH_take (i := 1) (oi := _) (v := ?_) rfl (by kernel_rfl) (by kernel_rfl) (by kernel_rfl) (fun _ _ _ h => h) (Or.inl ⟨by rfl, ?_⟩) (by assumption) ?_
            rotate_left
            · intro W hSw
              go_simp
              try (with_reducible rfl)
            try simp only [Act.put, List.getElem_toArray, List.getElem_cons_succ, List.getElem_cons_zero, List.setIfInBounds_toArray, List.set_cons_zero, List.set_cons_succ]
            refine wpAnyH_take (i := 2) (oi := _) (v := ?_) rfl (by kernel_rfl) (by kernel_rfl) (by kernel_rfl) (fun _ _ _ h => h) (Or.inl ⟨by rfl, ?_⟩) (by assumption) ?_
            rotate_left
            · intro W hSw
              go_simp
              try (with_reducible rfl)
            try simp only [Act.put, List.getElem_toArray, List.getElem_cons_succ, List.getElem_cons_zero, List.setIfInBounds_toArray, List.set_cons_zero, List.set_cons_succ]
            refine wpAnyH_take (i := 3) (oi := _) (v := ?_) rfl (by kernel_rfl) (by kernel_rfl) (by kernel_rfl) (fun _ _ _ h => h) (Or.inl ⟨by rfl, ?_⟩) (by assumption) ?_
            rotate_left
            · intro W hSw
              go_simp
              try (with_reducible rfl)
            try simp only [Act.put, List.getElem_toArray, List.getElem_cons_succ, List.getElem_cons_zero, List.setIfInBounds_toArray, List.set_cons_zero, List.set_cons_succ]
            refine wpAnyH_take (i := 4) (oi := _) (v := ?_) rfl (by kernel_rfl) (by kernel_rfl) (by kernel_rfl) (fun _ _ _ h => h) (Or.inl ⟨by rfl, ?_⟩) (by assumption) ?_
            rotate_left
            · intro W hSw
              go_simp
              try (with_reducible rfl)
            try simp only [Act.put, List.getElem_toArray, List.getElem_cons_succ, List.getElem_cons_zero, List.setIfInBounds_toArray, List.set_cons_zero, List.set_cons_succ]
            refine wpAnyH_take (i := 6) (oi := _) (v := ?_) rfl (by kernel_rfl) (by kernel_rfl) (by kernel_rfl) (fun _ _ _ h => h) (Or.inl ⟨by rfl, ?_⟩) (by assumption) ?_
            rotate_left
            · intro W hSw
              go_simp
              try (with_reducible rfl)
            try simp only [Act.put, List.getElem_toArray, List.getElem_cons_succ, List.getElem_cons_zero, List.setIfInBounds_toArray, List.set_cons_zero, List.set_cons_succ]
            refine wpAnyH_take (i := 10) (oi := _) (v := _) rfl (by kernel_rfl) (by kernel_rfl) (by kernel_rfl) (fun _ _ _ h => h) (yields_ck (by rfl) _ rfl rfl (List.mem_singleton.2 rfl)) (by assumption) ?_
            try simp only [Act.put, List.getElem_toArray, List.getElem_cons_succ, List.getElem_cons_zero, List.setIfInBounds_toArray, List.set_cons_zero, List.set_cons_succ]
            refine wpAnyH_ready (rs := [5]) (by kernel_rfl) (by simp) ?_
            refine AllReadyH.cons (o := _) rfl (fun K hK => ?_) AllReadyH.nil
            go_simp
            have HA := hid (Cks.alloc hHeld (.cells #[.string ⟨#[63]⟩, .string ⟨#[83, 84, 82, 73, 67, 84]⟩, .string ⟨#[108, 97, 120]⟩, .string ⟨#[78, 111, 110, 101]⟩] 9))
            refine hK.out _ _ HA.out (fun hHeld => ?_)
            clear hK K
            try simp only [Act.put, List.getElem_toArray, List.getElem_cons_succ, List.getElem_cons_zero, List.setIfInBounds_toArray, List.set_cons_zero, List.set_cons_succ]
            refine wpAnyH_take (i := 7) (oi := _) (v := ?_) rfl (by kernel_rfl) (by kernel_rfl) (by kernel_rfl) (fun _ _ _ h => h) (Or.inl ⟨by rfl, ?_⟩) (by assumption) ?_
            rotate_left
            · intro W hSw
              go_simp
              try (with_reducible rfl)
            try simp only [Act.put, List.getElem_toArray, List.getElem_cons_succ, List.getElem_cons_zero, List.setIfInBounds_toArray, List.set_cons_zero, List.set_cons_succ]
            refine wpAnyH_ready (rs := [8]) (by kernel_rfl) (by simp) ?_
            refine AllReadyH.cons (o := _) rfl (fun K hK => ?_) AllReadyH.nil
            go_simp
            refine hK.out _ _ HA.out (fun hHeld => ?_)
            clear hK K
            try simp only [Act.put, List.getElem_toArray, List.getElem_cons_succ, List.getElem_cons_zero, List.setIfInBounds_toArray, List.set_cons_zero, List.set_cons_succ]
            refine wpAnyH_take (i := 9) (oi := _) (v := ?_) rfl (by kernel_rfl) (by kernel_rfl) (by kernel_rfl) (fun _ _ _ h => h) (Or.inl ⟨by rfl, ?_⟩) (by assumption) ?_
            rotate_left
            · intro W hSw
              go_simp
              try (with_reducible rfl)
            try simp only [Act.put, List.getElem_toArray, List.getElem_cons_succ, List.getElem_cons_zero, List.setIfInBounds_toArray, List.set_cons_zero, List.set_cons_succ]
            refine wpAnyH_ready (rs := [11]) (by kernel_rfl) (by simp) ?_
            refine AllReadyH.cons (o := _) rfl (fun K hK => ?_) AllReadyH.nil
            go_simp
            refine (HJ.out _ (G.out.below hHeld.below)).mono ?_
            rintro e w11 ⟨rfl, hb11⟩
            have W11 := hid (Cks.go hHeld hb11)
            clear hb11 hHeld
            go_wp2_with fail
            refine hK.out _ _ W11.out (fun hHeld => ?_)
            clear hK K
            try simp only [Act.put, List.getElem_toArray, List.getElem_cons_succ, List.getElem_cons_zero, List.setIfInBounds_toArray, List.set_cons_zero, List.set_cons_succ]
            refine wpAnyH_take (i := 12) (oi := _) (v := ?_) rfl (by kernel_rfl) (by kernel_rfl) (by kernel_rfl) (fun _ _ _ h => h) (Or.inl ⟨by rfl, ?_⟩) (by assumption) ?_
            rotate_left
            · intro W hSw
              go_simp
              try (with_reducible rfl)
            try simp only [Act.put, List.getElem_toArray, List.getElem_cons_succ, List.getElem_cons_zero, List.setIfInBounds_toArray, List.set_cons_zero, List.set_cons_succ]
            refine wpAnyH_done (by kernel_rfl) ?_ _
            go_wp2
            go_ret
            exact ⟨rfl, W11.out.below⟩
          · obtain ⟨S5, hS5⟩ : ∃ X, X = S4 ++ ⟨#[78, 111, 110, 101]⟩ := ⟨_, rfl⟩
            have q4 := addS hS5 (by omega) (by show (4 : Int) ≤ _; decide)
            have hS5l : S5.data.toList = s.data.toList ++ 59 :: lastM ds 3 := by
              rw [hS5, catL, HS.out]
              exact last_list s.data.toList ds 3
            have HJ := hid (fun w (G : Good w) => is_any S5 (lastC t n 3) (lastC_wf Hwf.out (by omega) (by omega)) true (by rw [hS5l]; exact decide_eq_true (HLT.out 3 (by omega))) w G)
            have W9 : Hid (Cks w [(g, lastC t n 3)] ((v5.alloc (.cells #[.int .u8 0, .int .u8 1, .int .u8 2, .int .u8 3] 22)).setCell ⟨g, 10, none⟩ (.int .u8 3))) :=
              hid ((V5.out.alloc _).put Hgg.out 10 (.int .u8 3) rfl)
            clear hS5 hS5l
            go_upto_region 21 with fail
            generalize World.setCell (World.alloc _ _) _ _ = w9 at *
            clear d10 f10
            refine wp_region_held_drew (S := fun W => Cks w [(g, lastC t n 3)] W) (by kernel_rfl) W9.out.drew (fun hHeld => ?_)
            refine wpAnyH_take (i := 0) (oi := _) (v := ?_) rfl (by kernel_rfl) (by kernel_rfl) (by kernel_rfl) (fun _ _ _ h => h) (Or.inl ⟨by rfl, ?_⟩) (by assumption) ?_
            rotate_left
            · intro W hSw
              go_simp
              try (with_reducible rfl)
            try simp only [Act.put, List.getElem_toArray, List.getElem_cons_zero, List.setIfInBounds_toArray, List.set_cons_zero, List.set_cons_succ]
            refine wpAnyH_take (i := 1) (oi := _) (v := ?_) rfl (by kernel_rfl) (by kernel_rfl) (by kernel_rfl) (fun _ _ _ h => h) (Or.inl ⟨by rfl, ?_⟩) (by assumption) ?_
            rotate_left
            · intro W hSw
              go_simp
              try (with_reducible rfl)
            try simp only [Act.put, List.getElem_toArray, List.getElem_cons_succ, List.getElem_cons_zero, List.setIfInBounds_toArray, List.set_cons_zero, List.set_cons_succ]
            refine wpAnyH_take (i := 2) (oi := _) (v := ?_) rfl (by kernel_rfl) (by kernel_rfl) (by kernel_rfl) (fun _ _ _ h => h) (Or.inl ⟨by rfl, ?_⟩) (by assumption) ?_
            rotate_left
            · intro W hSw
              go_simp
              try (with_reducible rfl)
            try simp only [Act.put, List.getElem_toArray, List.getElem_cons_succ, List.getElem_cons_zero, List.setIfInBounds_toArray, List.set_cons_zero, List.set_cons_succ]
            refine wpAnyH_take (i := 3) (oi := _) (v := ?_) rfl (by kernel_rfl) (by kernel_rfl) (by kernel_rfl) (fun _ _ _ h => h) (Or.inl ⟨by rfl, ?_⟩) (by assumption) ?_
            rotate_left
            · intro W hSw
              go_simp
              try (with_reducible rfl)
            try simp only [Act.put, List.getElem_toArray, List.getElem_cons_succ, List.getElem_cons_zero, List.setIfInBounds_toArray, List.set_cons_zero, List.set_cons_succ]
            refine wpAnyH_take (i := 4) (oi := _) (v := ?_) rfl (by kernel_rfl) (by kernel_rfl) (by kernel_rfl) (fun _ _ _ h => h) (Or.inl ⟨by rfl, ?_⟩) (by assumption) ?_
            rotate_left
            · intro W hSw
              go_simp
              try (with_reducible rfl)
            try simp only [Act.put, List.getElem_toArray, List.getElem_cons_succ, List.getElem_cons_zero, List.setIfInBounds_toArray, List.set_cons_zero, List.set_cons_succ]
            refine wpAnyH_take (i := 6) (oi := _) (v := ?_) rfl (by kernel_rfl) (by kernel_rfl) (by kernel_rfl) (fun _ _ _ h => h) (Or.inl ⟨by rfl, ?_⟩) (by assumption) ?_
            rotate_left
            · intro W hSw
              go_simp
              try (with_reducible rfl)
            try simp only [Act.put, List.getElem_toArray, List.getElem_cons_succ, List.getElem_cons_zero, List.setIfInBounds_toArray, List.set_cons_zero, List.set_cons_succ]
            refine wpAnyH_take (i := 10) (oi := _) (v := _) rfl (by kernel_rfl) (by kernel_rfl) (by kernel_rfl) (fun _ _ _ h => h) (yields_ck (by rfl) _ rfl rfl (List.mem_singleton.2 rfl)) (by assumption) ?_
            try simp only [Act.put, List.getElem_toArray, List.getElem_cons_succ, List.getElem_cons_zero, List.setIfInBounds_toArray, List.set_cons_zero, List.set_cons_succ]
            refine wpAnyH_ready (rs := [5]) (by kernel_rfl) (by simp) ?_
            refine AllReadyH.cons (o := _) rfl (fun K hK => ?_) AllReadyH.nil
            go_simp
            have HA := hid (Cks.alloc hHeld (.cells #[.string ⟨#[63]⟩, .string ⟨#[83, 84, 82, 73, 67, 84]⟩, .string ⟨#[108, 97, 120]⟩, .string ⟨#[78, 111, 110, 101]⟩] 9))
            refine hK.out _ _ HA.out (fun hHeld => ?_)
            clear hK K
            try simp only [Act.put, List.getElem_toArray, List.getElem_cons_succ, List.getElem_cons_zero, List.setIfInBounds_toArray, List.set_cons_zero, List.set_cons_succ]
            refine wpAnyH_take (i := 7) (oi := _) (v := ?_) rfl (by kernel_rfl) (by kernel_rfl) (by kernel_rfl) (fun _ _ _ h => h) (Or.inl ⟨by rfl, ?_⟩) (by assumption) ?_
            rotate_left
            · intro W hSw
              go_simp
              try (with_reducible rfl)
            try simp only [Act.put, List.getElem_toArray, List.getElem_cons_succ, List.getElem_cons_zero, List.setIfInBounds_toArray, List.set_cons_zero, List.set_cons_succ]
            refine wpAnyH_ready (rs := [8]) (by kernel_rfl) (by simp) ?_
            refine AllReadyH.cons (o := _) rfl (fun K hK => ?_) AllReadyH.nil
            go_simp
            refine hK.out _ _ HA.out (fun hHeld => ?_)
            clear hK K
            try simp only [Act.put, List.getElem_toArray, List.getElem_cons_succ, List.getElem_cons_zero, List.setIfInBounds_toArray, List.set_cons_zero, List.set_cons_succ]
            refine wpAnyH_take (i := 9) (oi := _) (v := ?_) rfl (by kernel_rfl) (by kernel_rfl) (by kernel_rfl) (fun _ _ _ h => h) (Or.inl ⟨by rfl, ?_⟩) (by assumption) ?_
            rotate_left
            · intro W hSw
              go_simp
              try (with_reducible rfl)
            try simp only [Act.put, List.getElem_toArray, List.getElem_cons_succ, List.getElem_cons_zero, List.setIfInBounds_toArray, List.set_cons_zero, List.set_cons_succ]
            refine wpAnyH_ready (rs := [11]) (by kernel_rfl) (by simp) ?_
            refine AllReadyH.cons (o := _) rfl (fun K hK => ?_) AllReadyH.nil
            go_simp
            refine (HJ.out _ (G.out.below hHeld.below)).mono ?_
            rintro e w11 ⟨rfl, hb11⟩
            have W11 := hid (Cks.go hHeld hb11)
            clear hb11 hHeld
            go_wp2_with fail
            refine hK.out _ _ W11.out (fun hHeld => ?_)
            clear hK K
            try simp only [Act.put, List.getElem_toArray, List.getElem_cons_succ, List.getElem_cons_zero, List.setIfInBounds_toArray, List.set_cons_zero, List.set_cons_succ]
            refine wpAnyH_take (i := 12) (oi := _) (v := ?_) rfl (by kernel_rfl) (by kernel_rfl) (by kernel_rfl) (fun _ _ _ h => h) (Or.inl ⟨by rfl, ?_⟩) (by assumption) ?_
            rotate_left
            · intro W hSw
              go_simp
              try (with_reducible rfl)
            try simp only [Act.put, List.getElem_toArray, List.getElem_cons_succ, List.getElem_cons_zero, List.setIfInBounds_toArray, List.set_cons_zero, List.set_cons_succ]
            refine wpAnyH_done (by kernel_rfl) ?_ _
            go_wp2
            go_ret
            exact ⟨rfl, W11.out.below⟩
        · have hi4 : i ≤ 4 := by
            rcases Nat.lt_or_ge i 5 with h | h
            · omega
            · exact absurd (Nat.div_eq_of_lt (by rw [show i = 5 from by omega]; omega)) hx
          have hD2 := hid (digL_succ HD.out)
          have e10 : n / 10 ^ (i + 1) = n / 10 ^ i / 10 := by rw [Nat.pow_succ, Nat.div_div_eq_div_mul]
          have hd : n / 10 ^ i % 10 < 10 := by omega
          have hXb : n / 10 ^ i ≤ 65535 := Nat.le_trans (Nat.div_le_self _ _) (by omega)
          obtain ⟨X, hX⟩ : ∃ X, X = n / 10 ^ i := ⟨_, rfl⟩
          rw [← hX] at hD2 e10 hd hx hXb ⊢
          have E10 := hid e10
          clear e10 hX hi
          have hgt : (X : Int) > 0 := by omega
          have t1 : (X : Int).tdiv 10 = ((X / 10 : Nat) : Int) := rfl
          have t2 : (X : Int).tmod 10 = ((X % 10 : Nat) : Int) := rfl
          have u1 : (X : Int) / 10 = ((X / 10 : Nat) : Int) := rfl
          have u2 : (X : Int) % 10 = ((X % 10 : Nat) : Int) := rfl
          have hlt : X / 10 < X := by omega
          generalize X / 10 = Y at *
          generalize X % 10 = d at *
          have hs1 := fun V => slice_head D V
          have hs2 := fun V => slice_dig d hd V
          generalize UInt8.ofNat (48 + d) = c at *
          have hs3 := fun V => slice_tail D V
          have v0 : IntKind.i64.wrap (Y : Int) = (Y : Int) := IntWalk.i64_in _ (by omega)
          have v2 : IntKind.i64.wrap (d : Int) = (d : Int) := IntWalk.i64_in _ (by omega)
          have v3 : IntKind.i64.wrap ((d : Int) + 1) = (d : Int) + 1 := IntWalk.i64_in _ (by omega)
          obtain ⟨P, hP⟩ : ∃ P, P = tx [48] ++ tx [c] := ⟨_, rfl⟩
          have hP2 : tx (48 :: c :: D) = P ++ tx D := by
            rw [← tx_of (P ++ tx D), catL, hP, catL, tx_list, tx_list, tx_list]; rfl
          have q1 := addS hP (by show (1 : Int) ≤ _; decide) (by show (1 : Int) ≤ _; decide)
          have q2 := addS hP2 (by rw [hP, catZ]; show ((1 + 1 : Nat) : Int) ≤ _; decide) (by rw [tx_size]; omega)
          have WD2 := hid WD.out.drew
          clear hP hP2 hd hx hXb
          go_wp2
          go_region
          all_goals go_wp2
          all_goals go_roundw
          all_goals first
            | exact ⟨i + 1, c :: D, by omega, rfl, by rw [E10.out], hD2, WD2⟩
            | (simp [RowKit.intOf]; omega)
    · have hn0 : ((e : Int) == 0) = false := by rw [beq_eq_false_iff_ne]; omega
      have hn1 : ((e : Int) != 0) = true := by rw [bne, hn0]; rfl
      go_wp2
      go_ret
      exact ⟨rfl, W4.out.below⟩
end Go.Proofs.YthfndlphhgchnaaGreatDoor
