/- Walk of the law DatesForms: a cookie's date may be told in any order of its four parts. -/
import Derived.Test.YtnkfgedpdokcpaaDoorDf0
import Derived.Test.YtnkfgedpdokcpaaDoorDf1
import Derived.Test.YtnkfgedpdokcpaaDoorAlv7
import Derived.Test.YtnkfgedpdokcpaaDoorGood7
import Derived.Deep.Cut
import Derived.Deep.DeepCutAuto
import Derived.Deep.RegionHeld3
import Derived.Deep.RegionWith
import Derived.RegionTactic
import Derived.Deep.AppendLies
namespace Go.Proofs.YtnkfgedpdokcpaaDoor
open Go.RowKit Go.Lib Go.Proofs.Foot

theorem addS7 {s t r : ByteArray} (hr : r = s ++ t) (hs : (s.size : Int) ≤ 8388608) (ht : (t.size : Int) ≤ 8388608) : ∀ V, (Op.stringOp .add s t).run Tryd.prog V = .ok (.string r) V := fun V => by rw [hr]; exact run_string_add V _ _ hs ht
theorem conv7 (c : UInt8) (W : World) (g : Nat) (hc : W.cell? ⟨g, 0, none⟩ = some (.int .u8 c.toNat)) :
    (convert 30 9 (.slice (some ⟨g, 0, none⟩) 1 1)).run Tryd.prog W = .ok (.string ⟨#[c]⟩) W :=
  run_convert_bytes_back (P := Tryd.prog) W 30 9 5 ⟨g, 0, none⟩ 1 [c] Tryd.underlying30 Tryd.underlying5 Tryd.underlying9 (fun j hj => by
    obtain rfl : j = 0 := by simp at hj; omega
    exact hc)
theorem cell7 (c : UInt8) (W : World) : (W.alloc (.cells #[.int .u8 c.toNat] 5)).cell? ⟨W.heap.size, 0, none⟩ = some (.int .u8 c.toNat) := by
  rw [World.cell?_alloc_at _ _ _ _ rfl]; rfl
def mixT : ByteArray := ⟨#[106, 97, 110, 70, 69, 66, 77, 97, 114, 97, 112, 114, 77, 65, 89, 106, 117, 110, 74, 85, 76, 97, 117, 103, 83, 69, 80, 111, 99, 116, 78, 79, 86, 100, 101, 99]⟩
theorem mix_at (M : Nat) (h1 : 1 ≤ M) (h2 : M ≤ 12) (a b : Nat) (ha : a = 3 * M - 3) (hb : b = 3 * M) : (mixT.extract a b).data.toList = mixName (M - 1) := by
  subst ha hb
  have : ∀ M < 12, (mixT.extract (3 * (M + 1) - 3) (3 * (M + 1))).data.toList = mixName M := by decide +kernel
  have := this (M - 1) (by omega)
  rw [show M - 1 + 1 = M from by omega] at this; exact this
/-- The parts still to come, and what the text so far tells. -/
structure DfI (F : Frm) (w0 : World) (K : List Nat) (v : Value) (T : ByteArray) (dayed : Bool) (w : World) : Prop where
  own : w.ownsRow w0.heap.size 9 1 v (K.map (wT F)).length ((K.map (wT F)).map Value.string)
  below : Below w0.heap.size w0 w
  nodup : K.Nodup
  lt4 : ∀ k ∈ K, k < 4
  inv : ∃ D, InvK F K D dayed ∧ Scans T.data.toList D
set_option maxHeartbeats 8000000 in
set_option maxRecDepth 100000 in
theorem datesForms_at (n : Nat) (hn : n ≤ 18446744073709551615) (o c : UInt8) (w : World) (G0 : Good w) :
    Calls Tryd.prog 9 #[.int .u64 n, .int .u8 o.toNat, .int .u8 c.toNat] w fun e w' => e = .returned (.bool true) ∧ Below w.heap.size w w' := by
  have G := hid G0
  obtain ⟨k, hk⟩ : ∃ k : Nat, k = n % 3155760000 := ⟨_, rfl⟩
  have hkb : k < 3155760000 := by omega
  obtain ⟨Y, M, D, W, hD⟩ := dayIs_of (k : Int) (by omega) (by omega)
  have hY1 := year_1970 hD
  have hY2 := year_2069 hD hkb
  have hM1 := hD.m1
  have hM2 := hD.m2
  have hD1 := hD.k1
  have hD2 := hD.k2
  obtain ⟨ix, hix⟩ : ∃ ix : Nat, ix = o.toNat / 24 % 2 := ⟨_, rfl⟩
  obtain ⟨F, hF⟩ : ∃ F : Frm, F = ⟨k % 86400 / 3600, k % 86400 / 60 % 60, k % 86400 % 60, D, M, Y, decide (ix = 1)⟩ := ⟨_, rfl⟩
  have hok : F.ok := by rw [hF]; exact ⟨by show k % 86400 / 3600 < 100; omega, by show k % 86400 / 60 % 60 < 100; omega, by show k % 86400 % 60 < 100; omega, by show D < 100; omega, hM1, hM2, by show Y < 10000; omega⟩
  have HOK := hid hok
  have HF := hid hF
  have HD := hid hD
  obtain ⟨YT, hYT⟩ : ∃ YT : ByteArray, YT = wT F 3 := ⟨_, rfl⟩
  have HYT := hid hYT
  have tn : (n : Int).tmod 3155760000 = (k : Int) := by rw [Int.tmod_eq_emod_of_nonneg (by omega)]; omega
  have un : (n : Int) % 3155760000 = (k : Int) := by omega
  have wn : IntKind.u64.wrap (k : Int) = (k : Int) := IntWalk.u64_in _ (by omega)
  have wk : IntKind.i64.wrap (k : Int) = (k : Int) := IntWalk.i64_in _ (by omega)
  obtain ⟨s, hs⟩ : ∃ s : Nat, s = k % 86400 := ⟨_, rfl⟩
  have ts : (k : Int).tmod 86400 = (s : Int) := by rw [Int.tmod_eq_emod_of_nonneg (by omega)]; omega
  have us : (k : Int) % 86400 = (s : Int) := by omega
  have ws : IntKind.i64.wrap (s : Int) = (s : Int) := IntWalk.i64_in _ (by omega)
  have HV := hid hD.val
  have Hs := hid hs
  have Hix := hid hix
  have c256 : c.toNat < 256 := c.toNat_lt
  obtain ⟨q, hq⟩ : ∃ q : Bool, q = !betB c := ⟨_, rfl⟩
  clear hF hok hYT hs G0 hk hD hix
  go_enter Tryd.func9, Tryd.ntmps9
  go_upto_region 1 with fail
  go_cut [57] (fun v wx => v = .bool q ∧ w = wx)
  case first =>
    clear tn un wn wk ts us ws hY1 hY2 hM1 hM2 hD1 hD2 hkb hn
    obtain h | h | h | h | h | h | h | h | h | h | h : (0 ≤ c.toNat ∧ c.toNat ≤ 8) ∨ (9 ≤ c.toNat ∧ c.toNat ≤ 9) ∨ (10 ≤ c.toNat ∧ c.toNat ≤ 31) ∨ (32 ≤ c.toNat ∧ c.toNat ≤ 47) ∨ (48 ≤ c.toNat ∧ c.toNat ≤ 58) ∨ (59 ≤ c.toNat ∧ c.toNat ≤ 64) ∨ (65 ≤ c.toNat ∧ c.toNat ≤ 90) ∨ (91 ≤ c.toNat ∧ c.toNat ≤ 96) ∨ (97 ≤ c.toNat ∧ c.toNat ≤ 122) ∨ (123 ≤ c.toNat ∧ c.toNat ≤ 126) ∨ (127 ≤ c.toNat ∧ c.toNat ≤ 255) := by omega
    · as_aux_lemma =>
        have hqq := hid (show q = true by rw [hq]; unfold betB; rw [decide_eq_false (by omega)]; rfl)
        have f0 : ((c.toNat : Int) != 9) = true := by rw [bne_iff_ne]; omega
        have l0 : decide ((c.toNat : Int) < 32) = true := decide_eq_true (by omega)
        have l1 : decide ((c.toNat : Int) < 59) = true := decide_eq_true (by omega)
        have l2 : decide ((c.toNat : Int) < 91) = true := decide_eq_true (by omega)
        have l3 : decide ((c.toNat : Int) < 123) = true := decide_eq_true (by omega)
        clear h hq c256
        go_wp2
        go_meet
        exact ⟨by rw [hqq.out], rfl⟩
    · as_aux_lemma =>
        have hqq := hid (show q = false by rw [hq]; unfold betB; rw [decide_eq_true (by omega)]; rfl)
        have f0 : ((c.toNat : Int) != 9) = false := by rw [bne_eq_false_iff_eq]; omega
        clear h hq c256
        go_wp2
        go_meet
        exact ⟨by rw [hqq.out], rfl⟩
    · as_aux_lemma =>
        have hqq := hid (show q = true by rw [hq]; unfold betB; rw [decide_eq_false (by omega)]; rfl)
        have f0 : ((c.toNat : Int) != 9) = true := by rw [bne_iff_ne]; omega
        have l0 : decide ((c.toNat : Int) < 32) = true := decide_eq_true (by omega)
        have l1 : decide ((c.toNat : Int) < 59) = true := decide_eq_true (by omega)
        have l2 : decide ((c.toNat : Int) < 91) = true := decide_eq_true (by omega)
        have l3 : decide ((c.toNat : Int) < 123) = true := decide_eq_true (by omega)
        clear h hq c256
        go_wp2
        go_meet
        exact ⟨by rw [hqq.out], rfl⟩
    · as_aux_lemma =>
        have hqq := hid (show q = false by rw [hq]; unfold betB; rw [decide_eq_true (by omega)]; rfl)
        have f0 : ((c.toNat : Int) != 9) = true := by rw [bne_iff_ne]; omega
        have l0 : decide ((c.toNat : Int) < 32) = false := decide_eq_false (by omega)
        have g0 : decide ((47 : Int) < (c.toNat : Int)) = false := decide_eq_false (by omega)
        clear h hq c256
        go_wp2
        go_meet
        exact ⟨by rw [hqq.out], rfl⟩
    · as_aux_lemma =>
        have hqq := hid (show q = true by rw [hq]; unfold betB; rw [decide_eq_false (by omega)]; rfl)
        have f0 : ((c.toNat : Int) != 9) = true := by rw [bne_iff_ne]; omega
        have l0 : decide ((c.toNat : Int) < 32) = false := decide_eq_false (by omega)
        have g0 : decide ((47 : Int) < (c.toNat : Int)) = true := decide_eq_true (by omega)
        have l1 : decide ((c.toNat : Int) < 59) = true := decide_eq_true (by omega)
        have l2 : decide ((c.toNat : Int) < 91) = true := decide_eq_true (by omega)
        have l3 : decide ((c.toNat : Int) < 123) = true := decide_eq_true (by omega)
        clear h hq c256
        go_wp2
        go_meet
        exact ⟨by rw [hqq.out], rfl⟩
    · as_aux_lemma =>
        have hqq := hid (show q = false by rw [hq]; unfold betB; rw [decide_eq_true (by omega)]; rfl)
        have f0 : ((c.toNat : Int) != 9) = true := by rw [bne_iff_ne]; omega
        have l0 : decide ((c.toNat : Int) < 32) = false := decide_eq_false (by omega)
        have g0 : decide ((47 : Int) < (c.toNat : Int)) = true := decide_eq_true (by omega)
        have l1 : decide ((c.toNat : Int) < 59) = false := decide_eq_false (by omega)
        have g1 : decide ((64 : Int) < (c.toNat : Int)) = false := decide_eq_false (by omega)
        clear h hq c256
        go_wp2
        go_meet
        exact ⟨by rw [hqq.out], rfl⟩
    · as_aux_lemma =>
        have hqq := hid (show q = true by rw [hq]; unfold betB; rw [decide_eq_false (by omega)]; rfl)
        have f0 : ((c.toNat : Int) != 9) = true := by rw [bne_iff_ne]; omega
        have l0 : decide ((c.toNat : Int) < 32) = false := decide_eq_false (by omega)
        have g0 : decide ((47 : Int) < (c.toNat : Int)) = true := decide_eq_true (by omega)
        have l1 : decide ((c.toNat : Int) < 59) = false := decide_eq_false (by omega)
        have g1 : decide ((64 : Int) < (c.toNat : Int)) = true := decide_eq_true (by omega)
        have l2 : decide ((c.toNat : Int) < 91) = true := decide_eq_true (by omega)
        have l3 : decide ((c.toNat : Int) < 123) = true := decide_eq_true (by omega)
        clear h hq c256
        go_wp2
        go_meet
        exact ⟨by rw [hqq.out], rfl⟩
    · as_aux_lemma =>
        have hqq := hid (show q = false by rw [hq]; unfold betB; rw [decide_eq_true (by omega)]; rfl)
        have f0 : ((c.toNat : Int) != 9) = true := by rw [bne_iff_ne]; omega
        have l0 : decide ((c.toNat : Int) < 32) = false := decide_eq_false (by omega)
        have g0 : decide ((47 : Int) < (c.toNat : Int)) = true := decide_eq_true (by omega)
        have l1 : decide ((c.toNat : Int) < 59) = false := decide_eq_false (by omega)
        have g1 : decide ((64 : Int) < (c.toNat : Int)) = true := decide_eq_true (by omega)
        have l2 : decide ((c.toNat : Int) < 91) = false := decide_eq_false (by omega)
        have g2 : decide ((96 : Int) < (c.toNat : Int)) = false := decide_eq_false (by omega)
        clear h hq c256
        go_wp2
        go_meet
        exact ⟨by rw [hqq.out], rfl⟩
    · as_aux_lemma =>
        have hqq := hid (show q = true by rw [hq]; unfold betB; rw [decide_eq_false (by omega)]; rfl)
        have f0 : ((c.toNat : Int) != 9) = true := by rw [bne_iff_ne]; omega
        have l0 : decide ((c.toNat : Int) < 32) = false := decide_eq_false (by omega)
        have g0 : decide ((47 : Int) < (c.toNat : Int)) = true := decide_eq_true (by omega)
        have l1 : decide ((c.toNat : Int) < 59) = false := decide_eq_false (by omega)
        have g1 : decide ((64 : Int) < (c.toNat : Int)) = true := decide_eq_true (by omega)
        have l2 : decide ((c.toNat : Int) < 91) = false := decide_eq_false (by omega)
        have g2 : decide ((96 : Int) < (c.toNat : Int)) = true := decide_eq_true (by omega)
        have l3 : decide ((c.toNat : Int) < 123) = true := decide_eq_true (by omega)
        clear h hq c256
        go_wp2
        go_meet
        exact ⟨by rw [hqq.out], rfl⟩
    · as_aux_lemma =>
        have hqq := hid (show q = false by rw [hq]; unfold betB; rw [decide_eq_true (by omega)]; rfl)
        have f0 : ((c.toNat : Int) != 9) = true := by rw [bne_iff_ne]; omega
        have l0 : decide ((c.toNat : Int) < 32) = false := decide_eq_false (by omega)
        have g0 : decide ((47 : Int) < (c.toNat : Int)) = true := decide_eq_true (by omega)
        have l1 : decide ((c.toNat : Int) < 59) = false := decide_eq_false (by omega)
        have g1 : decide ((64 : Int) < (c.toNat : Int)) = true := decide_eq_true (by omega)
        have l2 : decide ((c.toNat : Int) < 91) = false := decide_eq_false (by omega)
        have g2 : decide ((96 : Int) < (c.toNat : Int)) = true := decide_eq_true (by omega)
        have l3 : decide ((c.toNat : Int) < 123) = false := decide_eq_false (by omega)
        have g3 : decide ((126 : Int) < (c.toNat : Int)) = false := decide_eq_false (by omega)
        clear h hq c256
        go_wp2
        go_meet
        exact ⟨by rw [hqq.out], rfl⟩
    · as_aux_lemma =>
        have hqq := hid (show q = true by rw [hq]; unfold betB; rw [decide_eq_false (by omega)]; rfl)
        have f0 : ((c.toNat : Int) != 9) = true := by rw [bne_iff_ne]; omega
        have l0 : decide ((c.toNat : Int) < 32) = false := decide_eq_false (by omega)
        have g0 : decide ((47 : Int) < (c.toNat : Int)) = true := decide_eq_true (by omega)
        have l1 : decide ((c.toNat : Int) < 59) = false := decide_eq_false (by omega)
        have g1 : decide ((64 : Int) < (c.toNat : Int)) = true := decide_eq_true (by omega)
        have l2 : decide ((c.toNat : Int) < 91) = false := decide_eq_false (by omega)
        have g2 : decide ((96 : Int) < (c.toNat : Int)) = true := decide_eq_true (by omega)
        have l3 : decide ((c.toNat : Int) < 123) = false := decide_eq_false (by omega)
        have g3 : decide ((126 : Int) < (c.toNat : Int)) = true := decide_eq_true (by omega)
        clear h hq c256
        go_wp2
        go_meet
        exact ⟨by rw [hqq.out], rfl⟩
  obtain ⟨rfl, rfl⟩ := hcut
  cases q with
  | true =>
    clear hq
    as_aux_lemma =>
      go_wp2_with fail
      refine (alive_any _ G.out).mono ?_
      rintro e w1 ⟨rfl, hb1⟩
      have B1 := hid hb1
      clear hb1
      go_wp2
      go_ret
      exact ⟨rfl, B1.out⟩
  | false =>
    have hbet := hid (show betB c = true by cases hb : betB c with | true => rfl | false => rw [hb] at hq; cases hq)
    clear hq
    go_wp2_with fail
    refine (day_is _ k _ HV.out).mono ?_
    rintro e w' ⟨rfl, rfl⟩
    go_upto_region 6 with fail
    clear tn un wn wk ts us ws
    go_cut [13] (fun v wx => v = .string YT ∧ Below w.heap.size w wx)
    case first =>
      clear hn hkb hM1 hM2 hD1 hD2 c256 HOK HD HV Hs hbet
      rename_i Q0 K0 hK0 J0 K1 hJ0 hm0
      have Hpan := hid (show ∀ d v c a w, Exit.then K1 Q0 (.panic c) (Act.put a d v) w → Exit.then K1 Q0 (.panic c) a w from fun d _ _ _ _ h => by cases d <;> exact h)
      clear hK0
      obtain ⟨yh, hyh⟩ : ∃ x : Nat, x = Y / 100 := ⟨_, rfl⟩
      obtain ⟨yl, hyl⟩ : ∃ x : Nat, x = Y % 100 := ⟨_, rfl⟩
      have yhb : yh ≤ 9999 := by omega
      have ylb : yl ≤ 9999 := by omega
      have t1 : (Y : Int).tdiv 100 = (yh : Int) := by rw [Int.tdiv_eq_ediv_of_nonneg (by omega)]; omega
      have u1 : (Y : Int) / 100 = (yh : Int) := by omega
      have t2 : (Y : Int).tmod 100 = (yl : Int) := by rw [Int.tmod_eq_emod_of_nonneg (by omega)]; omega
      have u2 : (Y : Int) % 100 = (yl : Int) := by omega
      have y1 : IntKind.i64.wrap (yh : Int) = (yh : Int) := IntWalk.i64_in _ (by omega)
      have y2 : IntKind.i64.wrap (yl : Int) = (yl : Int) := IntWalk.i64_in _ (by omega)
      obtain ⟨oq, hoq⟩ : ∃ x : Nat, x = o.toNat / 24 := ⟨_, rfl⟩
      have hixq : ix = oq % 2 := by rw [hoq]; exact Hix.out
      have oqb : oq ≤ 255 := by have := o.toNat_lt; omega
      have t3 : (o.toNat : Int).tdiv 24 = (oq : Int) := by rw [Int.tdiv_eq_ediv_of_nonneg (by omega)]; omega
      have u3 : (o.toNat : Int) / 24 = (oq : Int) := by omega
      have y3 : IntKind.u8.wrap (oq : Int) = (oq : Int) := IntWalk.u8_in _ (by omega)
      clear hoq Hix hY1 hY2
      have h01 : ix = 0 ∨ ix = 1 := by omega
      rcases h01 with h01 | h01
      · as_aux_lemma =>
          have t4 : (oq : Int).tmod 2 = 0 := by rw [Int.tmod_eq_emod_of_nonneg (by omega)]; omega
          have u4 : (oq : Int) % 2 = 0 := by omega
          have hd : decide (ix = 1) = false := by rw [h01]; rfl
          rw [hd] at HF
          clear hd h01 hixq oqb
          have HY := hid (show YT = (ddT yh) ++ ddT yl by rw [HYT.out]; exact bytes_ext7 (by rw [wT_l, cat7, show wordF F 3 = yearW F from rfl, HF.out]; unfold yearW; simp [ddT_l, hyh, hyl]))
          have ad := addS7 HY.out (by rw [ddT_z]; decide) (by rw [ddT_z]; decide)
          have ad' : ∀ V, (Op.stringOp .add (ddT yh) (ddT yl)).run Tryd.prog V = .ok (.string YT) V := ad
          clear HF HYT hyh hyl ad
          refine wp_region_held_drew (S := fun W => Below w.heap.size w W) (by kernel_rfl) (Below.refl _ _).drew (fun hHeld => ?_)
          refine wpAnyH_take (i := 0) (oi := _) (v := ?_) rfl (by kernel_rfl) (by kernel_rfl) (by kernel_rfl) (Hpan.out _ _) (Or.inl ⟨by rfl, ?_⟩) (by assumption) ?_
          rotate_left
          · intro W hSw
            go_simp
            try (with_reducible rfl)
          try simp only [Act.put, List.getElem_toArray, List.getElem_cons_zero, List.setIfInBounds_toArray, List.set_cons_zero, List.set_cons_succ]
          refine wpAnyH_take (i := 1) (oi := _) (v := ?_) rfl (by kernel_rfl) (by kernel_rfl) (by kernel_rfl) (Hpan.out _ _) (Or.inl ⟨by rfl, ?_⟩) (by assumption) ?_
          rotate_left
          · intro W hSw
            go_simp
            try (with_reducible rfl)
          try simp only [Act.put, List.getElem_toArray, List.getElem_cons_succ, List.getElem_cons_zero, List.setIfInBounds_toArray, List.set_cons_zero, List.set_cons_succ]
          refine wpAnyH_take (i := 4) (oi := _) (v := ?_) rfl (by kernel_rfl) (by kernel_rfl) (by kernel_rfl) (Hpan.out _ _) (Or.inl ⟨by rfl, ?_⟩) (by assumption) ?_
          rotate_left
          · intro W hSw
            go_simp
            try (with_reducible rfl)
          try simp only [Act.put, List.getElem_toArray, List.getElem_cons_succ, List.getElem_cons_zero, List.setIfInBounds_toArray, List.set_cons_zero, List.set_cons_succ]
          refine wpAnyH_take (i := 5) (oi := _) (v := ?_) rfl (by kernel_rfl) (by kernel_rfl) (by kernel_rfl) (Hpan.out _ _) (Or.inl ⟨by rfl, ?_⟩) (by assumption) ?_
          rotate_left
          · intro W hSw
            go_simp
            try (with_reducible rfl)
          try simp only [Act.put, List.getElem_toArray, List.getElem_cons_succ, List.getElem_cons_zero, List.setIfInBounds_toArray, List.set_cons_zero, List.set_cons_succ]
          refine wpAnyH_take (i := 6) (oi := _) (v := ?_) rfl (by kernel_rfl) (by kernel_rfl) (by kernel_rfl) (Hpan.out _ _) (Or.inl ⟨by rfl, ?_⟩) (by assumption) ?_
          rotate_left
          · intro W hSw
            go_simp
            try (with_reducible rfl)
          try simp only [Act.put, List.getElem_toArray, List.getElem_cons_succ, List.getElem_cons_zero, List.setIfInBounds_toArray, List.set_cons_zero, List.set_cons_succ]
          refine wpAnyH_take (i := 9) (oi := _) (v := ?_) rfl (by kernel_rfl) (by kernel_rfl) (by kernel_rfl) (Hpan.out _ _) (Or.inl ⟨by rfl, ?_⟩) (by assumption) ?_
          rotate_left
          · intro W hSw
            go_simp
            try (with_reducible rfl)
          try simp only [Act.put, List.getElem_toArray, List.getElem_cons_succ, List.getElem_cons_zero, List.setIfInBounds_toArray, List.set_cons_zero, List.set_cons_succ]
          refine wpAnyH_take (i := 10) (oi := _) (v := ?_) rfl (by kernel_rfl) (by kernel_rfl) (by kernel_rfl) (Hpan.out _ _) (Or.inl ⟨by rfl, ?_⟩) (by assumption) ?_
          rotate_left
          · intro W hSw
            go_simp
            try (with_reducible rfl)
          try simp only [Act.put, List.getElem_toArray, List.getElem_cons_succ, List.getElem_cons_zero, List.setIfInBounds_toArray, List.set_cons_zero, List.set_cons_succ]
          refine wpAnyH_ready (rs := [2]) (by kernel_rfl) (by simp) ?_
          refine AllReadyH.cons (o := _) rfl (fun K hK => ?_) AllReadyH.nil
          go_simp
          refine (two_any yh yhb _).mono ?_
          rintro e u2 ⟨rfl, hb2⟩
          have S2 : Below w.heap.size w u2 := below_chain hHeld hb2
          go_wp2_with fail
          refine hK.out _ _ S2 (fun hHeld => ?_)
          clear hK K
          try simp only [Act.put, List.getElem_toArray, List.getElem_cons_succ, List.getElem_cons_zero, List.setIfInBounds_toArray, List.set_cons_zero, List.set_cons_succ]
          refine wpAnyH_ready (rs := [3, 11]) (by kernel_rfl) (by simp) ?_
          refine AllReadyH.cons (o := _) rfl (fun K hK => ?_) (AllReadyH.cons (o := _) rfl (fun K hK => ?_) AllReadyH.nil)
          · go_simp
            refine hK.out _ _ (S2.alloc S2.size _) (fun hHeld => ?_)
            clear hK K
            try simp only [Act.put, List.getElem_toArray, List.getElem_cons_succ, List.getElem_cons_zero, List.setIfInBounds_toArray, List.set_cons_zero, List.set_cons_succ]
            refine wpAnyH_take (i := 7) (oi := _) (v := ?_) rfl (by kernel_rfl) (by kernel_rfl) (by kernel_rfl) (Hpan.out _ _) (Or.inl ⟨by rfl, ?_⟩) (by assumption) ?_
            rotate_left
            · intro W hSw
              go_simp
              try (with_reducible rfl)
            try simp only [Act.put, List.getElem_toArray, List.getElem_cons_succ, List.getElem_cons_zero, List.setIfInBounds_toArray, List.set_cons_zero, List.set_cons_succ]
            refine wpAnyH_ready (rs := [8, 11]) (by kernel_rfl) (by simp) ?_
            refine AllReadyH.cons (o := _) rfl (fun K hK => ?_) (AllReadyH.cons (o := _) rfl (fun K hK => ?_) AllReadyH.nil)
            · go_simp
              refine hK.out _ _ hHeld (fun hHeld => ?_)
              clear hK K
              try simp only [Act.put, List.getElem_toArray, List.getElem_cons_succ, List.getElem_cons_zero, List.setIfInBounds_toArray, List.set_cons_zero, List.set_cons_succ]
              refine wpAnyH_ready (rs := [11]) (by kernel_rfl) (by simp) ?_
              refine AllReadyH.cons (o := _) rfl (fun K hK => ?_) AllReadyH.nil
              go_simp
              refine (two_any yl ylb _).mono ?_
              rintro e u3 ⟨rfl, hb3⟩
              have S3 : Below w.heap.size w u3 := below_chain hHeld hb3
              go_wp2_with fail
              refine hK.out _ _ S3 (fun hHeld => ?_)
              clear hK K
              try simp only [Act.put, List.getElem_toArray, List.getElem_cons_succ, List.getElem_cons_zero, List.setIfInBounds_toArray, List.set_cons_zero, List.set_cons_succ]
              refine wpAnyH_take (i := 12) (oi := _) (v := ?_) rfl (by kernel_rfl) (by kernel_rfl) (by kernel_rfl) (Hpan.out _ _) (Or.inl ⟨by rfl, ?_⟩) (by assumption) ?_
              rotate_left
              · intro W hSw
                go_simp
                try (with_reducible rfl)
              try simp only [Act.put, List.getElem_toArray, List.getElem_cons_succ, List.getElem_cons_zero, List.setIfInBounds_toArray, List.set_cons_zero, List.set_cons_succ]
              refine wpAnyH_take (i := 13) (oi := _) (v := ?_) rfl (by kernel_rfl) (by kernel_rfl) (by kernel_rfl) (Hpan.out _ _) (Or.inl ⟨by rfl, ?_⟩) (by assumption) ?_
              rotate_left
              · intro W hSw
                go_simp
                try (with_reducible rfl)
              try simp only [Act.put, List.getElem_toArray, List.getElem_cons_succ, List.getElem_cons_zero, List.setIfInBounds_toArray, List.set_cons_zero, List.set_cons_succ]
              refine wpAnyH_done (by kernel_rfl) ?_ _
              go_wp2
              go_meet
              exact ⟨by rw [HY.out], hHeld⟩
            · go_simp
              refine (two_any yl ylb _).mono ?_
              rintro e u3 ⟨rfl, hb3⟩
              have S3 : Below w.heap.size w u3 := below_chain hHeld hb3
              go_wp2_with fail
              refine hK.out _ _ S3 (fun hHeld => ?_)
              clear hK K
              try simp only [Act.put, List.getElem_toArray, List.getElem_cons_succ, List.getElem_cons_zero, List.setIfInBounds_toArray, List.set_cons_zero, List.set_cons_succ]
              have c8 : u3.cell? ⟨u2.heap.size, 0, none⟩ = some (.string (ddT yh)) := by rw [hb3.cell (p := ⟨u2.heap.size, 0, none⟩) (by rw [World.size_alloc]; exact Nat.lt_succ_self _), World.cell?_alloc_at _ _ _ _ rfl]; rfl
              refine wpAnyH_ready (rs := [8]) (by kernel_rfl) (by simp) ?_
              refine AllReadyH.cons (o := _) rfl (fun K hK => ?_) AllReadyH.nil
              go_simp
              refine hK.out _ _ hHeld (fun hHeld => ?_)
              clear hK K
              try simp only [Act.put, List.getElem_toArray, List.getElem_cons_succ, List.getElem_cons_zero, List.setIfInBounds_toArray, List.set_cons_zero, List.set_cons_succ]
              refine wpAnyH_take (i := 12) (oi := _) (v := ?_) rfl (by kernel_rfl) (by kernel_rfl) (by kernel_rfl) (Hpan.out _ _) (Or.inl ⟨by rfl, ?_⟩) (by assumption) ?_
              rotate_left
              · intro W hSw
                go_simp
                try (with_reducible rfl)
              try simp only [Act.put, List.getElem_toArray, List.getElem_cons_succ, List.getElem_cons_zero, List.setIfInBounds_toArray, List.set_cons_zero, List.set_cons_succ]
              refine wpAnyH_take (i := 13) (oi := _) (v := ?_) rfl (by kernel_rfl) (by kernel_rfl) (by kernel_rfl) (Hpan.out _ _) (Or.inl ⟨by rfl, ?_⟩) (by assumption) ?_
              rotate_left
              · intro W hSw
                go_simp
                try (with_reducible rfl)
              try simp only [Act.put, List.getElem_toArray, List.getElem_cons_succ, List.getElem_cons_zero, List.setIfInBounds_toArray, List.set_cons_zero, List.set_cons_succ]
              refine wpAnyH_done (by kernel_rfl) ?_ _
              go_wp2
              go_meet
              exact ⟨by rw [HY.out], hHeld⟩
          · go_simp
            refine (two_any yl ylb _).mono ?_
            rintro e u3 ⟨rfl, hb3⟩
            have S3 : Below w.heap.size w u3 := below_chain hHeld hb3
            go_wp2_with fail
            refine hK.out _ _ S3 (fun hHeld => ?_)
            clear hK K
            try simp only [Act.put, List.getElem_toArray, List.getElem_cons_succ, List.getElem_cons_zero, List.setIfInBounds_toArray, List.set_cons_zero, List.set_cons_succ]
            refine wpAnyH_ready (rs := [3]) (by kernel_rfl) (by simp) ?_
            refine AllReadyH.cons (o := _) rfl (fun K hK => ?_) AllReadyH.nil
            go_simp
            refine hK.out _ _ (S3.alloc S3.size _) (fun hHeld => ?_)
            clear hK K
            try simp only [Act.put, List.getElem_toArray, List.getElem_cons_succ, List.getElem_cons_zero, List.setIfInBounds_toArray, List.set_cons_zero, List.set_cons_succ]
            refine wpAnyH_take (i := 7) (oi := _) (v := ?_) rfl (by kernel_rfl) (by kernel_rfl) (by kernel_rfl) (Hpan.out _ _) (Or.inl ⟨by rfl, ?_⟩) (by assumption) ?_
            rotate_left
            · intro W hSw
              go_simp
              try (with_reducible rfl)
            try simp only [Act.put, List.getElem_toArray, List.getElem_cons_succ, List.getElem_cons_zero, List.setIfInBounds_toArray, List.set_cons_zero, List.set_cons_succ]
            refine wpAnyH_ready (rs := [8]) (by kernel_rfl) (by simp) ?_
            refine AllReadyH.cons (o := _) rfl (fun K hK => ?_) AllReadyH.nil
            go_simp
            refine hK.out _ _ hHeld (fun hHeld => ?_)
            clear hK K
            try simp only [Act.put, List.getElem_toArray, List.getElem_cons_succ, List.getElem_cons_zero, List.setIfInBounds_toArray, List.set_cons_zero, List.set_cons_succ]
            refine wpAnyH_take (i := 12) (oi := _) (v := ?_) rfl (by kernel_rfl) (by kernel_rfl) (by kernel_rfl) (Hpan.out _ _) (Or.inl ⟨by rfl, ?_⟩) (by assumption) ?_
            rotate_left
            · intro W hSw
              go_simp
              try (with_reducible rfl)
            try simp only [Act.put, List.getElem_toArray, List.getElem_cons_succ, List.getElem_cons_zero, List.setIfInBounds_toArray, List.set_cons_zero, List.set_cons_succ]
            refine wpAnyH_take (i := 13) (oi := _) (v := ?_) rfl (by kernel_rfl) (by kernel_rfl) (by kernel_rfl) (Hpan.out _ _) (Or.inl ⟨by rfl, ?_⟩) (by assumption) ?_
            rotate_left
            · intro W hSw
              go_simp
              try (with_reducible rfl)
            try simp only [Act.put, List.getElem_toArray, List.getElem_cons_succ, List.getElem_cons_zero, List.setIfInBounds_toArray, List.set_cons_zero, List.set_cons_succ]
            refine wpAnyH_done (by kernel_rfl) ?_ _
            go_wp2
            go_meet
            exact ⟨by rw [HY.out], hHeld⟩
      · as_aux_lemma =>
          have t4 : (oq : Int).tmod 2 = 1 := by rw [Int.tmod_eq_emod_of_nonneg (by omega)]; omega
          have u4 : (oq : Int) % 2 = 1 := by omega
          have hd : decide (ix = 1) = true := by rw [h01]; rfl
          rw [hd] at HF
          clear hd h01 hixq oqb
          have HY := hid (show YT = (⟨#[]⟩ : ByteArray) ++ ddT yl by rw [HYT.out]; exact bytes_ext7 (by rw [wT_l, cat7, show wordF F 3 = yearW F from rfl, HF.out]; unfold yearW; simp [ddT_l, hyl]))
          have ad := addS7 HY.out (by decide) (by rw [ddT_z]; decide)
          have ad' : ∀ V, (Op.stringOp .add (⟨#[]⟩ : ByteArray) (ddT yl)).run Tryd.prog V = .ok (.string YT) V := ad
          clear HF HYT hyh hyl ad
          refine wp_region_held_drew (S := fun W => Below w.heap.size w W) (by kernel_rfl) (Below.refl _ _).drew (fun hHeld => ?_)
          refine wpAnyH_take (i := 0) (oi := _) (v := ?_) rfl (by kernel_rfl) (by kernel_rfl) (by kernel_rfl) (Hpan.out _ _) (Or.inl ⟨by rfl, ?_⟩) (by assumption) ?_
          rotate_left
          · intro W hSw
            go_simp
            try (with_reducible rfl)
          try simp only [Act.put, List.getElem_toArray, List.getElem_cons_zero, List.setIfInBounds_toArray, List.set_cons_zero, List.set_cons_succ]
          refine wpAnyH_take (i := 1) (oi := _) (v := ?_) rfl (by kernel_rfl) (by kernel_rfl) (by kernel_rfl) (Hpan.out _ _) (Or.inl ⟨by rfl, ?_⟩) (by assumption) ?_
          rotate_left
          · intro W hSw
            go_simp
            try (with_reducible rfl)
          try simp only [Act.put, List.getElem_toArray, List.getElem_cons_succ, List.getElem_cons_zero, List.setIfInBounds_toArray, List.set_cons_zero, List.set_cons_succ]
          refine wpAnyH_take (i := 4) (oi := _) (v := ?_) rfl (by kernel_rfl) (by kernel_rfl) (by kernel_rfl) (Hpan.out _ _) (Or.inl ⟨by rfl, ?_⟩) (by assumption) ?_
          rotate_left
          · intro W hSw
            go_simp
            try (with_reducible rfl)
          try simp only [Act.put, List.getElem_toArray, List.getElem_cons_succ, List.getElem_cons_zero, List.setIfInBounds_toArray, List.set_cons_zero, List.set_cons_succ]
          refine wpAnyH_take (i := 5) (oi := _) (v := ?_) rfl (by kernel_rfl) (by kernel_rfl) (by kernel_rfl) (Hpan.out _ _) (Or.inl ⟨by rfl, ?_⟩) (by assumption) ?_
          rotate_left
          · intro W hSw
            go_simp
            try (with_reducible rfl)
          try simp only [Act.put, List.getElem_toArray, List.getElem_cons_succ, List.getElem_cons_zero, List.setIfInBounds_toArray, List.set_cons_zero, List.set_cons_succ]
          refine wpAnyH_take (i := 6) (oi := _) (v := ?_) rfl (by kernel_rfl) (by kernel_rfl) (by kernel_rfl) (Hpan.out _ _) (Or.inl ⟨by rfl, ?_⟩) (by assumption) ?_
          rotate_left
          · intro W hSw
            go_simp
            try (with_reducible rfl)
          try simp only [Act.put, List.getElem_toArray, List.getElem_cons_succ, List.getElem_cons_zero, List.setIfInBounds_toArray, List.set_cons_zero, List.set_cons_succ]
          refine wpAnyH_take (i := 9) (oi := _) (v := ?_) rfl (by kernel_rfl) (by kernel_rfl) (by kernel_rfl) (Hpan.out _ _) (Or.inl ⟨by rfl, ?_⟩) (by assumption) ?_
          rotate_left
          · intro W hSw
            go_simp
            try (with_reducible rfl)
          try simp only [Act.put, List.getElem_toArray, List.getElem_cons_succ, List.getElem_cons_zero, List.setIfInBounds_toArray, List.set_cons_zero, List.set_cons_succ]
          refine wpAnyH_take (i := 10) (oi := _) (v := ?_) rfl (by kernel_rfl) (by kernel_rfl) (by kernel_rfl) (Hpan.out _ _) (Or.inl ⟨by rfl, ?_⟩) (by assumption) ?_
          rotate_left
          · intro W hSw
            go_simp
            try (with_reducible rfl)
          try simp only [Act.put, List.getElem_toArray, List.getElem_cons_succ, List.getElem_cons_zero, List.setIfInBounds_toArray, List.set_cons_zero, List.set_cons_succ]
          refine wpAnyH_ready (rs := [2]) (by kernel_rfl) (by simp) ?_
          refine AllReadyH.cons (o := _) rfl (fun K hK => ?_) AllReadyH.nil
          go_simp
          refine (two_any yh yhb _).mono ?_
          rintro e u2 ⟨rfl, hb2⟩
          have S2 : Below w.heap.size w u2 := below_chain hHeld hb2
          go_wp2_with fail
          refine hK.out _ _ S2 (fun hHeld => ?_)
          clear hK K
          try simp only [Act.put, List.getElem_toArray, List.getElem_cons_succ, List.getElem_cons_zero, List.setIfInBounds_toArray, List.set_cons_zero, List.set_cons_succ]
          refine wpAnyH_ready (rs := [3, 11]) (by kernel_rfl) (by simp) ?_
          refine AllReadyH.cons (o := _) rfl (fun K hK => ?_) (AllReadyH.cons (o := _) rfl (fun K hK => ?_) AllReadyH.nil)
          · go_simp
            refine hK.out _ _ (S2.alloc S2.size _) (fun hHeld => ?_)
            clear hK K
            try simp only [Act.put, List.getElem_toArray, List.getElem_cons_succ, List.getElem_cons_zero, List.setIfInBounds_toArray, List.set_cons_zero, List.set_cons_succ]
            refine wpAnyH_take (i := 7) (oi := _) (v := ?_) rfl (by kernel_rfl) (by kernel_rfl) (by kernel_rfl) (Hpan.out _ _) (Or.inl ⟨by rfl, ?_⟩) (by assumption) ?_
            rotate_left
            · intro W hSw
              go_simp
              try (with_reducible rfl)
            try simp only [Act.put, List.getElem_toArray, List.getElem_cons_succ, List.getElem_cons_zero, List.setIfInBounds_toArray, List.set_cons_zero, List.set_cons_succ]
            refine wpAnyH_ready (rs := [8, 11]) (by kernel_rfl) (by simp) ?_
            refine AllReadyH.cons (o := _) rfl (fun K hK => ?_) (AllReadyH.cons (o := _) rfl (fun K hK => ?_) AllReadyH.nil)
            · go_simp
              refine hK.out _ _ hHeld (fun hHeld => ?_)
              clear hK K
              try simp only [Act.put, List.getElem_toArray, List.getElem_cons_succ, List.getElem_cons_zero, List.setIfInBounds_toArray, List.set_cons_zero, List.set_cons_succ]
              refine wpAnyH_ready (rs := [11]) (by kernel_rfl) (by simp) ?_
              refine AllReadyH.cons (o := _) rfl (fun K hK => ?_) AllReadyH.nil
              go_simp
              refine (two_any yl ylb _).mono ?_
              rintro e u3 ⟨rfl, hb3⟩
              have S3 : Below w.heap.size w u3 := below_chain hHeld hb3
              go_wp2_with fail
              refine hK.out _ _ S3 (fun hHeld => ?_)
              clear hK K
              try simp only [Act.put, List.getElem_toArray, List.getElem_cons_succ, List.getElem_cons_zero, List.setIfInBounds_toArray, List.set_cons_zero, List.set_cons_succ]
              refine wpAnyH_take (i := 12) (oi := _) (v := ?_) rfl (by kernel_rfl) (by kernel_rfl) (by kernel_rfl) (Hpan.out _ _) (Or.inl ⟨by rfl, ?_⟩) (by assumption) ?_
              rotate_left
              · intro W hSw
                go_simp
                try (with_reducible rfl)
              try simp only [Act.put, List.getElem_toArray, List.getElem_cons_succ, List.getElem_cons_zero, List.setIfInBounds_toArray, List.set_cons_zero, List.set_cons_succ]
              refine wpAnyH_take (i := 13) (oi := _) (v := ?_) rfl (by kernel_rfl) (by kernel_rfl) (by kernel_rfl) (Hpan.out _ _) (Or.inl ⟨by rfl, ?_⟩) (by assumption) ?_
              rotate_left
              · intro W hSw
                go_simp
                try (with_reducible rfl)
              try simp only [Act.put, List.getElem_toArray, List.getElem_cons_succ, List.getElem_cons_zero, List.setIfInBounds_toArray, List.set_cons_zero, List.set_cons_succ]
              refine wpAnyH_done (by kernel_rfl) ?_ _
              go_wp2
              go_meet
              exact ⟨by rw [HY.out], hHeld⟩
            · go_simp
              refine (two_any yl ylb _).mono ?_
              rintro e u3 ⟨rfl, hb3⟩
              have S3 : Below w.heap.size w u3 := below_chain hHeld hb3
              go_wp2_with fail
              refine hK.out _ _ S3 (fun hHeld => ?_)
              clear hK K
              try simp only [Act.put, List.getElem_toArray, List.getElem_cons_succ, List.getElem_cons_zero, List.setIfInBounds_toArray, List.set_cons_zero, List.set_cons_succ]
              have c8 : u3.cell? ⟨u2.heap.size, 1, none⟩ = some (.string (⟨#[]⟩ : ByteArray)) := by rw [hb3.cell (p := ⟨u2.heap.size, 1, none⟩) (by rw [World.size_alloc]; exact Nat.lt_succ_self _), World.cell?_alloc_at _ _ _ _ rfl]; rfl
              refine wpAnyH_ready (rs := [8]) (by kernel_rfl) (by simp) ?_
              refine AllReadyH.cons (o := _) rfl (fun K hK => ?_) AllReadyH.nil
              go_simp
              refine hK.out _ _ hHeld (fun hHeld => ?_)
              clear hK K
              try simp only [Act.put, List.getElem_toArray, List.getElem_cons_succ, List.getElem_cons_zero, List.setIfInBounds_toArray, List.set_cons_zero, List.set_cons_succ]
              refine wpAnyH_take (i := 12) (oi := _) (v := ?_) rfl (by kernel_rfl) (by kernel_rfl) (by kernel_rfl) (Hpan.out _ _) (Or.inl ⟨by rfl, ?_⟩) (by assumption) ?_
              rotate_left
              · intro W hSw
                go_simp
                try (with_reducible rfl)
              try simp only [Act.put, List.getElem_toArray, List.getElem_cons_succ, List.getElem_cons_zero, List.setIfInBounds_toArray, List.set_cons_zero, List.set_cons_succ]
              refine wpAnyH_take (i := 13) (oi := _) (v := ?_) rfl (by kernel_rfl) (by kernel_rfl) (by kernel_rfl) (Hpan.out _ _) (Or.inl ⟨by rfl, ?_⟩) (by assumption) ?_
              rotate_left
              · intro W hSw
                go_simp
                try (with_reducible rfl)
              try simp only [Act.put, List.getElem_toArray, List.getElem_cons_succ, List.getElem_cons_zero, List.setIfInBounds_toArray, List.set_cons_zero, List.set_cons_succ]
              refine wpAnyH_done (by kernel_rfl) ?_ _
              go_wp2
              go_meet
              exact ⟨by rw [HY.out], hHeld⟩
          · go_simp
            refine (two_any yl ylb _).mono ?_
            rintro e u3 ⟨rfl, hb3⟩
            have S3 : Below w.heap.size w u3 := below_chain hHeld hb3
            go_wp2_with fail
            refine hK.out _ _ S3 (fun hHeld => ?_)
            clear hK K
            try simp only [Act.put, List.getElem_toArray, List.getElem_cons_succ, List.getElem_cons_zero, List.setIfInBounds_toArray, List.set_cons_zero, List.set_cons_succ]
            refine wpAnyH_ready (rs := [3]) (by kernel_rfl) (by simp) ?_
            refine AllReadyH.cons (o := _) rfl (fun K hK => ?_) AllReadyH.nil
            go_simp
            refine hK.out _ _ (S3.alloc S3.size _) (fun hHeld => ?_)
            clear hK K
            try simp only [Act.put, List.getElem_toArray, List.getElem_cons_succ, List.getElem_cons_zero, List.setIfInBounds_toArray, List.set_cons_zero, List.set_cons_succ]
            refine wpAnyH_take (i := 7) (oi := _) (v := ?_) rfl (by kernel_rfl) (by kernel_rfl) (by kernel_rfl) (Hpan.out _ _) (Or.inl ⟨by rfl, ?_⟩) (by assumption) ?_
            rotate_left
            · intro W hSw
              go_simp
              try (with_reducible rfl)
            try simp only [Act.put, List.getElem_toArray, List.getElem_cons_succ, List.getElem_cons_zero, List.setIfInBounds_toArray, List.set_cons_zero, List.set_cons_succ]
            refine wpAnyH_ready (rs := [8]) (by kernel_rfl) (by simp) ?_
            refine AllReadyH.cons (o := _) rfl (fun K hK => ?_) AllReadyH.nil
            go_simp
            refine hK.out _ _ hHeld (fun hHeld => ?_)
            clear hK K
            try simp only [Act.put, List.getElem_toArray, List.getElem_cons_succ, List.getElem_cons_zero, List.setIfInBounds_toArray, List.set_cons_zero, List.set_cons_succ]
            refine wpAnyH_take (i := 12) (oi := _) (v := ?_) rfl (by kernel_rfl) (by kernel_rfl) (by kernel_rfl) (Hpan.out _ _) (Or.inl ⟨by rfl, ?_⟩) (by assumption) ?_
            rotate_left
            · intro W hSw
              go_simp
              try (with_reducible rfl)
            try simp only [Act.put, List.getElem_toArray, List.getElem_cons_succ, List.getElem_cons_zero, List.setIfInBounds_toArray, List.set_cons_zero, List.set_cons_succ]
            refine wpAnyH_take (i := 13) (oi := _) (v := ?_) rfl (by kernel_rfl) (by kernel_rfl) (by kernel_rfl) (Hpan.out _ _) (Or.inl ⟨by rfl, ?_⟩) (by assumption) ?_
            rotate_left
            · intro W hSw
              go_simp
              try (with_reducible rfl)
            try simp only [Act.put, List.getElem_toArray, List.getElem_cons_succ, List.getElem_cons_zero, List.setIfInBounds_toArray, List.set_cons_zero, List.set_cons_succ]
            refine wpAnyH_done (by kernel_rfl) ?_ _
            go_wp2
            go_meet
            exact ⟨by rw [HY.out], hHeld⟩
    obtain ⟨rfl, hb1⟩ := hcut
    have B1 := hid hb1
    clear hb1
    generalize wc = w1 at *
    have nm1 : decide ((M : Int) < 1) = false := decide_eq_false (by omega)
    have nm2 : decide ((12 : Int) < (M : Int)) = false := decide_eq_false (by omega)
    go_upto_region 10 with fail
    clear nm1 nm2
    have hs0 := Hs.out
    obtain ⟨h1, eh1⟩ : ∃ x : Nat, x = s / 3600 := ⟨_, rfl⟩
    obtain ⟨x60, e60⟩ : ∃ x : Nat, x = s / 60 := ⟨_, rfl⟩
    obtain ⟨i1, ei1⟩ : ∃ x : Nat, x = x60 % 60 := ⟨_, rfl⟩
    obtain ⟨x1, ex1⟩ : ∃ x : Nat, x = s % 60 := ⟨_, rfl⟩
    have t1 : (s : Int).tdiv 3600 = (h1 : Int) := by rw [Int.tdiv_eq_ediv_of_nonneg (by omega)]; omega
    have u1 : (s : Int) / 3600 = (h1 : Int) := by omega
    have t2 : (s : Int).tdiv 60 = (x60 : Int) := by rw [Int.tdiv_eq_ediv_of_nonneg (by omega)]; omega
    have u2 : (s : Int) / 60 = (x60 : Int) := by omega
    have t3 : (x60 : Int).tmod 60 = (i1 : Int) := by rw [Int.tmod_eq_emod_of_nonneg (by omega)]; omega
    have u3 : (x60 : Int) % 60 = (i1 : Int) := by omega
    have t4 : (s : Int).tmod 60 = (x1 : Int) := by rw [Int.tmod_eq_emod_of_nonneg (by omega)]; omega
    have u4 : (s : Int) % 60 = (x1 : Int) := by omega
    have y1 : IntKind.i64.wrap (h1 : Int) = (h1 : Int) := IntWalk.i64_in _ (by omega)
    have y2 : IntKind.i64.wrap (x60 : Int) = (x60 : Int) := IntWalk.i64_in _ (by omega)
    have y3 : IntKind.i64.wrap (i1 : Int) = (i1 : Int) := IntWalk.i64_in _ (by omega)
    have y4 : IntKind.i64.wrap (x1 : Int) = (x1 : Int) := IntWalk.i64_in _ (by omega)
    have y5 : IntKind.i64.wrap (3 * (M : Int)) = 3 * (M : Int) := IntWalk.i64_in _ (by omega)
    have y6 : IntKind.i64.wrap (3 * (M : Int) - 3) = 3 * (M : Int) - 3 := IntWalk.i64_in _ (by omega)
    have b1 : h1 ≤ 9999 := by omega
    have b2 : i1 ≤ 9999 := by omega
    have b3 : x1 ≤ 9999 := by omega
    have b4 : D ≤ 9999 := by omega
    have zt : ∀ x, ((ddT x).size : Int) ≤ 8388608 := fun x => by rw [ddT_z]; decide
    obtain ⟨T1, hT1⟩ : ∃ X : ByteArray, X = ddT h1 ++ ⟨#[58]⟩ := ⟨_, rfl⟩
    obtain ⟨T2, hT2⟩ : ∃ X : ByteArray, X = T1 ++ ddT i1 := ⟨_, rfl⟩
    obtain ⟨T3, hT3⟩ : ∃ X : ByteArray, X = T2 ++ ⟨#[58]⟩ := ⟨_, rfl⟩
    obtain ⟨P0, hP0⟩ : ∃ X : ByteArray, X = T3 ++ ddT x1 := ⟨_, rfl⟩
    have z1 : T1.size = 3 := by rw [Lib.size_eq, hT1, cat7, List.length_append, ← Lib.size_eq, ddT_z]; rfl
    have z2 : T2.size = 5 := by rw [Lib.size_eq, hT2, cat7, List.length_append, ← Lib.size_eq, ← Lib.size_eq, ddT_z, z1]
    have z3 : T3.size = 6 := by rw [Lib.size_eq, hT3, cat7, List.length_append, ← Lib.size_eq, z2]; rfl
    have a1 := addS7 hT1 (zt _) (by show (1 : Int) ≤ _; decide)
    have a2 := addS7 hT2 (by omega) (zt _)
    have a3 := addS7 hT3 (by omega) (by show (1 : Int) ≤ _; decide)
    have a4 := addS7 hP0 (by omega) (zt _)
    have HP0 := hid (show P0 = wT F 0 from bytes_ext7 (by
      rw [wT_l, hP0, cat7, hT3, cat7, hT2, cat7, hT1, cat7, ddT_l, ddT_l, ddT_l]
      show _ = hms F.h F.i F.x
      rw [HF.out]
      show _ = hms (k % 86400 / 3600) (k % 86400 / 60 % 60) (k % 86400 % 60)
      rw [← hs0, ← e60, ← eh1, ← ei1, ← ex1]
      unfold hms
      simp))
    have HP1 := hid (show ddT D = wT F 1 from bytes_ext7 (by rw [wT_l, ddT_l, HF.out]; rfl))
    obtain ⟨MN, hMN⟩ : ∃ MN : ByteArray, MN = mixT.extract (3 * (M : Int) - 3).toNat (3 * (M : Int)).toNat := ⟨_, rfl⟩
    have sl : ∀ V, (Instr.slice 9 (.string ⟨#[106, 97, 110, 70, 69, 66, 77, 97, 114, 97, 112, 114, 77, 65, 89, 106, 117, 110, 74, 85, 76, 97, 117, 103, 83, 69, 80, 111, 99, 116, 78, 79, 86, 100, 101, 99]⟩) (some (.int .i64 (3 * (M : Int) - 3))) (some (.int .i64 (3 * (M : Int)))) none).run Tryd.prog V = .ok (.string MN) V := fun V => by
      rw [hMN]; exact run_slice_string V _ _ _ _ _ _ Tryd.underlying9 (by omega) (by omega) (by show 3 * (M : Int) ≤ 36; omega)
    have HP2 := hid (show MN = wT F 2 from bytes_ext7 (by
      rw [wT_l, HF.out, hMN, mix_at M hM1 hM2 _ _ (by omega) (by omega)]; rfl))
    clear hT1 hT2 hT3 hP0 hMN hs0 eh1 e60 ei1 ex1 z1 z2 z3 zt
    go_region_held3 (fun W => Below w.heap.size w W) (first
        | exact below_chain ‹_› ‹_›
        | exact B1.out.drew
        | exact Below.alloc ‹_› (Below.size ‹_›) _)
      (first
        | (go_at_call 20; refine (two_any _ (by assumption) _).mono ?_; rintro e w5 ⟨rfl, hb5⟩))
    rename_i hH
    have HI0 : Hid (DfI F w [0, 1, 2, 3] (.slice (some ⟨w5.heap.size, 0, none⟩) 4 4) ⟨#[]⟩ false (w5.alloc (.cells #[.string P0, .string (ddT D), .string MN, .string YT] 9))) := hid ⟨by
        have e : (([0, 1, 2, 3] : List Nat).map (wT F)).map Value.string = [.string P0, .string (ddT D), .string MN, .string YT] := by rw [HP0.out, HP1.out, HP2.out, HYT.out]; rfl
        rw [e]
        exact World.ownsRow_lit w5 #[.string P0, .string (ddT D), .string MN, .string YT] 4 (below_chain (below_chain (below_chain (below_chain B1.out.drew ‹_›) ‹_›) ‹_›) hb5).size (by unfold maxLen; omega) rfl, hH, by decide, by decide, dt0, InvK.start F, Scans.start⟩
    clear hH HP0 HP1 HP2
    generalize World.alloc w5 _ = w6 at *
    obtain ⟨g0, hg0⟩ : ∃ g0, g0 = w5.heap.size := ⟨_, rfl⟩
    rw [← hg0] at HI0 ⊢
    clear hg0 hb5
    have lo : (o.toNat : Int).tmod 24 = ((o.toNat % 24 : Nat) : Int) := rfl
    have lo2 : (o.toNat : Int) % 24 = ((o.toNat % 24 : Nat) : Int) := rfl
    have l24 : o.toNat % 24 ≤ 23 := by omega
    generalize o.toNat % 24 = l0 at *
    have lw1 : IntKind.u8.wrap (l0 : Int) = (l0 : Int) := IntWalk.u8_in _ (by omega)
    have lw2 : IntKind.i64.wrap (l0 : Int) = (l0 : Int) := IntWalk.i64_in _ (by omega)
    go_wp2
    clear lo lo2 lw1 lw2 t1 u1 t2 u2 t3 u3 t4 u4 y1 y2 y3 y4 y5 y6 b1 b2 b3 b4 a1 a2 a3 a4 sl
    go_loopw [15, 16, 17, 18, 19] (fun pv tv lv dv iv wr => ∃ (K : List Nat) (T : ByteArray) (left i : Nat) (dayed : Bool), iv = .int .i64 i ∧ tv = .string T ∧ lv = .int .i64 left ∧ dv = .bool dayed ∧ i ≤ 4 ∧ left ≤ 255 ∧ T.size ≤ 9 * (4 - i) ∧ Hid (K.length = i ∧ DfI F w K pv T dayed wr)) (fun _ _ _ _ iv _ => (RowKit.intOf iv).toNat)
    case atStart => exact ⟨[0, 1, 2, 3], ⟨#[]⟩, l0, 4, false, rfl, rfl, rfl, rfl, by omega, by omega, Nat.zero_le _, hid ⟨rfl, HI0.out⟩⟩
    case round =>
      obtain ⟨K, T, left, i, dayed, rfl, rfl, rfl, rfl, hi4, hl, hTz, hh⟩ := hrel
      have HK := hid hh.out.1
      have HI := hid hh.out.2
      clear hh
      by_cases hi0 : i = 0
      · subst hi0
        have hnil : K = [] := List.eq_nil_of_length_eq_zero HK.out
        have HCk : Hid (∀ w, Good w → Calls Tryd.prog 11 #[.string T] w fun e w' => e = .returned (.tuple #[.int .i64 k, .bool true]) ∧ Below w.heap.size w w') := hid (fun w G => cookie_is w G T (by omega) _ (by
          have hI := HI.out
          rw [hnil] at hI
          obtain ⟨Dt, hinv, hsc⟩ := hI.inv
          rw [hsc.date, hinv.full, HF.out]
          exact forms_val HD.out hY2 (decide (ix = 1))))
        have HB := hid HI.out.below
        clear hnil HI
        as_aux_lemma =>
          go_wp2_with fail
          refine (HCk.out _ (G.out.below HB.out)).mono ?_
          rintro e w5 ⟨rfl, hb5⟩
          have B5 := hid (below_chain HB.out hb5)
          clear hb5
          go_wp2_with fail
          refine (alive_any _ (G.out.below B5.out)).mono ?_
          rintro e w6 ⟨rfl, hb6⟩
          have B6 := hid (below_chain B5.out hb6)
          clear hb6
          go_wp2
          go_ret
          exact ⟨rfl, B6.out⟩
      · have ip : (i : Int) > 0 := by omega
        have in0 : ((i : Int) == 0) = false := by rw [beq_eq_false_iff_ne]; omega
        have hji : left % i < i := Nat.mod_lt _ (by omega)
        have hli : left / i ≤ 255 := Nat.le_trans (Nat.div_le_self _ _) hl
        have m1 : (left : Int).tmod (i : Int) = ((left % i : Nat) : Int) := rfl
        have m2 : (left : Int) % (i : Int) = ((left % i : Nat) : Int) := rfl
        have m3 : (left : Int).tdiv (i : Int) = ((left / i : Nat) : Int) := rfl
        have m4 : (left : Int) / (i : Int) = ((left / i : Nat) : Int) := rfl
        generalize left % i = j at *
        generalize left / i = l2 at *
        have m5 : IntKind.i64.wrap (j : Int) = (j : Int) := IntWalk.i64_in _ (by omega)
        have m6 : IntKind.i64.wrap (l2 : Int) = (l2 : Int) := IntWalk.i64_in _ (by omega)
        have hjK : j < K.length := by rw [HK.out]; exact hji
        obtain ⟨kk, hkk⟩ : ∃ kk, kk = K[j]'hjK := ⟨_, rfl⟩
        obtain ⟨PT, hPT⟩ : ∃ PT, PT = wT F kk := ⟨_, rfl⟩
        have hTj : (K.map (wT F))[j]? = some PT := by rw [List.getElem?_map, List.getElem?_eq_getElem hjK, ← hkk, hPT]; rfl
        have hlen : (K.map (wT F)).length = i := by rw [List.length_map, HK.out]
        obtain ⟨g, cap, hpv, hg1, hg2⟩ := HI.out.own.form (by rw [hlen]; omega)
        subst hpv
        have hc0 := hid (row_at7 HI.out.own hTj)
        have hca := hid (row_at7 (HI.out.own.alloc (.cells #[.int .u8 c.toNat] 5)) hTj)
        have HTj := hid hTj
        have Hlen := hid hlen
        have HPT := hid hPT
        have Hkk := hid hkk
        have hPz : PT.size ≤ 8 := by rw [hPT, Lib.size_eq, wT_l]; exact wordF_len HOK.out kk
        rw [hlen]
        clear hTj hlen hPT hkk
        have c0 := hc0.out
        have jI : (j : Int) < (i : Int) := by omega
        obtain ⟨yy, hyy⟩ : ∃ yy : Nat, yy = Y % 100 := ⟨_, rfl⟩
        have ty : (Y : Int).tmod 100 = (yy : Int) := by rw [Int.tmod_eq_emod_of_nonneg (by omega)]; omega
        have uy : (Y : Int) % 100 = (yy : Int) := by omega
        obtain ⟨q1, hq1⟩ : ∃ b : Bool, b = decide (PT.size = 2) := ⟨_, rfl⟩
        obtain ⟨q2, hq2⟩ : ∃ b : Bool, b = (PT.toList == YT.toList) := ⟨_, rfl⟩
        obtain ⟨q4, hq4⟩ : ∃ b : Bool, b = decide (YT.size = 2) := ⟨_, rfl⟩
        obtain ⟨q5, hq5⟩ : ∃ b : Bool, b = decide (D ≠ yy) := ⟨_, rfl⟩
        have f1 : ((PT.size : Int) == 2) = q1 := by rw [hq1, Bool.eq_iff_iff, beq_iff_eq, decide_eq_true_iff]; omega
        have f4 : ((YT.size : Int) == 2) = q4 := by rw [hq4, Bool.eq_iff_iff, beq_iff_eq, decide_eq_true_iff]; omega
        have f5 : ((D : Int) != (yy : Int)) = q5 := by rw [hq5, Bool.eq_iff_iff, bne_iff_ne, decide_eq_true_iff]; omega
        obtain ⟨q3, hq3⟩ : ∃ b : Bool, b = !dayed := ⟨_, rfl⟩
        have f3 : (!dayed) = q3 := hq3.symm
        have HQ3 := hid hq3
        clear hq3
        have HQ := hid (And.intro hq1 (And.intro hq2 (And.intro hq4 hq5)))
        have Hyy := hid hyy
        have f2 : (PT.toList == YT.toList) = q2 := hq2.symm
        clear hq1 hq2 hq4 hq5 hyy
        obtain ⟨Q, hQ⟩ : ∃ Q : Bool, Q = (q1 && q2 && q3 && q4 && q5) := ⟨_, rfl⟩
        go_upto_region 19 with fail
        go_cut [156] (fun v wx => v = .bool Q ∧ wr = wx)
        case first =>
          have HQ2 := hid hQ
          clear hQ
          cases q1 with
          | false => 
                      as_aux_lemma =>
                        go_wp2
                        go_meet
                        exact ⟨by rw [HQ2.out]; rfl, rfl⟩
          | true =>
            cases q2 with
            | false => 
                      as_aux_lemma =>
                        go_wp2
                        go_meet
                        exact ⟨by rw [HQ2.out]; rfl, rfl⟩
            | true =>
              cases q3 with
              | false => 
                      as_aux_lemma =>
                        go_wp2
                        go_meet
                        exact ⟨by rw [HQ2.out]; rfl, rfl⟩
              | true =>
                cases q4 with
                | false => 
                      as_aux_lemma =>
                        go_wp2
                        go_meet
                        exact ⟨by rw [HQ2.out]; rfl, rfl⟩
                | true =>
                  cases q5 with
                  | false => 
                      as_aux_lemma =>
                        go_wp2
                        go_meet
                        exact ⟨by rw [HQ2.out]; rfl, rfl⟩
                  | true => 
                      as_aux_lemma =>
                        go_wp2
                        go_meet
                        exact ⟨by rw [HQ2.out]; rfl, rfl⟩
        obtain ⟨rfl, rfl⟩ := hcut
        cases Q with
        | true =>
          have HB := hid HI.out.below
          go_wp2
          go_ret
          exact ⟨rfl, HB.out⟩
        | false =>
          have HQF := hid hQ
          clear hQ f2 f3 f4 f5 ty uy
          obtain ⟨d2, hd2⟩ : ∃ d2 : Bool, d2 = (dayed || q1) := ⟨_, rfl⟩
          have HD2 := hid hd2
          clear hd2
          go_upto_region 21 with fail
          go_cut [18] (fun v wx => v = .bool d2 ∧ wr = wx)
          case first =>
            cases dayed with
            | true =>
              go_wp2
              go_meet
              exact ⟨by rw [HD2.out]; rfl, rfl⟩
            | false =>
              cases q1 with
              | true =>
                go_wp2
                go_meet
                exact ⟨by rw [HD2.out]; rfl, rfl⟩
              | false =>
                go_wp2
                go_meet
                exact ⟨by rw [HD2.out]; rfl, rfl⟩
          obtain ⟨rfl, rfl⟩ := hcut
          obtain ⟨U1, hU1⟩ : ∃ X : ByteArray, X = T ++ PT := ⟨_, rfl⟩
          obtain ⟨U2, hU2⟩ : ∃ X : ByteArray, X = U1 ++ ⟨#[c]⟩ := ⟨_, rfl⟩
          have zU1 : U1.size = T.size + PT.size := by rw [Lib.size_eq, hU1, cat7, List.length_append, ← Lib.size_eq, ← Lib.size_eq]
          have zU2 : U2.size = U1.size + 1 := by rw [Lib.size_eq, hU2, cat7, List.length_append, ← Lib.size_eq]; rfl
          have hUz := hid (show U2.size ≤ 9 * (4 - (i - 1)) by omega)
          have a1 := addS7 hU1 (by omega) (by omega)
          have a2 := addS7 hU2 (by omega) (by show (1 : Int) ≤ _; decide)
          have HU := hid (show U2.data.toList = T.data.toList ++ wordF F kk ++ [c] by rw [hU2, cat7, hU1, cat7, HPT.out, wT_l])
          clear hU1 hU2 zU1 zU2 f1
          go_upto_region 22 with fail
          go_cut [16] (fun v wx => v = .string U2 ∧ Below wr.heap.size wr wx)
          case first =>
            as_aux_lemma =>
              have ca := hca.out
              have e5 := conv7 c (wr.alloc (.cells #[.int .u8 c.toNat] 5)) wr.heap.size (cell7 c wr)
              have e6 := conv7 c (wr.alloc (.cells #[.int .u8 c.toNat] 5)).drew wr.heap.size (cell7 c wr)
              go_region
              all_goals go_wp2
              all_goals go_meet
              all_goals exact ⟨rfl, ((Below.refl _ _).alloc (Nat.le_refl _) _).drew⟩
          obtain ⟨rfl, hb7⟩ := hcut
          generalize wc = w7 at *
          have hT7 := (hb7.block g hg2)
          have Own7 := hid ((Touch.of_below (S := fun _ => False) hb7).own HI.out.own (fun _ _ hf => hf))
          have B7 := hid (below_chain HI.out.below hb7)
          have hg7 := hid (Nat.lt_of_lt_of_le hg2 hb7.size)
          have hcap : i ≤ cap := by
            rcases HI.out.own.2 with ⟨h', _⟩ | ⟨g', cap', cur, h', _, _, hc, _⟩
            · simp at h'
            · simp only [Value.slice.injEq, Option.some.injEq, Addr.mk.injEq, and_true, true_and] at h'
              obtain ⟨_, rfl⟩ := h'
              rw [Hlen.out] at hc; exact hc
          have jc : (j : Int) ≤ (cap : Int) := by omega
          have j1 : IntKind.i64.wrap ((j : Int) + 1) = (j : Int) + 1 := IntWalk.i64_in _ (by omega)
          have j2 : (j : Int) + 1 ≤ (i : Int) := by omega
          clear hT7 hb7 c0 a1 a2
          obtain ⟨Ts, hTs⟩ : ∃ Ts, Ts = K.map (wT F) := ⟨_, rfl⟩
          rw [← hTs] at Own7
          have hTl := hid (show Ts.length = i by rw [hTs]; exact Hlen.out)
          have HTs := hid hTs
          have Cell7 := hid (fun x t (hx : Ts[x]? = some t) => row_at7 Own7.out hx)
          clear hTs
          have hA1 : (Ts.take j).length = j := by rw [List.length_take, hTl.out]; omega
          have hA2 : ∀ (x : Nat) (t : ByteArray), (Ts.take j)[x]? = some t → w7.cell? ((⟨g, 0, none⟩ : Addr).add x) = some (.string t) := fun x t hx => by
            have hadd : (⟨g, 0, none⟩ : Addr).add x = ⟨g, x, none⟩ := by unfold Addr.add; split <;> simp_all
            rw [hadd]
            refine Cell7.out x t ?_
            have hxj : x < j := by have := (List.getElem?_eq_some_iff.1 hx).1; omega
            rw [List.getElem?_take, if_pos hxj] at hx
            exact hx
          have hA3 : ([] : List ByteArray).length + (Ts.take j).length ≤ 1000 := by rw [hA1]; simp; omega
          have hA4 : ([] ++ Ts.take j : List ByteArray).length = j := by rw [List.nil_append]; exact hA1
          have hN : w7.ownsRow w.heap.size 9 1 (.slice none 0 0) 0 (([] : List ByteArray).map Value.string) := World.ownsRow_nil _ _ _ _
          have hz7 := B7.out.size
          have HA := hid (And.intro hA2 (And.intro hA3 (And.intro hA4 (And.intro hN (And.intro hA1 hz7)))))
          clear hA1 hA2 hA3 hA4 hN hz7
          go_upto_region 25 with (at_builtin; refine appR rfl _ _ rfl w.heap.size [] (Ts.take j) 0 rfl (.slice none 0 0) rfl HA.out.2.2.2.1 ⟨g, 0, none⟩ j cap rfl HA.out.2.2.2.2.1 HA.out.1 HA.out.2.1 HA.out.2.2.2.2.2 ?_; intro v8 w8 h8; have h81 := h8.1; rw [HA.out.2.2.1] at h81; obtain ⟨ao8, cp8, hv8⟩ := slice_of_row7 h81; subst hv8; have H8 := hid (And.intro h81 h8.2); clear h8 h81)
          have hb8 : Below w7.heap.size w7 w8 := H8.out.2.1.below (fun x hx => by cases hx) (Nat.le_refl _)
          have B8 := hid (B7.out.trans (hb8.mono B7.out.size))
          have hD2 : ∀ (x : Nat) (t : ByteArray), (Ts.drop (j + 1))[x]? = some t → w8.cell? ((⟨g, j + 1, none⟩ : Addr).add x) = some (.string t) := fun x t hx => by
            have hadd : (⟨g, j + 1, none⟩ : Addr).add x = ⟨g, j + 1 + x, none⟩ := by unfold Addr.add; split <;> simp_all
            rw [hadd, hb8.cell (p := ⟨g, j + 1 + x, none⟩) hg7.out]
            rw [List.getElem?_drop] at hx
            exact Cell7.out _ t hx
          have hD1 : (Ts.drop (j + 1)).length = i - (j + 1) := by rw [List.length_drop, hTl.out]
          have hD3 : (Ts.take j).length + (Ts.drop (j + 1)).length ≤ 1000 := by rw [HA.out.2.2.2.2.1, hD1]; omega
          have eK : Ts.take j ++ Ts.drop (j + 1) = (cutK K j).map (wT F) := by rw [cutK_map, HTs.out]; rfl
          have HE := hid (And.intro hD2 (And.intro hD1 (And.intro hD3 eK)))
          have hi1 : IntKind.i64.wrap ((i : Int) - 1) = (i : Int) - 1 := IntWalk.i64_in _ (by omega)
          clear hb8 hD1 hD2 hD3 eK
          by_cases hcj : cap = j + 1
          · have hij := hid (show i - (j + 1) = 0 by omega)
            as_aux_lemma =>
              have HM := hid (show ∀ (x : Nat) (t : ByteArray), (Ts.drop (j + 1))[x]? = some t → w8.cell? ((⟨g, 0, none⟩ : Addr).add x) = some (.string t) from fun x t hx => absurd (List.getElem?_eq_some_iff.1 hx).1 (by rw [HE.out.2.1, hij.out]; exact Nat.not_lt_zero _))
              go_upto_region 16 with (at_builtin; go_loud (refine appR rfl _ _ rfl w.heap.size (Ts.take j) (Ts.drop (j + 1)) j HA.out.2.2.2.2.1 (.slice ao8 j cp8) rfl H8.out.1 ⟨g, 0, none⟩ (i - (j + 1)) _ rfl HE.out.2.1 HM.out HE.out.2.2.1 B8.out.size ?_; intro v9 w9 h9; have H9 := hid h9; clear h9))
              have B9 : Below w.heap.size w w9 := B8.out.trans (H9.out.2.1.below (fun x hx => by
                rcases H8.out.2.2 x hx with h | h
                · cases h
                · have := B7.out.size; omega) B8.out.size)
              have less := less_at HI.out.nodup hjK
              rw [← Hkk.out] at less
              have HN : Hid (DfI F w (cutK K j) v9 U2 d2 w9) := hid ⟨by have h := H9.out.1; rw [HE.out.2.2.2] at h; exact h, B9, less.2, fun x hx => HI.out.lt4 x (by
                  rcases List.mem_append.1 hx with h | h
                  · exact List.mem_of_mem_take h
                  · exact List.mem_of_mem_drop h), by
                obtain ⟨Dt, hinv, hsc⟩ := HI.out.inv
                have hz : PT.size = (wordF F kk).length := by rw [HPT.out, Lib.size_eq, wT_l]
                have hk4 : kk < 4 := by rw [Hkk.out]; exact HI.out.lt4 _ (List.getElem_mem hjK)
                refine ⟨word0 Dt (wordF F kk), ?_, ?_⟩
                · have hs := InvK.step HOK.out hinv less.1 hk4 (fun hgo => by
                    obtain ⟨g1, g2, g3, g4, g5⟩ := hgo
                    have hQ0 := HQF.out
                    have e1 : q1 = true := by rw [HQ.out.1, hz]; exact decide_eq_true g1
                    have e2 : q2 = true := by
                      have hPY : PT = YT := by
                        rw [HPT.out, HYT.out]
                        exact bytes_ext7 (by rw [wT_l, wT_l, g2]; rfl)
                      rw [HQ.out.2.1, hPY]; exact beq_self_eq_true _
                    have e3 : q3 = true := by rw [HQ3.out, g3]; rfl
                    have e4 : q4 = true := by
                      rw [HQ.out.2.2.1]
                      refine decide_eq_true ?_
                      rw [HYT.out, Lib.size_eq, wT_l]; exact g4
                    have e5 : q5 = true := by
                      rw [HQ.out.2.2.2, Hyy.out]
                      refine decide_eq_true ?_
                      have hg5 := g5
                      rw [HF.out] at hg5
                      exact hg5
                    rw [e1, e2, e3, e4, e5] at hQ0
                    cases hQ0)
                  rw [HD2.out, HQ.out.1, hz]
                  exact hs
                · rw [HU.out]
                  exact hsc.more HOK.out kk hbet.out⟩
              have HCl := hid (show (cutK K j).length = i - 1 by rw [cutK_len K hjK, HK.out])
              clear B9 less
              go_wp2
              exact ⟨⟨cutK K j, U2, l2, i - 1, d2, congrArg (Value.int .i64) (by omega), rfl, rfl, rfl, by omega, hli, hUz.out, hid ⟨HCl.out, HN.out⟩⟩, by simp only [RowKit.intOf]; omega⟩
          · as_aux_lemma =>
              have HM := hid (show ∀ (x : Nat) (t : ByteArray), (Ts.drop (j + 1))[x]? = some t → w8.cell? ((⟨g, j + 1, none⟩ : Addr).add x) = some (.string t) from HE.out.1)
              go_upto_region 16 with (at_builtin; go_loud (refine appR rfl _ _ rfl w.heap.size (Ts.take j) (Ts.drop (j + 1)) j HA.out.2.2.2.2.1 (.slice ao8 j cp8) rfl H8.out.1 ⟨g, j + 1, none⟩ (i - (j + 1)) _ rfl HE.out.2.1 HM.out HE.out.2.2.1 B8.out.size ?_; intro v9 w9 h9; have H9 := hid h9; clear h9))
              have B9 : Below w.heap.size w w9 := B8.out.trans (H9.out.2.1.below (fun x hx => by
                rcases H8.out.2.2 x hx with h | h
                · cases h
                · have := B7.out.size; omega) B8.out.size)
              have less := less_at HI.out.nodup hjK
              rw [← Hkk.out] at less
              have HN : Hid (DfI F w (cutK K j) v9 U2 d2 w9) := hid ⟨by have h := H9.out.1; rw [HE.out.2.2.2] at h; exact h, B9, less.2, fun x hx => HI.out.lt4 x (by
                  rcases List.mem_append.1 hx with h | h
                  · exact List.mem_of_mem_take h
                  · exact List.mem_of_mem_drop h), by
                obtain ⟨Dt, hinv, hsc⟩ := HI.out.inv
                have hz : PT.size = (wordF F kk).length := by rw [HPT.out, Lib.size_eq, wT_l]
                have hk4 : kk < 4 := by rw [Hkk.out]; exact HI.out.lt4 _ (List.getElem_mem hjK)
                refine ⟨word0 Dt (wordF F kk), ?_, ?_⟩
                · have hs := InvK.step HOK.out hinv less.1 hk4 (fun hgo => by
                    obtain ⟨g1, g2, g3, g4, g5⟩ := hgo
                    have hQ0 := HQF.out
                    have e1 : q1 = true := by rw [HQ.out.1, hz]; exact decide_eq_true g1
                    have e2 : q2 = true := by
                      have hPY : PT = YT := by
                        rw [HPT.out, HYT.out]
                        exact bytes_ext7 (by rw [wT_l, wT_l, g2]; rfl)
                      rw [HQ.out.2.1, hPY]; exact beq_self_eq_true _
                    have e3 : q3 = true := by rw [HQ3.out, g3]; rfl
                    have e4 : q4 = true := by
                      rw [HQ.out.2.2.1]
                      refine decide_eq_true ?_
                      rw [HYT.out, Lib.size_eq, wT_l]; exact g4
                    have e5 : q5 = true := by
                      rw [HQ.out.2.2.2, Hyy.out]
                      refine decide_eq_true ?_
                      have hg5 := g5
                      rw [HF.out] at hg5
                      exact hg5
                    rw [e1, e2, e3, e4, e5] at hQ0
                    cases hQ0)
                  rw [HD2.out, HQ.out.1, hz]
                  exact hs
                · rw [HU.out]
                  exact hsc.more HOK.out kk hbet.out⟩
              have HCl := hid (show (cutK K j).length = i - 1 by rw [cutK_len K hjK, HK.out])
              clear B9 less
              go_wp2
              exact ⟨⟨cutK K j, U2, l2, i - 1, d2, congrArg (Value.int .i64) (by omega), rfl, rfl, rfl, by omega, hli, hUz.out, hid ⟨HCl.out, HN.out⟩⟩, by simp only [RowKit.intOf]; omega⟩
end Go.Proofs.YtnkfgedpdokcpaaDoor
